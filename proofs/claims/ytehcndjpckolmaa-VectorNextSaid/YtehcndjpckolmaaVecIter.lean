/- The walks of layer 5 (vector): Dots, and what it hands back. -/
import Derived.Test.YtehcndjpckolmaaVecShelf
import Derived.Test.YtehcndjpckolmaaInts
namespace Go.Proofs.Ytehcndjpckolmaa.Vec
open Go.RowKit Go.Maps Go.Sort Go.Shelf Go.Proofs.Ytehcndjpckolmaa.Ints

attribute [local go_sem] Oper.semAt_some

/-- The block of the row that lies in a box. -/
def blk (W : World) (B : Nat) : Option Nat := match W.heap[B]? with
  | some (.cells cs _ _) => (cs[0]?).bind Value.ownBlock
  | _ => none
/-- What a round may write: these boxes, and the rows in them. -/
def Mine (Bs : List Nat) (W : World) (i : Nat) : Prop := i ∈ Bs ∨ ∃ B, B ∈ Bs ∧ blk W B = some i
/-- What a round keeps: all that came with it, and all cells, but for what is its own. -/
def KV (base : Nat) (Bs : List Nat) (A C : World) : Prop := A.heap.size ≤ C.heap.size ∧ ∀ i o, A.heap[i]? = some o → ¬ Mine Bs A i → (i < base ∨ o.isCells = true) → C.heap[i]? = some o ∧ ¬ Mine Bs C i
theorem KV.trans {base : Nat} {Bs : List Nat} {A C D : World} (h : KV base Bs A C) (k : KV base Bs C D) : KV base Bs A D :=
  ⟨Nat.le_trans h.1 k.1, fun i o hA hm hc => by obtain ⟨hC, hm2⟩ := h.2 i o hA hm hc; exact k.2 i o hC hm2 hc⟩
theorem KV.put {base : Nat} {Bs : List Nat} (hBs : ∀ B ∈ Bs, B < base) (W : World) (l : Nat) (o o' : Obj) (hl : base ≤ l) (hW : W.heap[l]? = some o) (ho : o.isCells = false) : KV base Bs W (W.putObj l o') := by
  have hlt : l < W.heap.size := (Array.getElem?_eq_some_iff.1 hW).1
  have hsame : ∀ j, j < W.heap.size → j ≠ l → (W.putObj l o').heap[j]? = W.heap[j]? := fun j hj hne => (grownBy_putObj' W l o').block j hj (fun e => hne (by cases e; rfl))
  refine ⟨by simp, fun i x hi hm hc => ?_⟩
  have hne : i ≠ l := by
    rintro rfl
    rw [hW] at hi
    cases hi
    rcases hc with h | h
    · omega
    · rw [ho] at h; cases h
  have hil : i < W.heap.size := (Array.getElem?_eq_some_iff.1 hi).1
  refine ⟨(hsame i hil hne).trans hi, fun h => hm ?_⟩
  rcases h with h | ⟨B, h1, h2⟩
  · exact Or.inl h
  · refine Or.inr ⟨B, h1, ?_⟩
    have := hBs B h1
    unfold blk at h2 ⊢
    rwa [hsame B (by omega) (by omega)] at h2

/-- What goes through a vector holds. -/
def Held (Bs : List Nat) (Bx b : Nat) (L : List P) (v : Value) (W : World) : Prop :=
  (Boxed W Bx 85 (.map (some b)) ∧ ¬ Mine Bs W Bx) ∧ (VMap W b L ∧ ¬ Mine Bs W b) ∧ (W.ownsRow 0 3 1 v L.length ((L.map P.who).flatMap enI) ∧ ∀ g, v.ownBlock = some g → ¬ Mine Bs W g)
theorem Held.keep {base : Nat} {Bs : List Nat} {Bx b : Nat} {L : List P} {v : Value} {A C : World} (hBx : Bx < base) (hb : b < base) (h : Held Bs Bx b L v A) (k : KV base Bs A C) : Held Bs Bx b L v C := by
  obtain ⟨⟨h1, h2⟩, ⟨h3, h4⟩, ⟨h5, h6⟩⟩ := h
  refine ⟨k.2 Bx _ h1 h2 (Or.inl hBx), ?_, ?_⟩
  · obtain ⟨es, clock, e1, F, e2, e3⟩ := h3
    obtain ⟨q1, q2⟩ := k.2 b _ e1 h4 (Or.inl hb)
    exact ⟨⟨es, clock, q1, F, e2, e3⟩, q2⟩
  · obtain ⟨hlen, hc⟩ := h5
    rcases hc with ⟨rfl, h0⟩ | ⟨g, cap, cur, rfl, r0, r1, r2⟩
    · exact ⟨⟨hlen, Or.inl ⟨rfl, h0⟩⟩, fun g hg => by cases hg⟩
    · obtain ⟨q1, q2⟩ := k.2 g _ r1 (h6 g rfl) (Or.inr rfl)
      exact ⟨⟨hlen, Or.inr ⟨g, cap, cur, rfl, r0, q1, r2⟩⟩, fun g' hg => by cases hg; exact q2⟩

theorem dots_in (n : Nat) (b : Nat) (w : World) :
    CallsIn Fence.wide n Try.prog 84 #[.map (some b)] w fun e w' =>
      e = .returned (.func (.func 100) #[] #[.pointer (some ⟨w.heap.size, 0, none⟩)]) ∧ w' = w.alloc (.cells #[.map (some b)] 85) := by
  refine callsIn_of_wp Try.func84 rfl trivial ?_ rfl
  simp only [Try.ntmps84, List.size_toArray, List.length_cons, List.length_nil, Nat.reduceAdd, Nat.reduceSub, Array.replicate_succ, Array.replicate_zero, List.push_toArray, List.append_toArray, List.nil_append, List.cons_append]
  gi_wp2
  go_ret
  exact ⟨rfl, rfl⟩

theorem sorts (m : Nat) : AnyZI.SortsIn Try.prog sortedA_ren Fence.wide m :=
  ⟨fun blk off cap ss W hH hblk hsz => callsIn_wide.2 (AnyM.slices_Sort_int sortA blk off cap ss W hH hblk hsz),
   fun p cap W => callsIn_wide.2 (AnyM.slices_Sort_int_none sortA p cap W)⟩
theorem keys_call (n b : Nat) (W : World) : CallsIn Fence.wide n Try.prog 102 #[.map (some b)] W fun e w' =>
    e = .returned (.func (.func 115) #[] #[.pointer (some ⟨W.heap.size, 0, none⟩)]) ∧ w' = W.alloc (.cells #[.map (some b)] 85) := AnyZI.keys_in keysA Fence.wide n trivial rfl (some b) W
theorem sorted_call (n : Nat) (hn : 4 ≤ n) (b : Nat) (L : List P) (hL : L.length ≤ 100000) (hr : Rises L) (W : World) (hv : VMap W b L) :
    CallsIn Fence.wide n Try.prog 101 #[.func (.func 115) #[] #[.pointer (some ⟨W.heap.size, 0, none⟩)]] (W.alloc (.cells #[.map (some b)] 85)) fun e w' =>
      ∃ v, e = .returned v ∧ w'.ownsRow (W.heap.size + 1) 3 1 v L.length ((L.map P.who).flatMap enI) ∧ Below W.heap.size W w' := by
  have hbl := hv.lt
  have hseq : SeqGives Fence.wide (n - 1 - 1 - 1) Try.prog 115 #[.pointer (some ⟨W.heap.size, 0, none⟩)] encZ (fun ss => ss.Perm (intKeys (dat (H := Unit) L))) (Maps.size (dat (H := Unit) L)) (W.alloc (.cells #[.map (some b)] 85)) :=
    AnyZI.keys_gives (ρ := keysA_ren) { keysA with } Fence.wide _ trivial rfl (by omega) W.heap.size b L.length _ _ (by simp) (by simp) (by
      obtain ⟨es, clock, hb, Ft, hs, hD⟩ := hv
      exact ⟨es, clock, (Below.heap_alloc _ _ b hbl).trans hb, Ft, hs, hD⟩)
  have cS := AnyZI.sorted_in sortedA Fence.wide n trivial trivial trivial trivial rfl hn (sorts _) (enters_of Try.func114 (by kernel_rfl) rfl) 115 #[.pointer (some ⟨W.heap.size, 0, none⟩)] trivial (enters_of Try.func115 (by kernel_rfl) rfl) _ _ (by rw [dat_size]; unfold maxLen; omega) (by rw [dat_size]; omega) _ hseq
  change CallsIn _ _ Try.prog 101 _ _ _ at cS
  refine cS.mono ?_
  rintro e w' ⟨v, ss, rfl, hS, hrow, _, hb⟩
  rw [dat_keys] at hS
  rw [keys_sorted hr hS, ← flat_enI, World.size_alloc] at hrow
  have hlen := hS.length_eq
  rw [List.length_map] at hlen
  rw [hlen] at hrow
  exact ⟨v, rfl, hrow, ((Below.refl _ W).alloc (Nat.le_refl _) _).trans (hb.mono (by simp))⟩
end Go.Proofs.Ytehcndjpckolmaa.Vec
