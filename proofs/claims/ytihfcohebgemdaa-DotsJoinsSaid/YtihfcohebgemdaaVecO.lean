/- The walks of layer 5 (vector) where a vector may be nil: what goes through it, Join, Covers, Compare, Knows. PRINTED by wip/genveco.py out of VecIter, VecDots, VecColl, VecJoin, VecCov. -/
import Derived.Test.YtihfcohebgemdaaVecLay
import Derived.Test.YtihfcohebgemdaaInts
import Derived.Maps.OwnSet
set_option linter.unusedSimpArgs false
set_option linter.unusedVariables false
namespace Go.Proofs.Ytihfcohebgemdaa.Vec
open Go.RowKit Go.Maps Go.Sort Go.Shelf Go.Proofs.Ytihfcohebgemdaa.Ints

attribute [local go_sem] Oper.semAt_some

theorem VMap.own {A C : World} {B b : Nat} {l : List P} {row : Option Nat} (h : VMap A b l) (hb : b < B) (hg : A.grownBy C row) (hr : ∀ r, row = some r → B ≤ r) : VMap C b l :=
  h.kept hg fun e => by have := hr b e.symm; omega
theorem VMap.at {w : World} {b : Nat} {l : List P} (h : VMap w b l) {x : Int} (h1 : -9223372036854775808 ≤ x) (h2 : x ≤ 9223372036854775807) :
    (Instr.lookup 38 (.map (some b)) (.int .i64 x) false).run Try.prog w = .ok (.int .i64 (getF l x)) w := by
  obtain ⟨c, hrun, hat, hwc⟩ := h.lookup_int law Try.underlying38 Try.underlying3 (Try.zeroValue3 _) (key h1 h2)
  obtain rfl := dat_get hat
  exact hrun
theorem VMap.len {w : World} {b : Nat} {l : List P} (h : VMap w b l) (ty : TypeId) : (Builtin.len_ #[38] ty #[.map (some b)]).run Try.prog w = .ok (.int .i64 l.length) w := by
  have := World.ownsMap.len h Try.underlying38 ty
  rwa [dat_size] at this
/-- A vector that may be nil reads as a row. -/
def OMap (w : World) (o : Option Nat) (l : List P) : Prop := match o with
  | none => l = []
  | some b => VMap w b l
theorem OMap.below {w w' : World} {o : Option Nat} {l : List P} (h : OMap w o l) (hb : Below w.heap.size w w') : OMap w' o l := by
  cases o with
  | none => exact h
  | some b => exact VMap.below h hb
theorem OMap.lt {w : World} {o : Option Nat} {l : List P} (h : OMap w o l) : ∀ i, o = some i → i < w.heap.size := by
  rintro i rfl
  exact VMap.lt h
theorem OMap.own {A C : World} {B : Nat} {b : Option Nat} {l : List P} {row : Option Nat} (h : OMap A b l) (hb : ∀ i, b = some i → i < B) (hg : A.grownBy C row) (hr : ∀ r, row = some r → B ≤ r) : OMap C b l := by
  cases b with
  | none => exact h
  | some b => exact VMap.own h (hb b rfl) hg hr
theorem OMap.at {w : World} {b : Option Nat} {l : List P} (h : OMap w b l) {x : Int} (h1 : -9223372036854775808 ≤ x) (h2 : x ≤ 9223372036854775807) :
    (Instr.lookup 38 (.map b) (.int .i64 x) false).run Try.prog w = .ok (.int .i64 (getF l x)) w := by
  cases b with
  | none =>
    have h : l = [] := h
    subst h
    exact Maps.look_nil false law Try.underlying38 (Try.zeroValue3 w) (key h1 h2)
  | some b => exact VMap.at h h1 h2
theorem OMap.len {w : World} {b : Option Nat} {l : List P} (h : OMap w b l) (ty : TypeId) : (Builtin.len_ #[38] ty #[.map b]).run Try.prog w = .ok (.int .i64 l.length) w := by
  cases b with
  | none =>
    have h : l = [] := h
    subst h
    exact Maps.len_nil Try.underlying38 ty
  | some b => exact VMap.len h ty


/-- The block of the row that lies in a box. -/
def blk (W : World) (B : Nat) : Option Nat := match W.heap[B]? with
  | some (.cells cs _ _) => (cs[0]?).bind Value.ownBlock
  | _ => none
/-- What a round may write: these boxes, and the rows in them. -/
def Mine (Bs : List Nat) (W : World) (i : Nat) : Prop := i ∈ Bs ∨ ∃ B, B ∈ Bs ∧ blk W B = some i
/-- What a round keeps: all that came with it, and all cells, but for what is its own. -/
def KV (base : Nat) (Bs : List Nat) (A C : World) : Prop := A.heap.size ≤ C.heap.size ∧ ∀ i o, A.heap[i]? = some o → ¬ Mine Bs A i → (i < base ∨ o.isCells = true) → C.heap[i]? = some o ∧ ¬ Mine Bs C i
theorem KV.trans {base : Nat} {Bs : List Nat} {A C D : World} (h : KV base Bs A C) (k : KV base Bs C D) : KV base Bs A D :=
  ⟨Nat.le_trans h.1 k.1, fun i o hA hm hc => by obtain ⟨hC, hm2⟩ := h.2 i o hA hm hc; exact k.2 i o hC hm2 hc⟩
theorem KV.put {base : Nat} {Bs : List Nat} (hBs : ∀ B ∈ Bs, B < base) (W : World) (l : Nat) (o o' : Obj) (hl : base ≤ l) (hW : W.heap[l]? = some o) (ho : o.isCells = false) : KV base Bs W (W.putObj l o') := by
  have hlt : l < W.heap.size := (Array.getElem?_eq_some_iff.1 hW).1
  have hsame : ∀ j, j < W.heap.size → j ≠ l → (W.putObj l o').heap[j]? = W.heap[j]? := fun j hj hne => (grownBy_putObj' W l o').block j hj (fun e => hne (by cases e; rfl))
  refine ⟨by simp, fun i x hi hm hc => ?_⟩
  have hne : i ≠ l := by
    rintro rfl
    rw [hW] at hi
    cases hi
    rcases hc with h | h
    · omega
    · rw [ho] at h; cases h
  have hil : i < W.heap.size := (Array.getElem?_eq_some_iff.1 hi).1
  refine ⟨(hsame i hil hne).trans hi, fun h => hm ?_⟩
  rcases h with h | ⟨B, h1, h2⟩
  · exact Or.inl h
  · refine Or.inr ⟨B, h1, ?_⟩
    have := hBs B h1
    unfold blk at h2 ⊢
    rwa [hsame B (by omega) (by omega)] at h2

/-- What goes through a vector holds. -/
def Held (Bs : List Nat) (Bx : Nat) (b : Option Nat) (L : List P) (v : Value) (W : World) : Prop :=
  (Boxed W Bx 38 (.map b) ∧ ¬ Mine Bs W Bx) ∧ (OMap W b L ∧ ∀ i, b = some i → ¬ Mine Bs W i) ∧ (W.ownsRow 0 3 1 v L.length ((L.map P.who).flatMap enI) ∧ ∀ g, v.ownBlock = some g → ¬ Mine Bs W g)
theorem Held.keep {base : Nat} {Bs : List Nat} {Bx : Nat} {b : Option Nat} {L : List P} {v : Value} {A C : World} (hBx : Bx < base) (hb : ∀ i, b = some i → i < base) (h : Held Bs Bx b L v A) (k : KV base Bs A C) : Held Bs Bx b L v C := by
  obtain ⟨⟨h1, h2⟩, ⟨h3, h4⟩, ⟨h5, h6⟩⟩ := h
  refine ⟨k.2 Bx _ h1 h2 (Or.inl hBx), ?_, ?_⟩
  · cases b with
    | none => exact ⟨h3, fun i e => by cases e⟩
    | some b =>
      obtain ⟨es, clock, e1, F, e2, e3⟩ := h3
      obtain ⟨q1, q2⟩ := k.2 b _ e1 (h4 b rfl) (Or.inl (hb b rfl))
      exact ⟨⟨es, clock, q1, F, e2, e3⟩, fun i e => by cases e; exact q2⟩
  · obtain ⟨hlen, hc⟩ := h5
    rcases hc with ⟨rfl, h0⟩ | ⟨g, cap, cur, rfl, r0, r1, r2⟩
    · exact ⟨⟨hlen, Or.inl ⟨rfl, h0⟩⟩, fun g hg => by cases hg⟩
    · obtain ⟨q1, q2⟩ := k.2 g _ r1 (h6 g rfl) (Or.inr rfl)
      exact ⟨⟨hlen, Or.inr ⟨g, cap, cur, rfl, r0, q1, r2⟩⟩, fun g' hg => by cases hg; exact q2⟩

theorem dots_in (n : Nat) (b : Option Nat) (w : World) :
    CallsIn Fence.wide n Try.prog 52 #[.map b] w fun e w' =>
      e = .returned (.func (.func 77) #[] #[.pointer (some ⟨w.heap.size, 0, none⟩)]) ∧ w' = w.alloc (.cells #[.map b] 38) := by
  refine callsIn_of_wp Try.func52 rfl trivial ?_ rfl
  simp only [Try.ntmps52, List.size_toArray, List.length_cons, List.length_nil, Nat.reduceAdd, Nat.reduceSub, Array.replicate_succ, Array.replicate_zero, List.push_toArray, List.append_toArray, List.nil_append, List.cons_append]
  gi_wp2
  go_ret
  exact ⟨rfl, rfl⟩

theorem sorts (m : Nat) : AnyZI.SortsIn Try.prog sortedA_ren Fence.wide m :=
  ⟨fun blk off cap ss W hH hblk hsz => callsIn_wide.2 (AnyM.slices_Sort_int sortA blk off cap ss W hH hblk hsz),
   fun p cap W => callsIn_wide.2 (AnyM.slices_Sort_int_none sortA p cap W)⟩
theorem keys_call (n : Nat) (b : Option Nat) (W : World) : CallsIn Fence.wide n Try.prog 79 #[.map b] W fun e w' =>
    e = .returned (.func (.func 99) #[] #[.pointer (some ⟨W.heap.size, 0, none⟩)]) ∧ w' = W.alloc (.cells #[.map b] 38) := AnyZI.keys_in keysA Fence.wide n trivial rfl b W
theorem sorted_call1 (n : Nat) (hn : 4 ≤ n) (b : Nat) (L : List P) (hL : L.length ≤ 100000) (hr : Rises L) (W : World) (hv : VMap W b L) :
    CallsIn Fence.wide n Try.prog 78 #[.func (.func 99) #[] #[.pointer (some ⟨W.heap.size, 0, none⟩)]] (W.alloc (.cells #[.map (some b)] 38)) fun e w' =>
      ∃ v, e = .returned v ∧ w'.ownsRow (W.heap.size + 1) 3 1 v L.length ((L.map P.who).flatMap enI) ∧ Below W.heap.size W w' := by
  have hbl := hv.lt
  have hseq : SeqGives Fence.wide (n - 1 - 1 - 1) Try.prog 99 #[.pointer (some ⟨W.heap.size, 0, none⟩)] encZ (fun ss => ss.Perm (intKeys (dat (H := Unit) L))) (Maps.size (dat (H := Unit) L)) (W.alloc (.cells #[.map (some b)] 38)) :=
    AnyZI.keys_gives (ρ := keysA_ren) { keysA with } Fence.wide _ trivial rfl (by omega) W.heap.size b L.length _ _ (by simp) (by simp) (by
      obtain ⟨es, clock, hb, Ft, hs, hD⟩ := hv
      exact ⟨es, clock, (Below.heap_alloc _ _ b hbl).trans hb, Ft, hs, hD⟩)
  have cS := AnyZI.sorted_in sortedA Fence.wide n trivial trivial trivial trivial rfl hn (sorts _) (enters_of Try.func7 (by kernel_rfl) rfl) 99 #[.pointer (some ⟨W.heap.size, 0, none⟩)] trivial (enters_of Try.func99 (by kernel_rfl) rfl) _ _ (by rw [dat_size]; unfold maxLen; omega) (by rw [dat_size]; omega) _ hseq
  change CallsIn _ _ Try.prog 78 _ _ _ at cS
  refine cS.mono ?_
  rintro e w' ⟨v, ss, rfl, hS, hrow, _, hb⟩
  rw [dat_keys] at hS
  rw [keys_sorted hr hS, ← flat_enI, World.size_alloc] at hrow
  have hlen := hS.length_eq
  rw [List.length_map] at hlen
  rw [hlen] at hrow
  exact ⟨v, rfl, hrow, ((Below.refl _ W).alloc (Nat.le_refl _) _).trans (hb.mono (by simp))⟩
theorem sorted_call0 (n : Nat) (hn : 4 ≤ n) (W : World) :
    CallsIn Fence.wide n Try.prog 78 #[.func (.func 99) #[] #[.pointer (some ⟨W.heap.size, 0, none⟩)]] (W.alloc (.cells #[.map none] 38)) fun e w' =>
      ∃ v, e = .returned v ∧ w'.ownsRow (W.heap.size + 1) 3 1 v 0 [] ∧ Below W.heap.size W w' := by
  have hseq : SeqGives Fence.wide (n - 1 - 1 - 1) Try.prog 99 #[.pointer (some ⟨W.heap.size, 0, none⟩)] encZ (fun ss => ss = []) 0 (W.alloc (.cells #[.map none] 38)) :=
    AnyZI.keys_gives_nil (ρ := keysA_ren) { keysA with } Fence.wide _ trivial rfl W.heap.size _ (by simp) (by simp)
  have cS := AnyZI.sorted_in sortedA Fence.wide n trivial trivial trivial trivial rfl hn (sorts _) (enters_of Try.func7 (by kernel_rfl) rfl) 99 #[.pointer (some ⟨W.heap.size, 0, none⟩)] trivial (enters_of Try.func99 (by kernel_rfl) rfl) _ 0 (by unfold maxLen; omega) (by omega) _ hseq
  change CallsIn _ _ Try.prog 78 _ _ _ at cS
  refine cS.mono ?_
  rintro e w' ⟨v, ss, rfl, hS, hrow, _, hb⟩
  subst hS
  rw [World.size_alloc] at hrow
  have hrow2 : w'.ownsRow (W.heap.size + 1) (sortedA_ren.t 26) 1 v 0 [] := by simpa using hrow
  exact ⟨v, rfl, hrow2, ((Below.refl _ W).alloc (Nat.le_refl _) _).trans (hb.mono (by simp))⟩
theorem sorted_call (n : Nat) (hn : 4 ≤ n) (b : Option Nat) (L : List P) (hL : L.length ≤ 100000) (hr : Rises L) (W : World) (hv : OMap W b L) :
    CallsIn Fence.wide n Try.prog 78 #[.func (.func 99) #[] #[.pointer (some ⟨W.heap.size, 0, none⟩)]] (W.alloc (.cells #[.map b] 38)) fun e w' =>
      ∃ v, e = .returned v ∧ w'.ownsRow (W.heap.size + 1) 3 1 v L.length ((L.map P.who).flatMap enI) ∧ Below W.heap.size W w' := by
  cases b with
  | none =>
    have hv : L = [] := hv
    subst hv
    exact sorted_call0 n hn W
  | some b => exact sorted_call1 n hn b L hL hr W hv


/-- A write that a vector may know. -/
abbrev Q := {x : P // right x = true ∧ x.who ≤ 9223372036854775807}
theorem to_Q {l : List P} (hg : Good l) (hs : Sm l) : ∃ q : List Q, l = q.map Subtype.val :=
  ⟨l.attachWith (fun x => right x = true ∧ x.who ≤ 9223372036854775807) fun x hx => ⟨hg.2 x hx, hs x hx⟩, by rw [List.attachWith_map_subtype_val]⟩
theorem Q.bd (x : Q) : 0 ≤ x.1.who ∧ 1 ≤ x.1.n ∧ x.1.n ≤ 1099511627776 := (right_iff x.1).1 x.2.1

set_option maxRecDepth 100000 in
set_option maxHeartbeats 2000000 in
theorem dots1_in (n : Nat) (hn : 5 ≤ n) (lp base Bx : Nat) (b : Option Nat) (Bs : List Nat) (L : List P) (LQ : List Q) (hLQ : L = LQ.map Subtype.val) (hL : L.length ≤ 100000) (hg : Rises L) (hBx : Bx < base) (hb : ∀ i, b = some i → i < base) (J Jx : List Q → World → Prop)
    (hY : ∀ pre (x : Q) W, J pre W → pre.length < L.length → YieldAt Fence.wide (n - 1) Try.prog lp #[.agg #[.int .i64 x.1.who, .int .i64 x.1.n]] W fun e W' =>
      (e = .returned (.bool true) ∧ J (pre ++ [x]) W' ∧ KV base Bs W W') ∨ (e = .returned (.bool false) ∧ Jx (pre ++ [x]) W'))
    (W : World) (hJab : AbidesFrom W.heap.size J) (hx : Boxed W Bx 38 (.map b)) (hv : OMap W b L)
    (hfree : ∀ i W', Below W.heap.size W W' → (i = Bx ∨ b = some i ∨ W.heap.size ≤ i) → ¬ Mine Bs W' i) (hJ0 : J [] W) :
    CallsIn Fence.wide n Try.prog 77 #[.func (.yield lp) #[] #[], .pointer (some ⟨Bx, 0, none⟩)] W fun e W' => (∃ v, e = .returned v) ∧
      ((∃ ys, ys = LQ ∧ J ys W') ∨ (∃ pre, (∃ k, k ≤ L.length ∧ pre = LQ.take k) ∧ Jx pre W')) := by
  have hc := hx.cell
  have hlq : L.length = LQ.length := by rw [hLQ, List.length_map]
  have hn1 : 1 ≤ n := by omega
  have cK := fun W => keys_call (n - 1) b W
  have cS := sorted_call (n - 1) (by omega) b L hL hg W hv
  refine callsIn_of_wp Try.func77 rfl trivial ?_ rfl
  simp only [Try.ntmps77, List.size_toArray, List.length_cons, List.length_nil, Nat.reduceAdd, Nat.reduceSub, Array.replicate_succ, Array.replicate_zero, List.push_toArray, List.append_toArray, List.nil_append, List.cons_append]
  gi_wp2_with (first
    | (refine ⟨trivial, ?_⟩; gi_at_call 79; refine (cK _).mono ?_; rintro e w' ⟨rfl, rfl⟩)
    | (refine ⟨trivial, ?_⟩; gi_at_call 78; refine cS.mono ?_; rintro e W2 ⟨v, rfl, hrow, hb2⟩; obtain ⟨ao, cap, rfl⟩ := row_form hrow))
  have HD : Hid (Held Bs Bx b L (.slice ao L.length cap) W2) := Lib.hid ⟨⟨box_below hx hb2, hfree Bx W2 hb2 (Or.inl rfl)⟩, ⟨hv.below hb2, fun i e => hfree i W2 hb2 (Or.inr (Or.inl e))⟩, own_base hrow (Nat.zero_le _), fun g hgb => hfree g W2 hb2 (Or.inr (Or.inr (by have := (World.ownsRow.lt hrow g hgb).1; omega)))⟩
  have hJ2 : J [] W2 := abides_below hJab hJ0 hb2
  clear hx hv hc cK cS hfree hJab hrow
  gi_loopw [9] (fun iv wr => ∃ k : Nat, k ≤ L.length ∧ iv = .int .i64 k ∧ J (LQ.take k) wr ∧ Hid (Held Bs Bx b L (.slice ao L.length cap) wr)) (fun iv _ => L.length - (vInt iv).toNat)
  case atStart => exact ⟨0, Nat.zero_le _, rfl, hJ2, HD⟩
  case round =>
    obtain ⟨k, hk, rfl, hJk, hh⟩ := hrel
    by_cases hlt : k < L.length
    · have hrow := Lst.of_owns (w := wr) (l := L.map P.who) (v := .slice ao L.length cap) enI_len (by decide) (base := 0) (e := 3) (by rw [List.length_map]; exact hh.out.2.2.1)
      obtain ⟨gb, off, rfl, hgb, c0⟩ := int_at hrow (k := k) (x := L[k].who) (by rw [List.getElem?_map, List.getElem?_eq_getElem hlt]; rfl)
      have hmem : L[k] ∈ L := List.getElem_mem hlt
      have hltq : k < LQ.length := by omega
      have htk := List.take_succ_eq_append_getElem hltq
      obtain ⟨x, hxe⟩ : ∃ x, x = LQ[k] := ⟨_, rfl⟩
      have hxl : L[k] = x.1 := by subst hLQ; rw [hxe]; simp
      rw [← hxe] at htk
      rw [hxl] at c0 hmem
      have hgx := getF_some hg hmem
      have hxr := x.bd
      have hxs := x.2.2
      have hbc := hh.out.1.1.cell
      have hrun := hh.out.2.1.1.at (x := x.1.who) (by omega) hxs
      rw [hgx] at hrun
      have HTK := Lib.hid htk
      have hlen : (LQ.take k).length < L.length := by rw [List.length_take]; omega
      clear htk hxe hmem hgx hrow hxl
      obtain ⟨fn, tmps, assign, body, hy, hR⟩ := hY _ x wr hJk hlen
      gi_wp2
      refine hR.mono ?_
      rintro e W3 (⟨rfl, hJ3, hk3⟩ | ⟨rfl, hJx3⟩)
      · have HK := Lib.hid (hh.out.keep hBx hb hk3)
        gi_wp2
        go_roundw
        case rel => exact ⟨k + 1, by omega, by go_num, by rw [HTK.out]; exact hJ3, HK⟩
        case measure => simp [vInt]; omega
      · gi_wp2
        refine bodyPost_ret (results_none rfl _ _ _) rfl ?_
        exact ⟨⟨_, rfl⟩, .inr ⟨_, ⟨k + 1, by omega, HTK.out.symm⟩, hJx3⟩⟩
    · obtain rfl : k = L.length := by omega
      have htk : LQ.take L.length = LQ := by rw [hlq]; exact List.take_length
      have HTK := Lib.hid htk
      clear htk
      gi_wp2
      go_end0
      exact ⟨⟨_, rfl⟩, .inl ⟨_, HTK.out, hJk⟩⟩

theorem dots_stops (n : Nat) (hn : 5 ≤ n) (Bx : Nat) (b : Option Nat) (Bs : List Nat) (L : List P) (LQ : List Q) (hLQ : L = LQ.map Subtype.val) (hL : L.length ≤ 100000) (hg : Rises L) (w : World) (hx : Boxed w Bx 38 (.map b)) (hv : OMap w b L)
    (hBs : ∀ B ∈ Bs, B < w.heap.size ∧ B ≠ Bx ∧ b ≠ some B ∧ ∀ i, blk w B = some i → i < w.heap.size ∧ i ≠ Bx ∧ b ≠ some i) :
    SeqStopsK Fence.wide n Try.prog 77 #[.pointer (some ⟨Bx, 0, none⟩)] (fun x : Q => #[.agg #[.int .i64 x.1.who, .int .i64 x.1.n]]) (KV w.heap.size Bs) (fun ys => ys = LQ) (fun pre => ∃ k, k ≤ L.length ∧ pre = LQ.take k) L.length w := fun lp J Jx W hW hJ _ hY hJ0 =>
  dots1_in n hn lp w.heap.size Bx b Bs L LQ hLQ hL hg hx.lt hv.lt J Jx hY W hJ (box_below hx hW) (hv.below hW) (fun i W' hW' hi hm => by
    have hs := hW.size
    have hsame : ∀ B ∈ Bs, blk W' B = blk w B := fun B hB => by
      have := (hBs B hB).1
      unfold blk
      rw [hW'.block B (by omega), hW.block B (by omega)]
    rcases hm with h | ⟨B, h1, h2⟩
    · obtain ⟨q1, q2, q3, _⟩ := hBs i h
      rcases hi with rfl | hi | hi
      · exact q2 rfl
      · exact q3 hi
      · omega
    · obtain ⟨_, _, _, q⟩ := hBs B h1
      rw [hsame B h1] at h2
      obtain ⟨q1, q2, q3⟩ := q i h2
      rcases hi with rfl | hi | hi
      · exact q2 rfl
      · exact q3 hi
      · omega) hJ0


theorem blk_box {W : World} {B : Nat} {t : TypeId} {v : Value} (h : Boxed W B t v) : blk W B = v.ownBlock := by
  unfold blk
  rw [show W.heap[B]? = _ from h]
  rfl
theorem kv_grown {base : Nat} {Bs : List Nat} {A C : World} {row : Option Nat} (hg : A.grownBy C row) (hrow : ∀ r, row = some r → Mine Bs A r) (hmine : ∀ i, i < A.heap.size → Mine Bs C i → Mine Bs A i) : KV base Bs A C :=
  ⟨hg.size, fun i o hi hm _ => by
    have hlt : i < A.heap.size := (Array.getElem?_eq_some_iff.1 hi).1
    exact ⟨(hg.block i hlt (fun e => hm (hrow i e.symm))).trans hi, fun h => hm (hmine i hlt h)⟩⟩
theorem mine_same {Bs : List Nat} {A C : World} (h : ∀ B ∈ Bs, C.heap[B]? = A.heap[B]?) (i : Nat) (hm : Mine Bs C i) : Mine Bs A i := by
  rcases hm with h1 | ⟨B, h1, h2⟩
  · exact Or.inl h1
  · refine Or.inr ⟨B, h1, ?_⟩
    unfold blk at h2 ⊢
    rwa [h B h1] at h2
theorem kv_below {base : Nat} {Bs : List Nat} {A C : World} (hBs : ∀ B ∈ Bs, B < A.heap.size) (hb : Below A.heap.size A C) : KV base Bs A C :=
  kv_grown (row := none) ⟨hb.os, hb.tape, hb.output, hb.size, fun i hi _ => hb.block i hi⟩ (fun r e => by cases e) fun i _ => mine_same (fun B hB => hb.block B (hBs B hB)) i
theorem kv_append {base B : Nat} {W w1 : World} {t : TypeId} {v v' : Value} {tmp : Obj} (hB : Boxed W B t v) (hC : Boxed (w1.setCell ⟨B, 0, none⟩ v') B t v') (hgrow : (W.alloc tmp).grownBy w1 v.ownBlock)
    (hat : v'.ownBlock = v.ownBlock ∨ v'.ownBlock = some (W.alloc tmp).heap.size) : KV base [B] W (w1.setCell ⟨B, 0, none⟩ v') := by
  have hsz := hgrow.size
  rw [World.size_alloc] at hsz
  refine ⟨by simp; omega, fun i o hi hm _ => ?_⟩
  have hlt : i < W.heap.size := (Array.getElem?_eq_some_iff.1 hi).1
  have hne : i ≠ B := fun e => hm (Or.inl (by simp [e]))
  have hown : v.ownBlock ≠ some i := fun e => hm (Or.inr ⟨B, by simp, (blk_box hB).trans e⟩)
  refine ⟨?_, fun h => ?_⟩
  · rw [(grownBy_setCell' w1 B v').block i (by omega) (by simp; exact hne), hgrow.block i (by simp; omega) (fun e => hown e.symm)]
    exact (Below.heap_alloc W tmp i hlt).trans hi
  · rcases h with h | ⟨B', h1, h2⟩
    · exact hne (by simpa using h)
    · obtain rfl : B' = B := by simpa using h1
      rw [blk_box hC] at h2
      rcases hat with h3 | h3
      · exact hown (h3.symm.trans h2)
      · rw [h3] at h2
        cases h2
        simp at hlt
        omega

/-- What is collected so far lies in a box. -/
def CollD (n₀ B : Nat) (pre : List Q) (W : World) : Prop := ∃ v, Boxed W B 31 v ∧ W.ownsRow n₀ 33 2 v pre.length (pre.flatMap fun x => enD x.1)
theorem collD_own (n₀ B : Nat) : Own (CollD n₀ B) := by
  rintro s X Y row ⟨v, h1, h2⟩ hg hr
  exact ⟨v, own_box h1 hg hr, own_row h2 hg hr⟩
/-- A write lies at a place. -/
def DotAt (W : World) (q : Nat) (x : P) : Prop := W.heap[q]? = some (.cells #[.int .i64 x.who, .int .i64 x.n] 33 (0, 0))
theorem DotAt.lt {W : World} {q : Nat} {x : P} (h : DotAt W q x) : q < W.heap.size := (Array.getElem?_eq_some_iff.1 h).1
theorem DotAt.cells {W : World} {q : Nat} {x : P} (h : DotAt W q x) : W.cell? ⟨q, 0, none⟩ = some (.int .i64 x.who) ∧ W.cell? ⟨q, 1, none⟩ = some (.int .i64 x.n) := by
  constructor <;> simp [World.cell?, show W.heap[q]? = _ from h]
theorem dotAt_own {X Y : World} {row : Option Nat} {q : Nat} {x : P} (h : DotAt X q x) (hg : X.grownBy Y row) (hr : ∀ r, row = some r → ∃ o : Obj, X.heap[r]? = some o ∧ o.isCells = false) : DotAt Y q x := by
  refine (hg.block q h.lt fun e => ?_).trans h
  obtain ⟨o, ho, hc⟩ := hr q e.symm
  rw [show X.heap[q]? = _ from h] at ho
  cases ho; cases hc

set_option maxRecDepth 100000 in
set_option maxHeartbeats 4000000 in
theorem append_in (n : Nat) (hn : 6 ≤ n) (Bx : Nat) (b : Option Nat) (L : List P) (hL : L.length ≤ 1000) (hg : Good L) (hsm : Sm L) (w : World) (hx : Boxed w Bx 38 (.map b)) (hv : OMap w b L) :
    CallsIn Fence.wide n Try.prog 97 #[.slice none 0 0, .func (.func 77) #[] #[.pointer (some ⟨Bx, 0, none⟩)]] w (RowPost w L) := by
  obtain ⟨i0, hi, hz0, hz1, hz2⟩ := info_parts info_D
  have HI := Lib.hid hi
  have HZ0 := Lib.hid hz0
  have HZ1 := Lib.hid hz1
  have HZ2 := Lib.hid hz2
  clear hi hz0 hz1 hz2
  have hn1 : 1 ≤ n := by omega
  obtain ⟨LQ, hLQ⟩ := to_Q hg hsm
  have hbx := hx.lt
  have hbv := hv.lt
  refine callsIn_of_wp_marks Try.func97 rfl trivial ?_ rfl
  simp only [Try.ntmps97, List.size_toArray, List.length_cons, List.length_nil, Nat.reduceAdd, Nat.reduceSub, Array.replicate_succ, Array.replicate_zero, List.push_toArray, List.append_toArray, List.nil_append, List.cons_append]
  gi_wp2
  obtain ⟨W0, hW0⟩ : ∃ W0, W0 = w.alloc (.cells #[.slice none 0 0] 31) := ⟨_, rfl⟩
  rw [← hW0]
  have bx : Boxed W0 w.heap.size 31 (.slice none 0 0) := by rw [hW0]; exact Boxed.new _ _ _
  have hs0 : W0.heap.size = w.heap.size + 1 := by rw [hW0]; simp
  have hb0 : Below w.heap.size w W0 := by rw [hW0]; exact (Below.refl _ _).alloc (Nat.le_refl _) _
  clear hW0
  have hBs : ∀ B ∈ [w.heap.size], B < W0.heap.size := by intro B hB; simp at hB; omega
  refine wpIn_rangeFunc_ownH rfl hn1 (gf := 77) (lb := #[.pointer (some ⟨Bx, 0, none⟩)]) rfl trivial (enters_of Try.func77 (by kernel_rfl) rfl)
    (dots_stops (n - 1) (by omega) Bx b [w.heap.size] L LQ hLQ (by omega) hg.1 W0 (box_below hx hb0) (hv.below hb0) (fun B hB => by
      obtain rfl : B = w.heap.size := by simpa using hB
      exact ⟨by omega, by omega, fun e => by have := hbv _ e; omega, fun i hi => by rw [blk_box bx] at hi; cases hi⟩)) KV.trans (fun W l o o' hl hW ho _ => KV.put hBs W l o o' hl hW ho) (Below.refl _ _) (fun _ => rfl)
    (fun pre W => CollD W0.heap.size w.heap.size pre W ∧ Below w.heap.size W0 W)
    (fun _ _ _ => False)
    (OwnFrom.and (Own.from (collD_own _ _) _) (ownFrom_below (by omega) (by omega)))
    (fun c s X Y row hs _ _ => hs)
    ⟨⟨_, bx, World.ownsRow_nil _ _ _ _⟩, Below.refl _ _⟩
    (fun x a' W => ∃ q, DotAt W q x.1 ∧ a' = { tmps := #[.slice none 0 0, .func (.func 77) #[] #[.pointer (some ⟨Bx, 0, none⟩)], .pointer (some ⟨w.heap.size, 0, none⟩), undef, .slice none 0 0, .pointer (some ⟨q, 0, none⟩), .func (.func 77) #[] #[.pointer (some ⟨Bx, 0, none⟩)], .agg #[.int .i64 x.1.who, .int .i64 x.1.n], undef, undef, undef, undef, undef], defers := [] })
    (fun x a' _ X Y row hs hgr hr => by obtain ⟨q, e1, e2⟩ := hs; exact ⟨q, dotAt_own e1 hgr (fun r e => (hr r e).2), e2⟩)
    ?assign ?body ?done ?stop
  case assign =>
    rintro l pre x W K ⟨⟨v, c1, c2⟩, hB⟩ hK
    have hs := hB.size
    gi_wp2
    exact hK _ _ ((KeepsOthers.alloc _ _).from _) (kv_below (fun B hB => by have := hBs B hB; omega) ((Below.refl _ _).alloc (Nat.le_refl _) _)) ⟨⟨v, c1.alloc _, c2.alloc _⟩, hB.alloc (by omega) _⟩ ⟨W.heap.size, World.alloc_heap_new W _, rfl⟩
  case body =>
    rintro l pre x a' W hl _ ⟨⟨v, c1, c2⟩, hB⟩ ⟨q, hq, rfl⟩ hlt
    have hs := hB.size
    obtain ⟨d0, d1⟩ := hq.cells
    have g1 := c1.cell
    obtain ⟨k, hk⟩ : ∃ k : Nat, k = pre.length := ⟨_, rfl⟩
    rw [← hk] at c2 hlt
    have HK := Lib.hid hk
    have R1 := Lib.hid c2
    have C1 := Lib.hid c1
    clear hk c2 c1 hq
    gi_wp2_with (gi_at_builtin; refine wpListIn_append_own_at _ rfl (.tmp 8) (.tmp 10) 31 rfl W0.heap.size 33 i0 (.agg #[.int .i64 0, .int .i64 0]) 2 16 Try.underlying31 HI.out HZ0.out HZ1.out HZ2.out rfl (by decide) v _ _ rfl (R1.out.alloc _) ⟨_, 0, none⟩ 1 1 (enD x.1) rfl rfl (new_cells _ (enD x.1) _) (enD_one x.1) (by unfold maxLen; omega) (by omega) (by simp; omega) ?_; intro v' w1 hown1 hgrow1 hnil1 hat1; obtain ⟨ao1, cap1, rfl⟩ := row_form hown1; obtain ⟨a1, a2, a3, a4, a5, _⟩ := appended (n₀ := w.heap.size) C1.out (by decide) R1.out (by omega) (by omega) (by omega) hown1 hgrow1; have k1 := a1.cell; have k2 := a1.frozen; have A := Lib.hid (And.intro a2 (And.intro a3 (And.intro a4 (And.intro a5 (kv_append (base := W0.heap.size) C1.out a2 hgrow1 hat1))))); clear a1 a2 a3 a4 a5 hown1 hgrow1 hat1 hnil1)
    exact ⟨A.out.2.2.1.from _, A.out.2.2.2.2, ⟨_, A.out.1, by rw [List.length_append, List.flatMap_append, List.flatMap_singleton, ← HK.out]; exact A.out.2.1⟩, hB.trans A.out.2.2.2.1⟩
  case done =>
    rintro D ys W hD rfl ⟨⟨v, c1, c2⟩, hB⟩ hK
    have g1 := c1.cell
    have c3 : W.ownsRow W0.heap.size 33 2 v L.length (L.flatMap enD) := by
      rw [hLQ, List.flatMap_map, List.length_map]; exact c2
    have R := Lib.hid c3
    clear c2 c3
    gi_wp2
    refine ⟨by simp, .inl ⟨_, _, rfl, run_takeDeferred hK, ?_⟩⟩
    exact ⟨_, results_tmp rfl _ _ _, v, rfl, Lst.of_owns enD_len (by decide) (ownsRow_putObj R.out (.deferred none) hK rfl), hb0.trans (hB.trans (belowK_b (w := w) (Nat.le_refl _) W D _ _ (by omega) hK rfl rfl))⟩
  case stop =>
    rintro D c pre W hD _ hF
    exact hF.elim

theorem collect_in (n : Nat) (hn : 7 ≤ n) (Bx : Nat) (b : Option Nat) (L : List P) (hL : L.length ≤ 1000) (hg : Good L) (hsm : Sm L) (w : World) (hx : Boxed w Bx 38 (.map b)) (hv : OMap w b L) :
    CallsIn Fence.wide n Try.prog 76 #[.func (.func 77) #[] #[.pointer (some ⟨Bx, 0, none⟩)]] w (RowPost w L) := by
  have hn1 : 1 ≤ n := by omega
  refine callsIn_of_wp Try.func76 rfl trivial ?_ rfl
  simp only [Try.ntmps76, List.size_toArray, List.length_cons, List.length_nil, Nat.reduceAdd, Nat.reduceSub, Array.replicate_succ, Array.replicate_zero, List.push_toArray, List.append_toArray, List.nil_append, List.cons_append]
  gi_wp2_with (refine ⟨trivial, ?_⟩; gi_at_call 97; refine (append_in (n - 1) (by omega) Bx b L hL hg hsm _ hx hv).mono ?_; rintro e w' ⟨v, rfl, h1, h2⟩)
  go_ret
  exact ⟨v, rfl, h1, h2⟩
theorem blk_map {W : World} {b : Nat} {l : List P} (h : VMap W b l) : blk W b = none := by
  obtain ⟨es, clock, hb, _⟩ := h
  unfold blk
  rw [hb]
theorem DotAt.below {W W' : World} {q : Nat} {x : P} (h : DotAt W q x) (hb : Below W.heap.size W W') : DotAt W' q x := (hb.block q h.lt).trans h
def vals (l : List Q) : List P := l.map Subtype.val
theorem vals_snoc (l : List Q) (x : Q) : vals (l ++ [x]) = vals l ++ [x.1] := by unfold vals; rw [List.map_append]; rfl
theorem joinF_len2 (a : List P) (pre : List Q) {L : List P} (h : pre.length < L.length) : (joinF a (vals pre)).length ≤ a.length + L.length := by
  have := joinF_len a (vals pre)
  have h2 : (vals pre).length = pre.length := List.length_map _
  omega

set_option maxRecDepth 100000 in
set_option maxHeartbeats 4000000 in
theorem join_any (ba bb : Option Nat) (A B : List P) (w : World) (ga : Good A) (sa : Sm A) (gb : Good B) (sb : Sm B) (ha : OMap w ba A) (hb : OMap w bb B) (h1 : A.length ≤ 400) (h2 : B.length ≤ 400) :
    Calls Try.prog 50 #[.map ba, .map bb] w (MapPost w (joinF A B)) := by
  have hba := ha.lt
  have hbb := hb.lt
  obtain ⟨LQ, hLQ⟩ := to_Q gb sb
  refine (callsIn_wide (n := 9)).1 ?_
  refine callsIn_of_wp_marks Try.func50 rfl trivial ?_ rfl
  simp only [Try.ntmps50, List.size_toArray, List.length_cons, List.length_nil, Nat.reduceAdd, Nat.reduceSub, Array.replicate_succ, Array.replicate_zero, List.push_toArray, List.append_toArray, List.nil_append, List.cons_append]
  gi_wp2_with (first
    | (refine ⟨trivial, ?_⟩; gi_at_call 52; refine (dots_in _ _ _).mono ?_; rintro e w' ⟨rfl, rfl⟩)
    | (refine ⟨trivial, ?_⟩; gi_at_call 76; refine (collect_in _ (by omega) w.heap.size ba A (by omega) ga sa _ (Boxed.new w 38 (.map ba)) (ha.below ((Below.refl _ _).alloc (Nat.le_refl _) _))).mono ?_; rintro e w2 ⟨v, rfl, hr2, hb2⟩; obtain ⟨ao, ac, rfl, -, -⟩ := Lst.form hr2)
    | (refine ⟨trivial, ?_⟩; gi_at_call 75; refine (callsIn_wide.2 (of_any ao ac A _ hr2 (by omega) sa)).mono ?_; rintro e w3 ⟨bv, rfl, hv3, hbv, hb3⟩))
  rw [ofF_self ga] at hv3
  have hs2 := hb2.size
  have hs3 := hb3.size
  rw [World.size_alloc] at hs2
  have hw3 : Below w.heap.size w w3 := below_then (below_then ((Below.refl _ _).alloc (Nat.le_refl _) _) (Nat.le_refl _) hb2) (Nat.le_refl _) hb3
  have hlv := hv3.lt
  obtain ⟨W0, hW0⟩ : ∃ W0, W0 = (w3.alloc (.cells #[.map (some bv)] 38)).alloc (.cells #[.map bb] 38) := ⟨_, rfl⟩
  rw [← hW0]
  have hs0 : W0.heap.size = w3.heap.size + 1 + 1 := by rw [hW0]; simp
  have b34 : Below w3.heap.size w3 W0 := by rw [hW0]; exact ((Below.refl _ _).alloc (Nat.le_refl _) _).alloc (by simp) _
  have hb0 : Below w.heap.size w W0 := below_then hw3 (Nat.le_refl _) b34
  have bxv : Boxed W0 w3.heap.size 38 (.map (some bv)) := by rw [hW0]; exact (Boxed.new w3 38 (.map (some bv))).alloc _
  have bxb : Boxed W0 (w3.heap.size + 1) 38 (.map bb) := by
    rw [hW0]
    have := Boxed.new (w3.alloc (.cells #[.map (some bv)] 38)) 38 (.map bb)
    rwa [World.size_alloc] at this
  have hv0 : VMap W0 bv A := hv3.below b34
  have hvb0 : OMap W0 bb B := hb.below hb0
  clear hW0
  have hBs : ∀ i ∈ [bv], i < W0.heap.size := by intro i hi; simp at hi; omega
  refine wpIn_rangeFunc_ownH rfl (by omega) (gf := 77) (lb := #[.pointer (some ⟨w3.heap.size + 1, 0, none⟩)]) rfl trivial (enters_of Try.func77 (by kernel_rfl) rfl)
    (dots_stops _ (by omega) (w3.heap.size + 1) bb [bv] B LQ hLQ (by omega) gb.1 W0 bxb hvb0 (fun i hi => by
      obtain rfl : i = bv := by simpa using hi
      exact ⟨by omega, by omega, fun e => by have := hbb _ e; omega, fun j hj => by rw [blk_map hv0] at hj; cases hj⟩)) KV.trans (fun W l o o' hl hW ho _ => KV.put hBs W l o o' hl hW ho) (Below.refl _ _) (fun _ => rfl)
    (fun pre W => (Boxed W w3.heap.size 38 (.map (some bv)) ∧ VMap W bv (joinF A (vals pre))) ∧ Below w.heap.size W0 W)
    (fun _ _ _ => False)
    (OwnFrom.and (fun s X Y row hs hgr hr => ⟨own_box hs.1 hgr (fun r e => (hr r e).2), hs.2.own (B := W0.heap.size) (by omega) hgr (fun r e => (hr r e).1)⟩) (ownFrom_below (by omega) (by omega)))
    (fun c s X Y row hs _ _ => hs)
    ⟨⟨bxv, hv0⟩, Below.refl _ _⟩
    (fun x a' W => ∃ q, DotAt W q x.1 ∧ W0.heap.size ≤ q ∧ a' = { tmps := #[.map ba, .map bb, undef, undef, .map none, .pointer (some ⟨w3.heap.size, 0, none⟩), .pointer (some ⟨q, 0, none⟩), .map ba, .func (.func 77) #[] #[.pointer (some ⟨w.heap.size, 0, none⟩)], .slice ao A.length ac, .map (some bv), .map bb, .func (.func 77) #[] #[.pointer (some ⟨w3.heap.size + 1, 0, none⟩)], .agg #[.int .i64 x.1.who, .int .i64 x.1.n], undef, undef, undef, undef, undef, undef, undef, undef, undef, undef, undef, undef, undef], defers := [] })
    (fun x a' _ X Y row hs hgr hr => by obtain ⟨q, e1, e2, e3⟩ := hs; exact ⟨q, dotAt_own e1 hgr (fun r e => (hr r e).2), e2, e3⟩)
    ?assign ?body ?done ?stop
  case assign =>
    rintro l pre x W K ⟨⟨c1, c2⟩, hB⟩ hK
    have hs := hB.size
    gi_wp2
    exact hK _ _ ((KeepsOthers.alloc _ _).from _) (kv_below (fun B hB => by have := hBs B hB; omega) ((Below.refl _ _).alloc (Nat.le_refl _) _)) ⟨⟨c1.alloc _, c2.below ((Below.refl _ _).alloc (Nat.le_refl _) _)⟩, hB.alloc (by omega) _⟩ ⟨W.heap.size, World.alloc_heap_new W _, hs, rfl⟩
  case body =>
    rintro l pre x a' W hl _ ⟨⟨c1, c2⟩, hB⟩ ⟨q, hq, hq0, rfl⟩ hlt
    have hs := hB.size
    have hxb := x.bd
    have hxs := x.2.2
    have hlen := joinF_len2 A pre hlt
    have hnn := (joinF_good ga (vals pre)).nonneg x.1.who
    have HR := Lib.hid (joinF_good ga (vals pre)).1
    have hjs : joinF A (vals (pre ++ [x])) = setF (joinF A (vals pre)) ⟨x.1.who, max (getF (joinF A (vals pre)) x.1.who) x.1.n⟩ := by
      rw [vals_snoc, joinF_snoc]; unfold up; rw [if_pos x.2.1]
    have HJ := Lib.hid hjs
    clear hjs
    generalize joinF A (vals pre) = out at *
    obtain ⟨d0, d1⟩ := hq.cells
    have hkey := key (x := x.1.who) (by omega) hxs
    have hval : plainElem (H := Unit) Try.prog 3 (.int .i64 (max (getF out x.1.who) x.1.n)) = some (.lit (.int .i64 (max (getF out x.1.who) x.1.n)), []) := plainElem_int Try.underlying3 (wf64 (by omega) (by omega))
    gi_wp2_with (first
      | (refine ⟨trivial, ?_⟩; gi_at_call 45; refine (CallsIn.inRound l (callsIn_wide.2 (right_lit true x.1 _ x.2.1))).mono ?_; rintro e w4 ⟨rfl, hb4⟩; have hv4 := c2.below hb4; obtain ⟨q0, q1⟩ := (hq.below hb4).cells; have q2 := (box_below c1 hb4).cell; obtain ⟨c, hrun, hat, hwc⟩ := hv4.lookup_int law Try.underlying38 Try.underlying3 (Try.zeroValue3 _) hkey; obtain rfl := dat_get hat)
      | (gi_at_mapUpdate; refine wpListIn_mapUpdate_own _ rfl _ _ _ 38 rfl 3 3 law Try.underlying38 _ bv out.length (dat out) rfl hv4 (by unfold maxLen; omega) _ _ (.int .i64 x.1.who) rfl rfl hkey _ [] hval ?_; intro w5 hown5 hgrow5))
    rw [dat_put HR.out ⟨x.1.who, max (getF out x.1.who) x.1.n⟩, ← HJ.out] at hown5
    have hs4 := hb4.size
    have hq5 := hgrow5.size
    have hk4 : KeepsFrom W0.heap.size W w5 := (KeepsFrom.of_grownBy (row := none) ⟨hb4.os, hb4.tape, hb4.output, hb4.size, fun i hi _ => hb4.block i hi⟩ (fun j e => by cases e)).trans (KeepsFrom.of_grownBy hgrow5 (fun j e => by cases e; omega))
    have hk5 : KV W0.heap.size [bv] W w5 := (kv_below (fun B hB => by have := hBs B hB; omega) hb4).trans (kv_grown hgrow5 (fun r e => by cases e; exact Or.inl (by simp)) (fun i hi hm => by
      rcases hm with h | ⟨B', hB1, hB2⟩
      · exact Or.inl h
      · obtain rfl : B' = bv := by simpa using hB1
        rw [blk_map (own_tight hown5)] at hB2
        cases hB2))
    exact ⟨hk4, hk5, ⟨(box_below c1 hb4).kept hgrow5 (by simp; omega), own_tight hown5⟩, (below_then hB (by omega) hb4).grown hgrow5 (by omega) (fun k hk => by cases hk; omega)⟩
  case done =>
    rintro D ys W hD rfl ⟨⟨c1, c2⟩, hB⟩ hK
    have g1 := c1.cell
    have hy : vals ys = B := hLQ.symm
    rw [hy] at c2
    have R := Lib.hid c2
    clear c2
    gi_wp2
    refine ⟨by simp, .inl ⟨_, _, rfl, run_takeDeferred hK, ?_⟩⟩
    exact ⟨_, results_tmp rfl _ _ _, bv, rfl, R.out.kept (grownBy_putObj' W D (.deferred none)) (by simp; omega), by omega, hb0.trans (hB.trans (belowK_b (w := w) (Nat.le_refl _) W D _ _ (by omega) hK rfl rfl))⟩
  case stop =>
    rintro D c pre W hD _ hF
    exact hF.elim
set_option maxHeartbeats 1000000 in
theorem knowsO_any (b : Option Nat) (l : List P) (d : P) (w : World) (ha : OMap w b l) (h1 : -9223372036854775808 ≤ d.who) (h2 : d.who ≤ 9223372036854775807) :
    Calls Try.prog 44 #[.map b, .agg #[.int .i64 d.who, .int .i64 d.n]] w fun e w' => e = .returned (.bool (knowsF l d)) ∧ Below w.heap.size w w' := by
  have HA := Lib.hid ha
  clear ha
  unfold knowsF
  cases hr : right d
  all_goals
    go_enter Try.func44, Try.ntmps44
    go_wp2_with fail
    refine (right_lit _ d _ hr).mono ?_
    rintro e w2 ⟨rfl, hb2⟩
    have hb : Below w.heap.size w w2 := below_then ((Below.refl _ _).alloc (Nat.le_refl _) _) (Nat.le_refl _) hb2
    have c0 := (hb2.cell (p := ⟨w.heap.size, 0, none⟩) (by simp)).trans (show (w.alloc (.cells #[.int .i64 d.who, .int .i64 d.n] 33)).cell? ⟨w.heap.size, 0, none⟩ = some (.int .i64 d.who) by go_simp)
    have c1 := (hb2.cell (p := ⟨w.heap.size, 1, none⟩) (by simp)).trans (show (w.alloc (.cells #[.int .i64 d.who, .int .i64 d.n] 33)).cell? ⟨w.heap.size, 1, none⟩ = some (.int .i64 d.n) by go_simp)
    have hs := hb2.size
    simp at hs
    have hrun := (HA.out.below hb).at h1 h2
    have HW := Lib.hid hb
    clear hb2 hb
    go_wp2_with fail
    go_ret
    exact ⟨ret_bool (by simp), HW.out⟩
theorem knows_lit (q : Bool) (b : Option Nat) (l : List P) (d : P) (w : World) (h : knowsF l d = q) (ha : OMap w b l) (h1 : -9223372036854775808 ≤ d.who) (h2 : d.who ≤ 9223372036854775807) :
    Calls Try.prog 44 #[.map b, .agg #[.int .i64 d.who, .int .i64 d.n]] w fun e w' => e = .returned (.bool q) ∧ Below w.heap.size w w' := by
  subst h; exact knowsO_any b l d w ha h1 h2

set_option maxRecDepth 100000 in
set_option maxHeartbeats 4000000 in
theorem covers_any (ba bb : Option Nat) (A B : List P) (w : World) (gb : Good B) (sb : Sm B) (ha : OMap w ba A) (hb : OMap w bb B) (h1 : B.length ≤ 1000) :
    Calls Try.prog 81 #[.map ba, .map bb] w fun e w' => e = .returned (.bool (coversF A B)) ∧ Below w.heap.size w w' := by
  have hba := ha.lt
  have hbb := hb.lt
  obtain ⟨LQ, hLQ⟩ := to_Q gb sb
  refine (callsIn_wide (n := 9)).1 ?_
  refine callsIn_of_wp_marks Try.func81 rfl trivial ?_ rfl
  simp only [Try.ntmps81, List.size_toArray, List.length_cons, List.length_nil, Nat.reduceAdd, Nat.reduceSub, Array.replicate_succ, Array.replicate_zero, List.push_toArray, List.append_toArray, List.nil_append, List.cons_append]
  gi_wp2_with (first
    | (refine ⟨trivial, ?_⟩; gi_at_call 52; refine (dots_in _ _ _).mono ?_; rintro e w' ⟨rfl, rfl⟩))
  obtain ⟨W0, hW0⟩ : ∃ W0, W0 = ((w.alloc (.cells #[.map ba] 38)).alloc (.cells #[.bool false] 4)).alloc (.cells #[.map bb] 38) := ⟨_, rfl⟩
  rw [← hW0]
  have hs0 : W0.heap.size = w.heap.size + 1 + 1 + 1 := by rw [hW0]; simp
  have hb0 : Below w.heap.size w W0 := by rw [hW0]; exact (((Below.refl _ _).alloc (Nat.le_refl _) _).alloc (by simp) _).alloc (by simp; omega) _
  have bxa : Boxed W0 w.heap.size 38 (.map ba) := by rw [hW0]; exact ((Boxed.new w 38 (.map ba)).alloc _).alloc _
  have bxr : Boxed W0 (w.heap.size + 1) 4 (.bool false) := by
    rw [hW0]
    have := Boxed.new (w.alloc (.cells #[.map ba] 38)) 4 (.bool false)
    rw [World.size_alloc] at this
    exact this.alloc _
  have bxb : Boxed W0 (w.heap.size + 1 + 1) 38 (.map bb) := by
    rw [hW0]
    have := Boxed.new ((w.alloc (.cells #[.map ba] 38)).alloc (.cells #[.bool false] 4)) 38 (.map bb)
    simp only [World.size_alloc] at this
    exact this
  have hva0 : OMap W0 ba A := ha.below hb0
  have hvb0 : OMap W0 bb B := hb.below hb0
  clear hW0
  refine wpIn_rangeFunc_ownH rfl (by omega) (gf := 77) (lb := #[.pointer (some ⟨w.heap.size + 1 + 1, 0, none⟩)]) rfl trivial (enters_of Try.func77 (by kernel_rfl) rfl)
    (dots_stops _ (by omega) (w.heap.size + 1 + 1) bb [] B LQ hLQ (by omega) gb.1 W0 bxb hvb0 (fun i hi => by cases hi)) KV.trans (fun W l o o' hl hW ho _ => KV.put (fun B hB => by cases hB) W l o o' hl hW ho) (Below.refl _ _) (fun _ => rfl)
    (fun pre W => ((Boxed W w.heap.size 38 (.map ba) ∧ Boxed W (w.heap.size + 1) 4 (.bool false)) ∧ OMap W ba A ∧ ∀ x ∈ pre, x.1.n ≤ getF A x.1.who) ∧ Below w.heap.size W0 W)
    (fun c pre W => ((c = .ret ∧ ∃ x ∈ pre, getF A x.1.who < x.1.n) ∧ Boxed W (w.heap.size + 1) 4 (.bool false)) ∧ Below w.heap.size W0 W)
    (OwnFrom.and (fun s X Y row hs hgr hr => ⟨⟨own_box hs.1.1 hgr (fun r e => (hr r e).2), own_box hs.1.2 hgr (fun r e => (hr r e).2)⟩, hs.2.1.own (B := W0.heap.size) (fun i e => by have := hba i e; omega) hgr (fun r e => (hr r e).1), hs.2.2⟩) (ownFrom_below (by omega) (by omega)))
    (fun c => OwnFrom.and (fun s X Y row hs hgr hr => ⟨hs.1, own_box hs.2 hgr (fun r e => (hr r e).2)⟩) (ownFrom_below (by omega) (by omega)))
    ⟨⟨⟨bxa, bxr⟩, hva0, by simp⟩, Below.refl _ _⟩
    (fun x a' W => ∃ q, DotAt W q x.1 ∧ W0.heap.size ≤ q ∧ a' = { tmps := #[.map ba, .map bb, .pointer (some ⟨w.heap.size, 0, none⟩), undef, .pointer (some ⟨w.heap.size + 1, 0, none⟩), .pointer (some ⟨q, 0, none⟩), .map bb, .func (.func 77) #[] #[.pointer (some ⟨w.heap.size + 1 + 1, 0, none⟩)], .agg #[.int .i64 x.1.who, .int .i64 x.1.n], undef, undef, undef, undef, undef, undef, undef, undef], defers := [] })
    (fun x a' _ X Y row hs hgr hr => by obtain ⟨q, e1, e2, e3⟩ := hs; exact ⟨q, dotAt_own e1 hgr (fun r e => (hr r e).2), e2, e3⟩)
    ?assign ?body ?done ?stop
  case assign =>
    rintro l pre x W K ⟨⟨⟨c0, c1⟩, c2, c3⟩, hB⟩ hK
    have hs := hB.size
    gi_wp2
    exact hK _ _ ((KeepsOthers.alloc _ _).from _) (kv_below (fun B hB => by cases hB) ((Below.refl _ _).alloc (Nat.le_refl _) _)) ⟨⟨⟨c0.alloc _, c1.alloc _⟩, c2.below ((Below.refl _ _).alloc (Nat.le_refl _) _), c3⟩, hB.alloc (by omega) _⟩ ⟨W.heap.size, World.alloc_heap_new W _, hs, rfl⟩
  case body =>
    rintro l pre x a' W hl _ ⟨⟨⟨c0, c1⟩, c2, c3⟩, hB⟩ ⟨q, hq, hq0, rfl⟩ hlt
    have hs := hB.size
    have hxb := x.bd
    have hxs := x.2.2
    obtain ⟨d0, d1⟩ := hq.cells
    have hkn : knowsF A x.1 = decide (x.1.n ≤ getF A x.1.who) := by unfold knowsF; rw [x.2.1]; rfl
    have H3 := Lib.hid c3
    clear c3
    by_cases hc : x.1.n ≤ getF A x.1.who
    · rw [decide_eq_true hc] at hkn
      have HC := Lib.hid hc
      clear hc
      gi_wp2_with (first
        | (refine ⟨trivial, ?_⟩; gi_at_call 45; refine (CallsIn.inRound l (callsIn_wide.2 (right_lit true x.1 _ x.2.1))).mono ?_; rintro e w4 ⟨rfl, hb4⟩; have hv4 := c2.below hb4; obtain ⟨q0, q1⟩ := (hq.below hb4).cells; have q2 := (box_below c0 hb4).cell)
        | (refine ⟨trivial, ?_⟩; gi_at_call 44; refine (CallsIn.inRound l (callsIn_wide.2 (knows_lit true ba A x.1 _ hkn hv4 (by omega) hxs))).mono ?_; rintro e w5 ⟨rfl, hb5⟩))
      have hb6 : Below W.heap.size W w5 := below_then hb4 (Nat.le_refl _) hb5
      exact ⟨KeepsFrom.of_grownBy (row := none) ⟨hb6.os, hb6.tape, hb6.output, hb6.size, fun i hi _ => hb6.block i hi⟩ (fun j e => by cases e), kv_below (fun B hB => by cases hB) hb6, ⟨⟨box_below c0 hb6, box_below c1 hb6⟩, c2.below hb6, fun y hy => by
        rcases List.mem_append.1 hy with h | h
        · exact H3.out y h
        · simp at h; subst h; exact HC.out⟩, below_then hB (by omega) hb6⟩
    · rw [decide_eq_false hc] at hkn
      have HC := Lib.hid hc
      clear hc
      gi_wp2_with (first
        | (refine ⟨trivial, ?_⟩; gi_at_call 45; refine (CallsIn.inRound l (callsIn_wide.2 (right_lit true x.1 _ x.2.1))).mono ?_; rintro e w4 ⟨rfl, hb4⟩; have hv4 := c2.below hb4; obtain ⟨q0, q1⟩ := (hq.below hb4).cells; have q2 := (box_below c0 hb4).cell)
        | (refine ⟨trivial, ?_⟩; gi_at_call 44; refine (CallsIn.inRound l (callsIn_wide.2 (knows_lit false ba A x.1 _ hkn hv4 (by omega) hxs))).mono ?_; rintro e w5 ⟨rfl, hb5⟩; have hc1 := box_below (box_below c1 hb4) hb5; have g1 := hc1.cell; have f1 := hc1.frozen))
      have hb6 : Below W.heap.size W w5 := below_then hb4 (Nat.le_refl _) hb5
      exact ⟨(KeepsFrom.of_grownBy (row := none) ⟨hb6.os, hb6.tape, hb6.output, hb6.size, fun i hi _ => hb6.block i hi⟩ (fun j e => by cases e)).trans ((KeepsOthers.setCell _ _ _).from _), ⟨⟨rfl, x, by simp, by have := HC.out; omega⟩, (box_below c1 hb6).set _⟩, (below_then hB (by omega) hb6).setCell (p := ⟨w.heap.size + 1, 0, none⟩) (by simp) _⟩
  case done =>
    rintro D ys W hD rfl ⟨⟨⟨c0, c1⟩, c2, c3⟩, hB⟩ hK
    have hcov : coversF A B = true := by
      unfold coversF
      rw [List.all_eq_true]
      intro y hy
      rw [hLQ] at hy
      obtain ⟨z, hz, rfl⟩ := List.mem_map.1 hy
      exact decide_eq_true (c3 z hz)
    have HCOV := Lib.hid hcov
    have g1 := c1.cell
    have f1 := c1.frozen
    clear hcov c3
    gi_wp2
    have hK' := (KeepsOthers.setCell W ⟨w.heap.size + 1, 0, none⟩ (.bool true)).same D _ hK rfl
    refine ⟨by simp, .inl ⟨_, _, rfl, run_takeDeferred hK', ?_⟩⟩
    have e1 := (own_box (c1.set (.bool true)) (grownBy_putObj' _ D (.deferred none)) (fun r e => by cases e; exact ⟨_, hK', rfl⟩)).cell
    exact ⟨.bool true, by simp [results, Try.f81, go_sem, e1], by rw [HCOV.out], hb0.trans ((hB.setCell (p := ⟨w.heap.size + 1, 0, none⟩) (by simp) _).trans (belowK_b (w := w) (Nat.le_refl _) _ D _ _ (by omega) hK' rfl rfl))⟩
  case stop =>
    rintro D c pre W hD ⟨k, hk, hpre⟩ ⟨⟨⟨rfl, x, hx, hlt⟩, c1⟩, hB⟩ hK
    have hcov : coversF A B = false := by
      cases hcv : coversF A B with
      | false => rfl
      | true =>
        exfalso
        unfold coversF at hcv
        rw [List.all_eq_true] at hcv
        have hm : x.1 ∈ B := by
          rw [hLQ]
          exact List.mem_map.2 ⟨x, List.mem_of_mem_take (by rw [← hpre]; exact hx), rfl⟩
        have := hcv x.1 hm
        simp at this
        omega
    have HCOV := Lib.hid hcov
    clear hcov hlt hx hpre
    gi_wp2
    refine ⟨by simp, .inl ⟨_, _, rfl, run_takeDeferred hK, ?_⟩⟩
    have e1 := (own_box c1 (grownBy_putObj' W D (.deferred none)) (fun r e => by cases e; exact ⟨_, hK, rfl⟩)).cell
    exact ⟨.bool false, by simp [results, Try.f81, go_sem, e1], by rw [HCOV.out], hb0.trans (hB.trans (belowK_b (w := w) (Nat.le_refl _) W D _ _ (by omega) hK rfl rfl))⟩

theorem covers_lit (q : Bool) (ba bb : Option Nat) (A B : List P) (w : World) (h : coversF A B = q) (gb : Good B) (sb : Sm B) (ha : OMap w ba A) (hb : OMap w bb B) (h1 : B.length ≤ 1000) :
    Calls Try.prog 81 #[.map ba, .map bb] w fun e w' => e = .returned (.bool q) ∧ Below w.heap.size w w' := by
  subst h; exact covers_any ba bb A B w gb sb ha hb h1

/-- How two stand. -/
def orderF (A B : List P) : Int := if coversF A B = true ∧ coversF B A = true then 0 else if coversF B A = true then 1 else if coversF A B = true then 2 else 3
theorem compare_any (ba bb : Option Nat) (A B : List P) (w : World) (ga : Good A) (sa : Sm A) (gb : Good B) (sb : Sm B) (ha : OMap w ba A) (hb : OMap w bb B) (h1 : A.length ≤ 1000) (h2 : B.length ≤ 1000) :
    Calls Try.prog 55 #[.map ba, .map bb] w fun e w' => e = .returned (.int .i64 (orderF A B)) ∧ Below w.heap.size w w' := by
  have HA := Lib.hid ha
  have HB := Lib.hid hb
  clear ha hb
  cases q1 : coversF A B <;> cases q2 : coversF B A
  all_goals
    go_enter Try.func55, Try.ntmps55
    go_wp2_with fail
    refine (covers_lit _ ba bb A B _ q1 gb sb HA.out HB.out h2).mono ?_
    rintro e w2 ⟨rfl, hb2⟩
    go_wp2_with fail
    refine (covers_lit _ bb ba B A _ q2 ga sa (HB.out.below hb2) (HA.out.below hb2) h1).mono ?_
    rintro e w3 ⟨rfl, hb3⟩
    go_wp2_with fail
    go_ret
    exact ⟨ret_int (by unfold orderF; simp [q1, q2]), below_then hb2 (Nat.le_refl _) hb3⟩
end Go.Proofs.Ytihfcohebgemdaa.Vec
