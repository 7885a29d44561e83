/- The trie's walks: Put. -/
import Derived.Test.YtehoanpjlinfaaaTriGrow
import Derived.Test.YtehoanpjlinfaaaTexts
namespace Go.Proofs.Ytehoanpjlinfaaa.Tri
open Go.RowKit

/-- Moving an iterator on leaves the trie as it is. -/
theorem Heap.iterAt {w : World} {β : Nat} {σ : Store} (h : Heap w β σ) {k : Nat} (hk : ¬ Uses σ k) (s : ByteArray) (p : Nat) : Heap (w.iterAt k s p) β σ :=
  h.same fun i hi => Lib.iterAt_other w k i s p fun e => hk (by rw [← e]; exact hi)
theorem Moves.iterAt {w w' : World} {σ τ : Store} (h : Moves σ w τ w') {k : Nat} (hk : w.heap.size ≤ k) (s : ByteArray) (p : Nat) : Moves σ w τ (w'.iterAt k s p) :=
  ⟨h.os, h.tape, h.output, by rw [Lib.iterAt_size]; exact h.size, fun i hi hu => (Lib.iterAt_other w' k i s p (by omega)).trans (h.block i hi hu), h.uses⟩
theorem Tail.iterAt {w w' : World} {σ τ : Store} (h : Tail σ τ w w') {k : Nat} {s : ByteArray} {p0 : Nat} (hk : w'.heap[k]? = some (.stringIter s p0)) {β : Nat} (H : Heap w' β τ) (p : Nat) : Tail σ τ w (w'.iterAt k s p) := fun b hb => ⟨(h b hb).1, fun o ho => by
  rw [← (h b hb).2 o ho]
  refine World.cell?_of_block (w := w') (a := ⟨b, o, none⟩) (Lib.iterAt_other w' k b s p fun e => ?_)
  cases hq : τ b with
  | none => exact (h b hb).1 hq
  | some x =>
    obtain ⟨cs, T, h1, _⟩ := (H.at_ b x hq).ty
    rw [e, hk] at h1
    cases h1⟩
theorem Tail.below {w w' w'' : World} {σ τ : Store} (h : Tail σ τ w w') {β : Nat} (H : Heap w' β τ) (hb : Below w'.heap.size w' w'') : Tail σ τ w w'' := fun b hb' => ⟨(h b hb').1, fun o ho => by
  rw [← (h b hb').2 o ho]
  cases hq : τ b with
  | none => exact absurd hq (h b hb').1
  | some x => exact hb.cell (p := ⟨b, o, none⟩) (H.at_ b x hq).lt⟩

/-- The trie at block t: its root's node, and how many texts there are. -/
structure TrieAt (w : World) (β t : Nat) (σ : Store) (many : Int) : Prop where
  heap : Heap w β σ
  root : σ t ≠ none
  many : w.cell? ⟨t, 4, none⟩ = some (.int .i64 many)

def PutPost (σ : Store) (t : Nat) (l : Tx) (n : Int) (β N : Nat) (many : Int) (w : World) (e : Ending) (w' : World) : Prop :=
  ∃ τ q, e = .returned (.bool q) ∧ PutRel σ t l n τ q ∧ TrieAt w' β t τ (if q then many else many + 1) ∧ Moves σ w τ w' ∧ Slim τ (N + l.length)

theorem cells_block {W : World} {b : Nat} {C : Array Value} {T : TypeId} (h : W.heap[b]? = some (.cells C T (0, 0))) (o : Nat) : W.cell? ⟨b, o, none⟩ = C[o]? := by unfold World.cell?; rw [h]; simp

/-- A node's own number is stored. -/
theorem store_own {w : World} {β c : Nat} {σ : Store} {x : Node} (H : Heap w β σ) (hx : σ c = some x) (n : Int) (q : Bool) {N : Nat} (hS : Slim σ N) :
    Heap ((w.setCell ⟨c, 2, none⟩ (.int .i64 n)).setCell ⟨c, 3, none⟩ (.bool q)) β (σ.set c { x with n := n, is := q }) ∧ Moves σ w (σ.set c { x with n := n, is := q }) ((w.setCell ⟨c, 2, none⟩ (.int .i64 n)).setCell ⟨c, 3, none⟩ (.bool q)) ∧
      Slim (σ.set c { x with n := n, is := q }) N ∧ Tail σ (σ.set c { x with n := n, is := q }) w ((w.setCell ⟨c, 2, none⟩ (.int .i64 n)).setCell ⟨c, 3, none⟩ (.bool q)) := by
  have hn := H.at_ c x hx
  obtain ⟨cs, T, h0, hT1, hT2⟩ := hn.ty
  obtain ⟨W, hW⟩ : ∃ W, W = (w.setCell ⟨c, 2, none⟩ (.int .i64 n)).setCell ⟨c, 3, none⟩ (.bool q) := ⟨_, rfl⟩
  have h2 : W.heap[c]? = some (.cells ((cs.setIfInBounds 2 (.int .i64 n)).setIfInBounds 3 (.bool q)) T (0, 0)) := by rw [hW]; exact setCell_block (setCell_block h0 _) _
  have ho : ∀ k, k ≠ c → W.heap[k]? = w.heap[k]? := fun k hk => by rw [hW, Below.heap_setCell _ _ _ k hk, Below.heap_setCell _ _ _ k hk]
  have k0 := (cells_block h0 0).symm.trans hn.c0
  have k1 := (cells_block h0 1).symm.trans hn.c1
  have k2 := (cells_block h0 2).symm.trans hn.c2
  have k3 := (cells_block h0 3).symm.trans hn.c3
  have s2 := (Array.getElem?_eq_some_iff.1 k2).1
  have s3 := (Array.getElem?_eq_some_iff.1 k3).1
  rw [← hW]
  obtain ⟨y, hy⟩ : ∃ y : Node, y = { x with n := n, is := q } := ⟨_, rfl⟩
  have hny : NodeAt W β c y := by
    subst hy
    refine ⟨hn.lo, ⟨_, T, h2, hT1, hT2⟩, ?_, ?_, ?_, ?_, own_same hn.rr fun g hg => ho g fun e => (hn.row_ne hn).1 (by rw [← e]; exact hg), own_same hn.br fun g hg => ho g fun e => (hn.row_ne hn).2 (by rw [← e]; exact hg), ⟨hn.ok.rise, hn.ok.same⟩⟩
    · rw [cells_block h2, Array.getElem?_setIfInBounds_ne (by omega), Array.getElem?_setIfInBounds_ne (by omega)]; exact k0
    · rw [cells_block h2, Array.getElem?_setIfInBounds_ne (by omega), Array.getElem?_setIfInBounds_ne (by omega)]; exact k1
    · rw [cells_block h2, Array.getElem?_setIfInBounds_ne (by omega), Array.getElem?_setIfInBounds_self_of_lt s2]
    · rw [cells_block h2, Array.getElem?_setIfInBounds_self_of_lt (by simpa using s3)]
  have hdom : ∀ k, σ k ≠ none → (σ.set c y) k ≠ none := fun k hk => by
    by_cases e : k = c
    · rw [e, Store.set_same]; simp
    · rw [Store.set_other _ _ e]; exact hk
  rw [← hy]
  have hyr : y.rv = x.rv := by rw [hy]
  have hyb : y.bv = x.bv := by rw [hy]
  have hyw : y.below = x.below := by rw [hy]
  have hyu : y.runes = x.runes := by rw [hy]
  have K := H.turn (w' := W) (τ := σ.set c y) (x1 := y) hx (fun k _ h2 _ _ => ho k h2) hny (Or.inl (by rw [hyr])) (Or.inl (by rw [hyb])) (Store.set_same _ _ _) (fun k z h1 h2 => Or.inl (by rwa [Store.set_other _ _ h1] at h2)) (fun k z hk e he => by
    by_cases h3 : k = c
    · subst h3
      rw [Store.set_same] at hk; cases hk
      rw [hyw] at he
      exact hdom e (H.dom k x hx e he)
    · rw [Store.set_other _ _ h3] at hk
      exact hdom e (H.dom k z hk e he))
  refine ⟨K.1, ⟨by rw [hW]; rfl, by rw [hW]; rfl, by rw [hW]; rfl, by rw [hW]; simp, fun k h1 h2 => ho k fun e => h2 ⟨c, x, hx, Or.inl e⟩, K.2⟩, fun k z hk => ?_, fun k hk => ⟨hdom k hk, fun o hoo => ?_⟩⟩
  · by_cases h3 : k = c
    · subst h3
      rw [Store.set_same] at hk; cases hk
      rw [hyu]; exact hS k x hx
    · rw [Store.set_other _ _ h3] at hk
      exact hS k z hk
  · by_cases h3 : k = c
    · subst h3
      rw [cells_block h2, cells_block h0, Array.getElem?_setIfInBounds_ne (by omega), Array.getElem?_setIfInBounds_ne (by omega)]
    · exact World.cell?_of_block (w := w) (a := ⟨k, o, none⟩) (ho k h3)

/-- How many texts there are is stored. -/
theorem store_many {w : World} {β t : Nat} {σ : Store} {many : Int} (H : TrieAt w β t σ many) (m : Int) :
    TrieAt (w.setCell ⟨t, 4, none⟩ (.int .i64 m)) β t σ m ∧ Moves σ w σ (w.setCell ⟨t, 4, none⟩ (.int .i64 m)) := by
  cases hq : σ t with
  | none => exact absurd hq H.root
  | some x =>
    have hn := H.heap.at_ t x hq
    obtain ⟨cs, T, h0, hT1, hT2⟩ := hn.ty
    have h2 := setCell_block (o := 4) h0 (.int .i64 m)
    have ho : ∀ k, k ≠ t → (w.setCell ⟨t, 4, none⟩ (.int .i64 m)).heap[k]? = w.heap[k]? := fun k hk => Below.heap_setCell _ _ _ k hk
    have k4 := (cells_block h0 4).symm.trans H.many
    have s4 := (Array.getElem?_eq_some_iff.1 k4).1
    have hny : NodeAt (w.setCell ⟨t, 4, none⟩ (.int .i64 m)) β t x := by
      refine ⟨hn.lo, ⟨_, T, h2, hT1, hT2⟩, ?_, ?_, ?_, ?_, own_same hn.rr fun g hg => ho g fun e => (hn.row_ne hn).1 (by rw [← e]; exact hg), own_same hn.br fun g hg => ho g fun e => (hn.row_ne hn).2 (by rw [← e]; exact hg), hn.ok⟩
      · rw [cells_block h2, Array.getElem?_setIfInBounds_ne (by omega), ← cells_block h0]; exact hn.c0
      · rw [cells_block h2, Array.getElem?_setIfInBounds_ne (by omega), ← cells_block h0]; exact hn.c1
      · rw [cells_block h2, Array.getElem?_setIfInBounds_ne (by omega), ← cells_block h0]; exact hn.c2
      · rw [cells_block h2, Array.getElem?_setIfInBounds_ne (by omega), ← cells_block h0]; exact hn.c3
    have K := H.heap.turn (w' := w.setCell ⟨t, 4, none⟩ (.int .i64 m)) (τ := σ) (x1 := x) hq (fun k _ h2 _ _ => ho k h2) hny (Or.inl rfl) (Or.inl rfl) hq (fun k z h1 h2 => Or.inl h2) H.heap.dom
    exact ⟨⟨K.1, H.root, by rw [cells_block h2, Array.getElem?_setIfInBounds_self_of_lt s4]⟩, ⟨rfl, rfl, rfl, by simp, fun k h1 h2 => ho k fun e => h2 ⟨t, x, hq, Or.inl e⟩, K.2⟩⟩

set_option maxHeartbeats 4000000 in
set_option maxRecDepth 100000 in
theorem put_any (t : Nat) (s : ByteArray) (n : Int) (β N : Nat) (many : Int) (σ : Store) (w : World) (H : TrieAt w β t σ many) (hβ : β ≤ w.heap.size) (hS : Slim σ N) (hN : N + s.size ≤ 99999) (hm : 0 ≤ many ∧ many ≤ 1000000) :
    Calls Try.prog 46 #[.pointer (some ⟨t, 0, none⟩), .string s, .int .i64 n] w (PutPost σ t (runesOf s) n β N many w) := by
  have HT := Lib.hid H
  have HS := Lib.hid hS
  have hus : ¬ Uses σ w.heap.size := fun e => by have := (H.heap.uses_lt e).2; omega
  have HUS := Lib.hid hus
  clear H hS hus
  go_enter Try.func46, Try.ntmps46
  go_wp2_with fail
  go_loopw [7] (fun at_ wr => ∃ (pos fuel M c : Nat) (τ : Store), at_ = enP c ∧ wr.heap[w.heap.size]? = some (.stringIter s pos) ∧ Hid (Heap wr β τ) ∧ Hid (τ c ≠ none) ∧ Hid (Slim τ M) ∧ M + (runesFrom s fuel pos).length = N + (runesOf s).length ∧ Hid (Moves σ w τ wr) ∧ Hid (Tail σ τ w wr) ∧ Hid (¬ Uses τ w.heap.size) ∧
    Hid (∀ υ q, PutRel τ c (runesFrom s fuel pos) n υ q → PutRel σ t (runesOf s) n υ q) ∧ s.size ≤ pos + fuel) (fun _ wr => s.size - wr.iterPos w.heap.size)
  case atStart =>
    refine ⟨0, s.size, N, t, σ, rfl, World.iter_heap w s 0, Lib.hid (HT.out.heap.below ((Below.refl _ _).alloc (Nat.le_refl _) _)), Lib.hid HT.out.root, HS, rfl, Lib.hid (Moves.below ((Below.refl _ _).alloc (Nat.le_refl _) _)), Lib.hid ((Tail.refl _ _).below HT.out.heap ((Below.refl _ _).alloc (Nat.le_refl _) _)), HUS, Lib.hid fun υ q h => h, by omega⟩
  case round =>
    obtain ⟨pos, fuel, M, c, τ, rfl, hit, hH, hc, hSl, hM, hMv, hTl, hU, hP, hf⟩ := hrel
    have hpos0 := iter_pos hit
    have hrl := runesOf_len s
    by_cases hp : pos < s.size
    · have hnx : ∀ ty, (Instr.next (.pointer (some ⟨w.heap.size, 0, none⟩)) true ty).run Try.prog wr = _ := fun ty => Lib.run_next_any_at wr w.heap.size s pos ty hit hp
      have hwd := width_pos s pos hp
      obtain ⟨fuel, rfl⟩ : ∃ f', fuel = f' + 1 := ⟨fuel - 1, by omega⟩
      have hst := runesFrom_step s fuel hp
      obtain ⟨W1, hW1⟩ : ∃ W1, W1 = wr.iterAt w.heap.size s (pos + (Utf8.decode s pos).2) := ⟨_, rfl⟩
      have hit2 : W1.heap[w.heap.size]? = some (.stringIter s (pos + (Utf8.decode s pos).2)) := by rw [hW1]; exact Lib.iterAt_heap wr w.heap.size s pos _ hit
      have hH1 : Heap W1 β τ := by rw [hW1]; exact hH.out.iterAt hU.out s _
      have hMv1 : Moves σ w τ W1 := by rw [hW1]; exact hMv.out.iterAt (Nat.le_refl _) s _
      have hTl1 : Tail σ τ w W1 := by rw [hW1]; exact hTl.out.iterAt hit hH.out _
      rw [← hW1] at hnx
      have hsz1 : w.heap.size < W1.heap.size := (Array.getElem?_eq_some_iff.1 hit2).1
      rw [hst] at hM
      have hlt2 : pos < pos + (Utf8.decode s pos).2 := by omega
      clear hwd
      have HP0 := Lib.hid hpos0
      generalize (Utf8.decode s pos).1 = r at *
      generalize pos + (Utf8.decode s pos).2 = pos2 at *
      have hM' : M + 1 + (runesFrom s fuel pos2).length = N + (runesOf s).length := by simp at hM; omega
      have H1 := Lib.hid hH1
      have MV1 := Lib.hid hMv1
      have TL1 := Lib.hid hTl1
      have HI2 := Lib.hid hit2
      have ST := Lib.hid hst
      have HSZ1 := Lib.hid hsz1
      clear hW1 hit hH hMv hTl hH1 hMv1 hTl1 hit2 hst hM hpos0
      go_wp2_with fail
      refine (grow_any c (r : Int) β M τ W1 H1.out hc.out (by omega) hSl.out (by omega)).mono ?_
      rintro e w2 ⟨υ, c2, rfl, hg, hc2, hH2, hMv2, hSl2, hTl2⟩
      have hit3 : w2.heap[w.heap.size]? = some (.stringIter s pos2) := (hMv2.block _ hsz1 hU.out).trans HI2.out
      have hU2 : ¬ Uses υ w.heap.size := fun e => by rcases hMv2.uses _ e with e | e; exact hU.out e; omega
      have K1 := Lib.hid hg
      have K2 := Lib.hid hc2
      have K3 := Lib.hid hH2
      have K4 := Lib.hid (MV1.out.trans hMv2)
      have K5 := Lib.hid hSl2
      have K6 := Lib.hid (TL1.out.trans hTl2)
      have K7 := Lib.hid hit3
      have K8 := Lib.hid hU2
      clear hg hc2 hH2 hMv2 hSl2 hTl2 hit3 hU2 H1 MV1 TL1 HI2 hsz1
      go_wp2_with fail
      go_roundw
      case rel => exact ⟨pos2, fuel, M + 1, c2, υ, rfl, K7.out, K3, K2, K5, hM', K4, K6, K8, Lib.hid fun υ' q h => hP.out υ' q (by rw [ST.out]; exact ⟨υ, c2, K1.out, h⟩), by omega⟩
      case measure => rw [iter_pos K7.out, HP0.out]; omega
    · have hnx : ∀ ty, (Instr.next (.pointer (some ⟨w.heap.size, 0, none⟩)) true ty).run Try.prog wr = _ := fun ty => Lib.run_next_end_at wr w.heap.size s pos ty hit hp
      rw [runesFrom_end s fuel hp] at hP hM
      cases hq : τ c with
      | none => exact absurd hq hc.out
      | some x =>
        have hxn := hH.out.at_ c x hq
        have hmany : wr.cell? ⟨t, 4, none⟩ = some (.int .i64 many) := ((hTl.out t HT.out.root).2 4 (by omega)).trans HT.out.many
        have hc2 := hxn.c2
        have hc3 := hxn.c3
        have hfr := hxn.free
        have f2 := hfr 2
        have f3 := hfr 3
        have HQ := Lib.hid hq
        have HXN := Lib.hid hxn
        have HP0 := Lib.hid hpos0
        cases hti : τ t with
        | none => exact absurd hti (hTl.out t HT.out.root).1
        | some z =>
          have hzn := hH.out.at_ t z hti
          have f4 := hzn.free 4
          have hlt : t < wr.heap.size := hzn.lt
          have hlc : c < wr.heap.size := hxn.lt
          have HTI := Lib.hid hti
          have HMN := Lib.hid hmany
          clear hxn hfr hq hzn hti hit hpos0
          have HM0 := Lib.hid (show M = N + (runesOf s).length by simpa using hM)
          clear hM
          have TA : Hid (TrieAt wr β t τ many) := ⟨hH.out, (hTl.out t HT.out.root).1, HMN.out⟩
          have hm1 : IntKind.i64.wrap (many + 1) = many + 1 := IntWalk.i64_in _ (by omega)
          cases hb : x.is
          · rw [hb] at hc3
            have HB := Lib.hid hb
            clear hb
            go_wp2_with fail
            go_ret
            obtain ⟨a1, a2⟩ := store_many TA.out (many + 1)
            obtain ⟨b1, b2, b3, b4⟩ := store_own a1.heap HQ.out n true hSl.out
            exact ⟨_, false, rfl, hP.out _ _ ⟨x, { x with n := n, is := true }, HQ.out, rfl, rfl, rfl, rfl, rfl, HB.out.symm⟩, ⟨b1, (b4 t a1.root).1, ((b4 t a1.root).2 4 (by omega)).trans a1.many⟩, hMv.out.trans (a2.trans b2), by rw [← HM0.out]; exact b3⟩
          · rw [hb] at hc3
            have HB := Lib.hid hb
            clear hb
            go_wp2_with fail
            go_ret
            obtain ⟨b1, b2, b3, b4⟩ := store_own TA.out.heap HQ.out n true hSl.out
            exact ⟨_, true, rfl, hP.out _ _ ⟨x, { x with n := n, is := true }, HQ.out, rfl, rfl, rfl, rfl, rfl, HB.out.symm⟩, ⟨b1, (b4 t TA.out.root).1, ((b4 t TA.out.root).2 4 (by omega)).trans TA.out.many⟩, hMv.out.trans b2, by rw [← HM0.out]; exact b3⟩
end Go.Proofs.Ytehoanpjlinfaaa.Tri
