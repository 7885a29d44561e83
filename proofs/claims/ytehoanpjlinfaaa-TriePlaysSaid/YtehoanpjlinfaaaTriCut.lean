/- The trie in memory, a node less: what the two deletions and the stores come to. And the walk of find. -/
import Derived.Test.YtehoanpjlinfaaaTriPutW
namespace Go.Proofs.Ytehoanpjlinfaaa.Tri
open Go.RowKit

/-- Behind the two deletions. -/
theorem cut_heap {w w2 w6 : World} {β b N i g cap g2 cap2 n : Nat} {σ : Store} {x : Node} (H : Heap w β σ) (hx : σ b = some x) (hS : Slim σ N) (hn1 : x.runes.length = n) (hi : i < n)
    (hrv : x.rv = .slice (some ⟨g, 0, none⟩) n cap) (hbv : x.bv = .slice (some ⟨g2, 0, none⟩) n cap2)
    (ho : w2.ownsRow β 21 1 (.slice (some ⟨g, 0, none⟩) (n - 1) cap) (n - 1) ((x.runes.map enR).take i ++ (x.runes.map enR).drop (i + 1))) (hg : w.grownBy w2 (some g))
    (ho2 : w6.ownsRow β 96 1 (.slice (some ⟨g2, 0, none⟩) (n - 1) cap2) (n - 1) ((x.below.map enP).take i ++ (x.below.map enP).drop (i + 1)))
    (hg2 : (w2.setCell ⟨b, 0, none⟩ (.slice (some ⟨g, 0, none⟩) (n - 1) cap)).grownBy w6 (some g2)) :
    ∃ x1 : Node, x1.runes = x.runes.eraseIdx i ∧ x1.below = x.below.eraseIdx i ∧ x1.n = x.n ∧ x1.is = x.is ∧
      Heap (w6.setCell ⟨b, 1, none⟩ (.slice (some ⟨g2, 0, none⟩) (n - 1) cap2)) β (σ.set b x1) ∧ Moves σ w (σ.set b x1) (w6.setCell ⟨b, 1, none⟩ (.slice (some ⟨g2, 0, none⟩) (n - 1) cap2)) ∧
      Slim (σ.set b x1) N ∧ Tail σ (σ.set b x1) w (w6.setCell ⟨b, 1, none⟩ (.slice (some ⟨g2, 0, none⟩) (n - 1) cap2)) := by
  have hn := H.at_ b x hx
  have hbl := hn.lt
  obtain ⟨cs, T, hb0, hT1, hT2⟩ := hn.ty
  have hro : x.rv.ownBlock = some g := by rw [hrv]; rfl
  have hbo : x.bv.ownBlock = some g2 := by rw [hbv]; rfl
  have hgb : g ≠ b := fun e => (hn.row_ne hn).1 (by rw [hro, e])
  have hgb2 : g2 ≠ b := fun e => (hn.row_ne hn).2 (by rw [hbo, e])
  have hgg : g2 ≠ g := fun e => hn.rows_ne hn hro (by rw [hbo, e])
  have hgl := (hn.rr.lt g hro).2
  have hgl2 := (hn.br.lt g2 hbo).2
  have hsz := hg.size
  have hsz6 : w2.heap.size ≤ w6.heap.size := by have := hg2.size; simp at this; omega
  have hb2 : w2.heap[b]? = some (.cells cs T (0, 0)) := (hg.block b hbl (by simp; omega)).trans hb0
  have hb6 : w6.heap[b]? = some (.cells (cs.setIfInBounds 0 (.slice (some ⟨g, 0, none⟩) (n - 1) cap)) T (0, 0)) := (hg2.block b (by simp; omega) (by simp; omega)).trans (setCell_block hb2 _)
  have old : ∀ k, k < w.heap.size → k ≠ b → k ≠ g → k ≠ g2 → w6.heap[k]? = w.heap[k]? := fun k h1 h2 h3 h4 => by
    rw [hg2.block k (by simp; omega) (by simp; omega), Below.heap_setCell _ _ _ k h2, hg.block k h1 (by simp; omega)]
  obtain ⟨W, hW⟩ : ∃ W, W = w6.setCell ⟨b, 1, none⟩ (.slice (some ⟨g2, 0, none⟩) (n - 1) cap2) := ⟨_, rfl⟩
  rw [← hW]
  have h7 : W.heap[b]? = some (.cells ((cs.setIfInBounds 0 (.slice (some ⟨g, 0, none⟩) (n - 1) cap)).setIfInBounds 1 (.slice (some ⟨g2, 0, none⟩) (n - 1) cap2)) T (0, 0)) := by rw [hW]; exact setCell_block hb6 _
  have h7o : ∀ k, k ≠ b → W.heap[k]? = w6.heap[k]? := fun k hk => by rw [hW]; exact Below.heap_setCell w6 _ _ k hk
  have k0 := (cells_block hb0 0).symm.trans hn.c0
  have k1 := (cells_block hb0 1).symm.trans hn.c1
  have s0 := (Array.getElem?_eq_some_iff.1 k0).1
  have s1 := (Array.getElem?_eq_some_iff.1 k1).1
  obtain ⟨x1, hx1⟩ : ∃ x1 : Node, x1 = ⟨.slice (some ⟨g, 0, none⟩) (n - 1) cap, .slice (some ⟨g2, 0, none⟩) (n - 1) cap2, x.runes.eraseIdx i, x.below.eraseIdx i, x.n, x.is⟩ := ⟨_, rfl⟩
  have hl1 : x1.runes.length = n - 1 := by rw [hx1]; simp [List.length_eraseIdx, hn1, hi]
  have hl2 : x1.below.length = n - 1 := by rw [hx1]; simp [List.length_eraseIdx, hn.ok.same, hn1, hi]
  have hny : NodeAt W β b x1 := by
    refine ⟨hn.lo, ⟨_, T, h7, hT1, hT2⟩, ?_, ?_, ?_, ?_, ?_, ?_, ⟨by rw [hx1]; exact hn.ok.rise.sublist (List.eraseIdx_sublist _ _), by rw [hl1, hl2]⟩⟩
    · rw [cells_block h7, Array.getElem?_setIfInBounds_ne (by omega), Array.getElem?_setIfInBounds_self_of_lt s0, hx1]
    · rw [cells_block h7, Array.getElem?_setIfInBounds_self_of_lt (by simpa using s1), hx1]
    · rw [cells_block h7, Array.getElem?_setIfInBounds_ne (by omega), Array.getElem?_setIfInBounds_ne (by omega), ← cells_block hb0, hn.c2, hx1]
    · rw [cells_block h7, Array.getElem?_setIfInBounds_ne (by omega), Array.getElem?_setIfInBounds_ne (by omega), ← cells_block hb0, hn.c3, hx1]
    · rw [hl1, hx1]
      have e1 : (x.runes.eraseIdx i).map enR = (x.runes.map enR).take i ++ (x.runes.map enR).drop (i + 1) := by rw [List.eraseIdx_eq_take_drop_succ]; simp
      rw [e1]
      refine own_same ho fun k hk => ?_
      have hk : g = k := by simpa [Value.ownBlock] using hk
      subst hk
      rw [h7o g hgb, hg2.block g (by simp; omega) (by simp; omega), Below.heap_setCell _ _ _ g hgb]
    · rw [hl2, hx1]
      have e1 : (x.below.eraseIdx i).map enP = (x.below.map enP).take i ++ (x.below.map enP).drop (i + 1) := by rw [List.eraseIdx_eq_take_drop_succ]; simp
      rw [e1]
      refine own_same ho2 fun k hk => ?_
      have hk : g2 = k := by simpa [Value.ownBlock] using hk
      subst hk
      exact h7o _ hgb2
  have hdom : ∀ k, σ k ≠ none → (σ.set b x1) k ≠ none := fun k hk => by
    by_cases e : k = b
    · rw [e, Store.set_same]; simp
    · rw [Store.set_other _ _ e]; exact hk
  have K := H.turn (w' := W) (τ := σ.set b x1) (x1 := x1) hx (fun k h1 h2 h3 h4 => (h7o k h2).trans (old k h1 h2 (fun e => h3 (by rw [hro, e])) (fun e => h4 (by rw [hbo, e])))) hny (Or.inl (by rw [hx1, hro]; rfl)) (Or.inl (by rw [hx1, hbo]; rfl)) (Store.set_same _ _ _)
    (fun k z h1 h2 => Or.inl (by rwa [Store.set_other _ _ h1] at h2)) (fun k z hk e he => by
      by_cases h3 : k = b
      · subst h3
        rw [Store.set_same] at hk; cases hk
        rw [hx1] at he
        exact hdom e (H.dom k x hx e ((List.eraseIdx_sublist _ _).mem he))
      · rw [Store.set_other _ _ h3] at hk
        exact hdom e (H.dom k z hk e he))
  refine ⟨x1, by rw [hx1], by rw [hx1], by rw [hx1], by rw [hx1], K.1, ⟨?_, ?_, ?_, ?_, fun k h1 h2 => ?_, K.2⟩, fun k z hk => ?_, fun k hk => ⟨hdom k hk, fun o hoo => ?_⟩⟩
  · rw [hW]; exact hg2.os.trans (show w2.os = w.os from hg.os)
  · rw [hW]; exact hg2.tape.trans (show w2.tape = w.tape from hg.tape)
  · rw [hW]; exact hg2.output.trans (show w2.output = w.output from hg.output)
  · rw [hW]; simp; omega
  · have e1 : k ≠ b := fun e => h2 ⟨b, x, hx, Or.inl e⟩
    exact (h7o k e1).trans (old k h1 e1 (fun e => h2 ⟨b, x, hx, Or.inr (Or.inl (by rw [hro, e]))⟩) (fun e => h2 ⟨b, x, hx, Or.inr (Or.inr (by rw [hbo, e]))⟩))
  · by_cases h3 : k = b
    · subst h3
      rw [Store.set_same] at hk; cases hk
      rw [hl1]; have := hS k x hx; omega
    · rw [Store.set_other _ _ h3] at hk
      exact hS k z hk
  · by_cases h3 : k = b
    · subst h3
      rw [cells_block h7, cells_block hb0, Array.getElem?_setIfInBounds_ne (by omega), Array.getElem?_setIfInBounds_ne (by omega)]
    · cases hq : σ k with
      | none => exact absurd hq hk
      | some y =>
        have hyn := H.at_ k y hq
        exact World.cell?_of_block (w := w) (a := ⟨k, o, none⟩) ((h7o k h3).trans (old k hyn.lt h3 (fun e => (hyn.row_ne hn).1 (by rw [hro, e])) (fun e => (hyn.row_ne hn).2 (by rw [hbo, e]))))

def ptr (c : Option Nat) : Value := .pointer (c.map fun c => ⟨c, 0, none⟩)
def FindPost (c : Option Nat) (w : World) (e : Ending) (w' : World) : Prop := e = .returned (ptr c) ∧ Below w.heap.size w w'

set_option maxHeartbeats 4000000 in
set_option maxRecDepth 100000 in
theorem find_any (t : Nat) (s : ByteArray) (β N : Nat) (σ : Store) (w : World) (H : Heap w β σ) (ht : σ t ≠ none) (hS : Slim σ N) (hN : N ≤ 99999) :
    Calls Try.prog 88 #[enP t, .string s] w (FindPost (findF σ t (runesOf s)) w) := by
  have HH := Lib.hid H
  have HS := Lib.hid hS
  have HT := Lib.hid ht
  clear H hS ht
  go_enter Try.func88, Try.ntmps88
  go_wp2_with fail
  go_loopw [5] (fun at_ wr => ∃ (pos fuel c : Nat), at_ = enP c ∧ wr.heap[w.heap.size]? = some (.stringIter s pos) ∧ Hid (Below w.heap.size w wr) ∧ Hid (σ c ≠ none) ∧
    Hid (findF σ c (runesFrom s fuel pos) = findF σ t (runesOf s)) ∧ s.size ≤ pos + fuel) (fun _ wr => s.size - wr.iterPos w.heap.size)
  case atStart => exact ⟨0, s.size, t, rfl, World.iter_heap w s 0, Lib.hid ((Below.refl _ _).alloc (Nat.le_refl _) _), HT, Lib.hid rfl, by omega⟩
  case round =>
    obtain ⟨pos, fuel, c, rfl, hit, hB, hc, hF, hf⟩ := hrel
    have hpos0 := iter_pos hit
    by_cases hp : pos < s.size
    · have hnx : ∀ ty, (Instr.next (.pointer (some ⟨w.heap.size, 0, none⟩)) true ty).run Try.prog wr = _ := fun ty => Lib.run_next_any_at wr w.heap.size s pos ty hit hp
      have hwd := width_pos s pos hp
      obtain ⟨fuel, rfl⟩ : ∃ f', fuel = f' + 1 := ⟨fuel - 1, by omega⟩
      have hst := runesFrom_step s fuel hp
      obtain ⟨W1, hW1⟩ : ∃ W1, W1 = wr.iterAt w.heap.size s (pos + (Utf8.decode s pos).2) := ⟨_, rfl⟩
      have hit2 : W1.heap[w.heap.size]? = some (.stringIter s (pos + (Utf8.decode s pos).2)) := by rw [hW1]; exact Lib.iterAt_heap wr w.heap.size s pos _ hit
      have hB1 : Below w.heap.size w W1 := by rw [hW1]; exact Lib.below_iterAt hB.out (Nat.le_refl _) s _
      rw [← hW1] at hnx
      rw [hst] at hF
      have hlt2 : pos < pos + (Utf8.decode s pos).2 := by omega
      generalize (Utf8.decode s pos).1 = r at *
      generalize pos + (Utf8.decode s pos).2 = pos2 at *
      have HI2 := Lib.hid hit2
      have HB1 := Lib.hid hB1
      have HP0 := Lib.hid hpos0
      have HF := Lib.hid hF.out
      cases hq : σ c with
      | none => exact absurd hq hc.out
      | some x =>
        have hn := ((HH.out.below hB1).at_ c x hq)
        have hsl : x.runes.length ≤ 100000 := by have := HS.out c x hq; omega
        have hF1 := HF.out
        simp only [findF, hq] at hF1
        cases hto : x.to r with
        | none =>
          have hnr := next_out c x r β W1 hn hsl ((hn.ok.to_none r).1 hto)
          have NR := Lib.hid hnr
          have HF2 := Lib.hid (show findF σ t (runesOf s) = none by rw [← hF1, hto])
          clear hW1 hit hB hF hit2 hB1 hst hwd hpos0 hn hsl hnr hF1 hto hq
          go_wp2_with fail
          refine NR.out.mono ?_
          rintro e w2 ⟨rfl, rfl⟩
          go_wp2_with fail
          go_ret
          exact ⟨by rw [HF2.out]; rfl, HB1.out⟩
        | some c2 =>
          obtain ⟨i, hi, hci⟩ := (hn.ok.to_iff r c2).1 hto
          have hnr := next_in c x r c2 β W1 hn hsl hto
          have NR := Lib.hid hnr
          have HF2 := Lib.hid (show findF σ c2 (runesFrom s fuel pos2) = findF σ t (runesOf s) by rw [← hF1, hto])
          have HC2 := Lib.hid (HH.out.dom c x hq c2 (List.mem_of_getElem? hci))
          clear hW1 hit hB hF hit2 hB1 hst hwd hpos0 hn hsl hnr hF1 hto hq hi hci
          go_wp2_with fail
          refine NR.out.mono ?_
          rintro e w2 ⟨rfl, rfl⟩
          go_wp2_with fail
          go_roundw
          case rel => exact ⟨pos2, fuel, c2, rfl, HI2.out, HB1, HC2, HF2, by omega⟩
          case measure => rw [iter_pos HI2.out, HP0.out]; omega
    · have hnx : ∀ ty, (Instr.next (.pointer (some ⟨w.heap.size, 0, none⟩)) true ty).run Try.prog wr = _ := fun ty => Lib.run_next_end_at wr w.heap.size s pos ty hit hp
      rw [runesFrom_end s fuel hp] at hF
      have HF := Lib.hid hF.out
      clear hit hF hpos0
      go_wp2_with fail
      go_ret
      exact ⟨by rw [← HF.out]; rfl, hB.out⟩
end Go.Proofs.Ytehoanpjlinfaaa.Tri
