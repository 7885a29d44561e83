/- wire.Reader: New, Count (layer 3). -/
import Derived.Test.YtemckpmedjennaaGreatDoorRdr
set_option linter.unusedSimpArgs false
set_option linter.unusedVariables false
namespace Go.Proofs.YtemckpmedjennaaGreatDoor.Rd
open Go.RowKit Go.Proofs.YtemckpmedjennaaGreatDoor.Mrk

theorem new_any (v : Value) (B : List Nat) (w : World) (hv : BRow w v B) (hs : B.length ≤ 100000000) : Calls Tryz.prog 28 #[v] w fun e w' => e = .returned (pR w.heap.size) ∧ Rdr w' w.heap.size v B (0, 0) ∧ Below w.heap.size w w' := by
  obtain ⟨ao, cap, rfl, -, -⟩ := Lst.form hv
  obtain ⟨n, hn⟩ : ∃ n, n = B.length := ⟨_, rfl⟩
  have HF := Lib.hid (show Rdr (w.alloc (.cells #[.slice ao n cap, .int .i64 0, .int .i64 0] 120)) w.heap.size (.slice ao n cap) B (0, 0) from by
    rw [hn]
    have hb : Below w.heap.size w (w.alloc (.cells #[.slice ao B.length cap, .int .i64 0, .int .i64 0] 120)) := (Below.refl _ _).alloc (Nat.le_refl _) _
    refine ⟨by simp, by go_simp, by go_simp, by go_simp, by go_simp, by go_simp, by go_simp, Lst.below hv hb, fun hne ad k c e => ?_, Nat.zero_le _, hs⟩
    obtain ⟨ao', cap', e1, _, _, h3⟩ := hv
    rcases h3 with h3 | ⟨g, off, e2, hg, _⟩
    · exact absurd (List.eq_nil_of_length_eq_zero h3) hne
    · subst e2
      cases e1
      cases e
      exact Nat.ne_of_lt hg)
  rw [← hn]
  clear hv hs hn
  go_enter Tryz.func28, Tryz.ntmps28
  go_wp2_with fail
  go_ret
  exact ⟨rfl, HF.out, (Below.refl _ _).alloc (Nat.le_refl _) _⟩

/-- Count: the number, the reader behind it. -/
def countS (B : List Nat) (most : Int) (s : S) : Nat × S :=
  if (numS B s).2.2 = 0 then if most < (numS B s).1 then (0, (s.1, 31)) else numS B s else (0, (s.1, (numS B s).2.2))
theorem countS_ok (B : List Nat) (most : Int) (s : S) (hs : s.1 ≤ B.length) : (countS B most s).2.1 ≤ B.length ∧ s.1 ≤ (countS B most s).2.1 ∧ ((countS B most s).1 : Int) ≤ max most 0 := by
  have h := numS_ok B s hs
  unfold countS
  split
  · split
    · exact ⟨hs, Nat.le_refl _, (show ((0 : Nat) : Int) ≤ max most 0 by omega)⟩
    · exact ⟨h.1, h.2.2, by omega⟩
  · exact ⟨hs, Nat.le_refl _, (show ((0 : Nat) : Int) ≤ max most 0 by omega)⟩

set_option maxHeartbeats 4000000 in
set_option maxRecDepth 100000 in
theorem count_any (r : Nat) (v : Value) (B : List Nat) (most : Int) (s : S) (w : World) (h : Rdr w r v B s) (hB : ∀ c ∈ B, c < 256) :
    Calls Tryz.prog 97 #[pR r, .int .i64 most] w (RdP r v B (countS B most s).2 (.int .i64 ((countS B most s).1 : Nat)) w) := by
  have HNU := Lib.hid (num_any r v B s w h hB)
  have HF := Lib.hid (fun (s : S) (y : Int) (w1 : World) (h : Rdr w1 r v B s) => fail_any r v B s y w1 h)
  have hok := numS_ok B s h.at_
  have HAT := Lib.hid (show ∀ (W : World) (q : S), Rdr W r v B q → Rdr (W.setCell ⟨r, 1, none⟩ (.int .i64 (s.1 : Nat))) r v B (s.1, q.2) from fun W q hq => hq.setAt s.1 h.at_)
  obtain ⟨x, hx⟩ : ∃ x, x = numS B s := ⟨_, rfl⟩
  obtain ⟨a, y⟩ := s
  obtain ⟨Q, hQe⟩ : ∃ Q, Q = countS B most (a, y) := ⟨_, rfl⟩
  have HQ := Lib.hid (show Q = if x.2.2 = 0 then if most < x.1 then (0, (a, (31 : Int))) else x else (0, (a, x.2.2)) from by rw [hQe, hx]; rfl)
  rw [← hQe]
  rw [← hx] at HNU hok
  obtain ⟨n, a1, y1⟩ := x
  have c1 := h.c1
  simp only [] at c1 hok
  have hn62 := hok.2.1
  clear h hok hx hQe
  go_enter Tryz.func97, Tryz.ntmps97
  go_wp2_with fail
  refine HNU.out.mono ?_
  rintro e w1 ⟨rfl, hr1, hg1⟩
  have HR1 := Lib.hid hr1
  have HG1 := Lib.hid hg1
  have d1 := hr1.c1
  have d2 := hr1.c2
  have g1 := hr1.f1
  simp only [] at d1 d2
  clear hr1 hg1 c1
  cases hy : ((y1 : Int) == 0)
  · have hy' : ¬ y1 = 0 := by simpa using hy
    have HFA := Lib.hid (HAT.out w1 (a1, y1) HR1.out)
    have HE := Lib.hid (show Q = (0, (a, y1)) from by have h := HQ.out; simpa [hy'] using h)
    clear hy'
    go_wp2_with fail
    go_ret
    exact ⟨by first | (rw [HE.out]; rfl) | rw [HE.out], by rw [HE.out]; exact HFA.out, HG1.out.andThen (grown_cell' _ _ _ _) (fun j hj => Or.inr hj)⟩
  · have hy' : y1 = 0 := by simpa using hy
    subst hy'
    cases hm : decide ((n : Int) > most)
    · have hm' : ¬ most < (n : Int) := by simpa using hm
      have HE := Lib.hid (show Q = (n, (a1, (0 : Int))) from by have h := HQ.out; simpa [hm'] using h)
      clear hm'
      go_wp2_with fail
      go_ret
      exact ⟨by first | (rw [HE.out]; rfl) | rw [HE.out], by rw [HE.out]; exact HR1.out, HG1.out⟩
    · have hm' : most < (n : Int) := by simpa using hm
      have HE := Lib.hid (show Q = (0, (a, (31 : Int))) from by have h := HQ.out; simpa [hm'] using h)
      have HFA := Lib.hid (HF.out (a1, 0) 31 w1 HR1.out)
      clear hm'
      go_wp2_with fail
      refine HFA.out.mono ?_
      rintro e w2 ⟨rfl, hr2, hg2⟩
      have HR2 := Lib.hid (show Rdr w2 r v B (a1, (31 : Int)) from hr2)
      have HG2 := Lib.hid (HG1.out.andThen hg2 (fun j hj => Or.inr hj))
      have e2 := HR2.out.c2
      have e1 := HR2.out.c1
      have k1 := HR2.out.f1
      simp only [] at e1 e2
      have HFB := Lib.hid (HAT.out w2 (a1, 31) HR2.out)
      clear hr2 hg2 d1 d2 g1
      go_wp2_with fail
      go_ret
      exact ⟨by first | (rw [HE.out]; rfl) | rw [HE.out], by rw [HE.out]; exact HFB.out, HG2.out.andThen (grown_cell' _ _ _ _) (fun j hj => Or.inr hj)⟩
end Go.Proofs.YtemckpmedjennaaGreatDoor.Rd
