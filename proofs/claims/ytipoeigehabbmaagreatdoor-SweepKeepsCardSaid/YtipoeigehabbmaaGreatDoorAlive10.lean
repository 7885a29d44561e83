/- The walk of the law's alive (layer 10). -/
import Derived.Test.YtipoeigehabbmaaGreatDoorSweep
import Derived.Test.YtipoeigehabbmaaGreatDoorSweepDrop
set_option linter.unusedSimpArgs false
set_option linter.unusedVariables false
namespace Go.Proofs.YtipoeigehabbmaaGreatDoor.Mut
open Go.RowKit Go.Sort Go.Proofs.YtipoeigehabbmaaGreatDoor.Ord Go.Proofs.YtipoeigehabbmaaGreatDoor.RegInv
set_option linter.unusedSectionVars false
variable [Inhabited Lim]

/-- A literal row of mutations that supersede nothing. -/
theorem lit_rows10 (R : List Ro) (w : World) (t : TypeId) (hR : ∀ x ∈ R, x.2 = .slice none 0 0 ∧ x.1.over = []) (hn : R.length ≤ maxLen) : MRow (w.alloc (.cells ⟨R.flatMap enM⟩ t)) (.slice (some ⟨w.heap.size, 0, none⟩) R.length R.length) R := by
  refine ⟨⟨_, R.length, rfl, Nat.le_refl _, hn, Or.inr ⟨_, _, rfl, by simp, fun i x hi j hj => ?_⟩⟩, fun x hx => ?_⟩
  · rw [cells_at (heap_alloc_new w _), Nat.zero_add]
    exact flatMap_get enM_len _ i x hi j hj
  · obtain ⟨h1, h2⟩ := hR x hx
    exact ⟨by rw [h1, h2]; exact Lst.nil _, by rw [h1]; exact ZN.none _ _⟩
def mP : Mu := ⟨1, 1, ⟨#[107]⟩, ⟨#[]⟩, ⟨#[118]⟩, 0, ⟨1, 0, 0⟩, []⟩
def mD : Mu := ⟨1, 2, ⟨#[107]⟩, ⟨#[]⟩, ⟨#[]⟩, 0, ⟨2, 0, 0⟩, []⟩
theorem rightP : rightF mP = true := by kernel_rfl
theorem rightD : rightF mD = true := by kernel_rfl
theorem left10 : leftOf [mP, mD] = ⟨[mD], [], []⟩ := by kernel_rfl
theorem all10 : allF ⟨[mD], [], []⟩ = [mD] := List.mergeSort_singleton _
theorem dead10 : deadF ⟨[mD], [], []⟩ ⟨3, 0, 0⟩ mD = true := by kernel_rfl
theorem good10 : Good ⟨[mD], [], []⟩ 2 := by rw [← left10]; exact leftOf_good _
theorem alone_all : allF ⟨[], [], []⟩ = [] := List.mergeSort_nil

set_option maxHeartbeats 4000000 in
set_option maxRecDepth 100000 in
theorem alive10_any (w : World) (hT : Tabs w) : Calls Tryz.prog 52 #[] w (RetB true w) := by
  have HT := Lib.hid hT
  clear hT
  go_enter Tryz.func52, Tryz.ntmps52
  go_wp2_with fail
  have hb0 := (Below.refl _ w).alloc (Nat.le_refl _) (.cells ⟨[((mP, .slice none 0 0) : Ro), (mD, .slice none 0 0)].flatMap enM⟩ 35)
  have hrow : Reads _ _ [mP, mD] := ⟨_, rfl, lit_rows10 [((mP, .slice none 0 0) : Ro), (mD, .slice none 0 0)] w 35 (fun x hx => by
    simp only [List.mem_cons, List.not_mem_nil, or_false] at hx
    rcases hx with rfl | rfl <;> exact ⟨rfl, rfl⟩) (by decide)⟩
  have hof := c_of (HT.out.below hb0) hrow (by decide) (fun m hm => by
    simp only [List.mem_cons, List.not_mem_nil, or_false] at hm
    rcases hm with rfl | rfl
    · exact small_right rightP
    · exact small_right rightD)
  rw [left10] at hof
  refine hof.mono ?_
  rintro e w1 ⟨vv, rfl, hc, hb1⟩
  have HB1 := Lib.hid (below_then hb0 (Nat.le_refl _) hb1)
  obtain ⟨p1, q1, r1, p2, q2, r2, p3, q3, r3, rfl, hl⟩ := hc.form
  have HC := Lib.hid hl
  clear hc hl hof hrow hb0 hb1
  go_upto_region 2 with fail
  obtain ⟨W1, hW⟩ : ∃ W, W = w1.alloc (.cells #[.slice p1 q1 r1, .slice p2 q2 r2, .slice p3 q3 r3] 25) := ⟨_, rfl⟩
  have hb2 : RowKit.Below w1.heap.size w1 W1 := by rw [hW]; exact (Below.refl _ _).alloc (Nat.le_refl _) _
  have hp : C3 W1 w1.heap.size (.slice p1 q1 r1) (.slice p2 q2 r2) (.slice p3 q3 r3) := by rw [hW]; exact C3.new _ _ _ _
  rw [← hW]
  obtain ⟨n1, hn⟩ : ∃ n, n = w1.heap.size := ⟨_, rfl⟩
  rw [← hn] at hp ⊢
  have HL := Lib.hid (HC.out.below hb2)
  have HP := Lib.hid hp
  have HB2 := Lib.hid (below_then HB1.out (Nat.le_refl _) hb2)
  clear hW hb2 hp hn HB1 HC
  obtain ⟨-, s0, s1, s2, -⟩ := HP.out
  go_wp2_with fail
  refine (c_all (n := 2) HL.out.is good10 (by decide)).mono ?_
  rintro e w2 ⟨g, cap, R, rfl, -, hm, hb⟩
  rw [all10] at hm
  have e1 : R.length = 1 := by have := congrArg List.length hm; simpa using this
  rw [e1]
  have HL2 := Lib.hid (HL.out.below hb)
  have HP2 := Lib.hid (HP.out.below hb)
  have HB3 := Lib.hid (below_then HB2.out (Nat.le_refl _) hb)
  clear hm hb s0 s1 s2 e1 HL HP HB2
  obtain ⟨-, s0, s1, s2, -⟩ := HP2.out
  go_wp2_with fail
  have hfil : (⟨[mD], [], []⟩ : Con).filter (fun m => !deadF ⟨[mD], [], []⟩ ⟨3, 0, 0⟩ m) = ⟨[], [], []⟩ := by
    unfold Con.filter
    simp only [List.filter_cons, List.filter_nil, dead10]
    rfl
  have hsw := c_sweep (n := 2) ⟨3, 0, 0⟩ HL2.out.is good10 (by decide)
  rw [hfil] at hsw
  refine hsw.mono ?_
  rintro e w3 ⟨v3, rfl, hc3, hb⟩
  have HL3 := Lib.hid (HL2.out.below hb)
  have HP3 := Lib.hid (HP2.out.below hb)
  have HB4 := Lib.hid (below_then HB3.out (Nat.le_refl _) hb)
  have HC3 := Lib.hid hc3
  clear hsw hb hc3 s0 s1 s2 HL2 HP2 HB3
  go_wp2_with fail
  have hg0 : Good ⟨[], [], []⟩ 2 := by rw [← hfil]; exact good10.filter _
  refine (c_all (n := 2) HC3.out hg0 (by decide)).mono ?_
  rintro e w4 ⟨g4, cap4, R4, rfl, -, hm, hb⟩
  rw [alone_all] at hm
  have e1 : R4.length = 0 := by have := congrArg List.length hm; simpa using this
  rw [e1]
  have HL4 := Lib.hid (HL3.out.below hb)
  have HP4 := Lib.hid (HP3.out.below hb)
  have HB5 := Lib.hid (below_then HB4.out (Nat.le_refl _) hb)
  clear hm hb e1 HL3 HP3 HB4 HC3 hfil hg0
  obtain ⟨-, s0, s1, s2, -⟩ := HP4.out
  go_wp2_with fail
  have hdr := c_dropped (n := 2) ⟨3, 0, 0⟩ HL4.out.is good10 (by decide)
  rw [all10] at hdr
  have hfil2 : ([mD].filter fun m => deadF ⟨[mD], [], []⟩ ⟨3, 0, 0⟩ m) = [mD] := by simp only [List.filter_cons, List.filter_nil, dead10]; rfl
  rw [hfil2] at hdr
  refine hdr.mono ?_
  rintro e w5 ⟨v5, rfl, hr, hb⟩
  obtain ⟨ao, cap, rfl⟩ := hr.len
  have HB6 := Lib.hid (below_then HB5.out (Nat.le_refl _) hb)
  have hlen : [mD].length = 1 := rfl
  rw [hlen]
  clear hdr hr hb s0 s1 s2 hfil2 hlen
  go_wp2_with fail
  go_ret
  exact ⟨rfl, HB6.out⟩
end Go.Proofs.YtipoeigehabbmaaGreatDoor.Mut
