/- Layer 11 (disk): the chapter's example. -/
import Derived.Test.YtihfcohebgemdaaDoorDskKey
import Derived.Test.YtihfcohebgemdaaDoorDskUp
set_option linter.unusedSimpArgs false
set_option linter.unusedVariables false
namespace Go.Proofs.YtihfcohebgemdaaDoor.Dsk
open Go.RowKit Go.Maps Go.Sort Go.Proofs.YtihfcohebgemdaaDoor.Mrk Go.Proofs.YtihfcohebgemdaaDoor.Spare Go.Proofs.YtihfcohebgemdaaDoor.Mut
set_option linter.unusedSectionVars false
variable [Inhabited Lim]

theorem brow_lit (w : World) (l : List Nat) (n : Nat) (hn : n = l.length) (hl : l.length ≤ maxLen) : BRow (w.alloc (.cells (l.map (fun c : Nat => Value.int .u8 (c : Int))).toArray 5)) (.slice (some ⟨w.heap.size, 0, none⟩) n n) l := by
  subst hn
  refine ⟨_, _, rfl, Nat.le_refl _, hl, Or.inr ⟨_, _, rfl, by simp, fun i x hi j hj => ?_⟩⟩
  obtain rfl : j = 0 := by omega
  rw [cell_of_row _ _ _ _ _ (0, 0) (heap_alloc_new w _)]
  simp [enB, hi]
def AliveP (w : World) (e : Ending) (w' : World) : Prop := e = .returned (.bool true) ∧ Below w.heap.size w w'
set_option maxRecDepth 100000 in
set_option maxHeartbeats 1000000 in
theorem alive_any (w : World) (hT : Tabs w) : Calls Tryd.prog 13 #[] w (AliveP w) := by
  have HT := Lib.hid hT
  clear hT
  go_enter Tryd.func13, Tryd.ntmps13
  go_wp2_with fail
  refine (new_any 100 w (by omega) (by omega)).mono ?_
  rintro e w1 ⟨rfl, hd1, hf1, hb1, hs1⟩
  obtain ⟨m, hm⟩ : ∃ m, m = w.heap.size := ⟨_, rfl⟩
  rw [← hm] at hd1 hf1 hb1 hs1 ⊢
  have HM := Lib.hid hm
  have HD1 := Lib.hid hd1
  have HF1 := Lib.hid hf1
  have HB1 := Lib.hid hb1
  clear hd1 hf1 hb1 hm
  go_wp2_with fail
  obtain ⟨W2, hW2⟩ : ∃ W, W = w1.alloc (.cells #[.int .u8 1, .int .u8 2] 5) := ⟨_, rfl⟩
  have hb2 : Below w1.heap.size w1 W2 := by rw [hW2]; exact (Below.refl _ _).alloc (Nat.le_refl _) _
  have hr2 : BRow W2 (.slice (some ⟨m + 2, 0, none⟩) 2 2) [1, 2] := by have h := brow_lit w1 [1, 2] 2 rfl (by decide); rw [hs1] at h; rw [hW2]; exact h
  rw [← hW2]
  have hs2 : W2.heap.size = m + 3 := by rw [hW2]; simp [hs1]
  have hg2 : w1.grownBy W2 none := ⟨hb2.os, hb2.tape, hb2.output, hb2.size, fun i hi _ => hb2.block i hi⟩
  have HB2 := Lib.hid (show Below m w W2 from HB1.out.trans (hb2.mono (by omega)))
  have HT2 := Lib.hid (HT.out.below (by rw [← HM.out]; exact HB2.out))
  refine (append_new (m + 1) m 100 ⟨false, false, 0, 0⟩ ⟨#[97]⟩ _ [1, 2] W2 ((hb2.block _ (by omega)).trans HD1.out) (HF1.out.kept hg2 (by simp)) (by omega) rfl (by unfold Few; simp) (by decide) (key_a W2 HT2.out) hr2 (by decide) (by decide)).mono ?_
  rintro e w3 ⟨F, bv3, rfl, ho3, hb3⟩
  rw [show goesS ⟨false, false, 0, 0⟩ = (0, ⟨false, false, 0, 1⟩) from rfl] at ho3 ⊢
  have HO3 := Lib.hid ho3
  have HB3 := Lib.hid (HB2.out.trans hb3)
  clear ho3 hb3 hg2 hr2 hb2 hW2
  go_wp2_with fail
  refine (sync_any (m + 1) m F 100 _ _ _ _ _ w3 HO3.out (by unfold Few; simp) (by decide)).mono ?_
  rintro e w4 ⟨⟨h, -⟩ | ⟨-, rfl, ho4⟩, hb4⟩
  · cases h
  rw [show goesS ⟨false, false, 0, 1⟩ = (0, ⟨false, false, 0, 2⟩) from rfl] at ho4 ⊢
  simp only [if_true] at ho4
  have HO4 := Lib.hid ho4
  have HB4 := Lib.hid (HB3.out.trans hb4)
  clear ho4 hb4
  go_wp2_with fail
  obtain ⟨W5, hW5⟩ : ∃ W, W = w4.alloc (.cells #[.int .u8 3, .int .u8 4, .int .u8 5] 5) := ⟨_, rfl⟩
  have hb5 : Below w4.heap.size w4 W5 := by rw [hW5]; exact (Below.refl _ _).alloc (Nat.le_refl _) _
  have hr5 : BRow W5 (.slice (some ⟨w4.heap.size, 0, none⟩) 3 3) [3, 4, 5] := by have h := brow_lit w4 [3, 4, 5] 3 rfl (by decide); rw [hW5]; exact h
  rw [← hW5]
  have hm4 := HO4.out.files.lt
  have HB5 := Lib.hid (HB4.out.trans (hb5.mono (by omega)))
  have HT5 := Lib.hid (HT.out.below (by rw [← HM.out]; exact HB5.out))
  have HO5 := Lib.hid (HO4.out.below hb5)
  refine (append_more (m + 1) m F 100 _ ⟨#[97]⟩ _ _ _ _ [3, 4, 5] W5 HO5.out rfl (by unfold Few; simp) (by decide) (key_a W5 HT5.out) hr5 (by decide) (by decide)).mono ?_
  rintro e w6 ⟨bv6, rfl, ho6, hb6⟩
  rw [show goesS ⟨false, false, 0, 2⟩ = (0, ⟨false, false, 0, 3⟩) from rfl] at ho6 ⊢
  have HO6 := Lib.hid ho6
  have HB6 := Lib.hid (HB5.out.trans hb6)
  clear ho6 hb6 hr5 hb5 hW5
  go_wp2_with fail
  refine (crash_any (m + 1) m 100 _ w6 HO6.out.dk).mono ?_
  rintro e w7 ⟨rfl, hd7, hg7⟩
  have hm6 := HO6.out.files.lt
  have HO7 := Lib.hid (HO6.out.state hd7 hg7)
  have HB7 := Lib.hid (HB6.out.trans (below_at hg7 (by omega) (by omega)))
  clear hd7 hg7
  go_wp2_with fail
  refine (up_any (m + 1) m F 100 _ ⟨#[97]⟩ _ _ _ 1 w7 HO7.out rfl (by decide) (by decide) (by decide) (by decide) (by omega)).mono ?_
  rintro e w8 ⟨bv8, rfl, ho8, hb8⟩
  rw [show upN ([1, 2] ++ [3, 4, 5] : List Nat).length ([1, 2] : List Nat).length 1 = 3 from by decide, show List.take 3 ([1, 2] ++ [3, 4, 5] : List Nat) = [1, 2, 3] from rfl] at ho8
  have HO8 := Lib.hid ho8
  have HB8 := Lib.hid (HB7.out.trans hb8)
  clear ho8 hb8
  go_wp2_with fail
  refine (read_any (m + 1) m F 100 _ ⟨#[97]⟩ _ _ _ w8 HO8.out rfl (by decide) (by decide)).mono ?_
  rintro e w9 ⟨v9, rfl, hs9, hb9⟩
  have hm8 := HO8.out.files.lt
  have HB9 := Lib.hid (HB8.out.trans (hb9.mono (by omega)))
  have HS9 := Lib.hid (row_of (spB_own hs9))
  obtain ⟨vo, vc, rfl⟩ := row_form (Spare.own hs9)
  clear hs9 hb9
  go_wp2_with fail
  refine (equalB_lit true vo (some ⟨w9.heap.size, 0, none⟩) vc 3 [1, 2, 3] [1, 2, 3] _ (eqB_self _) (HS9.out.below ((Below.refl w9.heap.size w9).alloc (Nat.le_refl _) _)) (brow_lit w9 [1, 2, 3] 3 rfl (by decide)) (by decide) (by decide)).mono ?_
  rintro e w10 ⟨rfl, hb10⟩
  have HB10 := Lib.hid (below_then ((Below.refl w9.heap.size w9).alloc (Nat.le_refl _) (.cells #[.int .u8 1, .int .u8 2, .int .u8 3] 5)) (Nat.le_refl _) hb10)
  clear hb10
  go_wp2_with fail
  go_ret
  refine ⟨rfl, ?_⟩
  have h := HB9.out.trans (HB10.out.mono (by have := HB9.out.size; have := HM.out; omega))
  rw [HM.out] at h
  exact h
end Go.Proofs.YtihfcohebgemdaaDoor.Dsk
