/- The walks of cenotaphref08.some, All, Split, Join, Of (layer 8). PRINTED by wip/genrefsplit2.py. -/
import Derived.Test.YtgcfhlleaekgfaaGreatDoorRefState
import Derived.Test.YtgcfhlleaekgfaaGreatDoorConSplit
import Derived.Test.YtgcfhlleaekgfaaGreatDoorRepsEx
import Derived.Test.YtgcfhlleaekgfaaGreatDoorRegApp
namespace Go.Proofs.YtgcfhlleaekgfaaGreatDoor.Mut
open Go.RowKit Go.Sort Go.Proofs.YtgcfhlleaekgfaaGreatDoor.Ord Go.Proofs.YtgcfhlleaekgfaaGreatDoor.RegInv

set_option maxHeartbeats 4000000 in
set_option maxRecDepth 100000 in
theorem some_any (v : Value) (R : List Ro) (s : Stp) (later : Bool) (w : World) (hv : MRow w v R) (hn : R.length ≤ 100000) :
    Calls Tryz.prog 49 #[v, vS s, .bool later] w (RowP w (R.filter fun x => decide (stC s x.1.at_ < 0) == later)) := by
  obtain ⟨ao, cap, rfl, -, -⟩ := hv.form
  obtain ⟨n, hN⟩ : ∃ n, n = R.length := ⟨_, rfl⟩
  rw [← hN] at hv hn ⊢
  obtain ⟨F, hF⟩ : ∃ F : Ro → Bool, F = fun x => decide (stC s x.1.at_ < 0) == later := ⟨_, rfl⟩
  rw [← hF]
  obtain ⟨Q, hQ⟩ : ∃ Q, Q = R.filter F := ⟨_, rfl⟩
  rw [← hQ]
  have HFx := Lib.hid (fun x => congrFun hF x)
  have HQ := Lib.hid hQ
  have HN := Lib.hid hN
  have HV := Lib.hid hv
  have HL := Lib.hid (fun (x : Ro) W => refless_any s x.1.at_ W)
  obtain ⟨sp, sl, sw⟩ := s
  obtain ⟨W0, hW0⟩ : ∃ W0, W0 = w.alloc (.cells #[.int .i64 sp, .int .i64 sl, .int .i64 sw] 26) := ⟨_, rfl⟩
  have t0 : W0.cell? ⟨w.heap.size, 0, none⟩ = some (.int .i64 sp) := by rw [hW0]; go_simp
  have t1 : W0.cell? ⟨w.heap.size, 1, none⟩ = some (.int .i64 sl) := by rw [hW0]; go_simp
  have t2 : W0.cell? ⟨w.heap.size, 2, none⟩ = some (.int .i64 sw) := by rw [hW0]; go_simp
  have hb0 : RowKit.Below w.heap.size w W0 := by rw [hW0]; exact (Below.refl _ _).alloc (Nat.le_refl _) _
  have hs0 : w.heap.size < W0.heap.size := by rw [hW0]; simp
  have HT3 := Lib.hid (And.intro t0 (And.intro t1 t2))
  have HB0 := Lib.hid hb0
  have HW0 := Lib.hid hW0
  clear hv hN hQ hF t0 t1 t2 hb0 hW0
  unfold vS at HL ⊢
  simp only [] at HL ⊢
  go_enter Tryz.func49, Tryz.ntmps49
  go_wp2_with fail
  rw [← HW0.out]
  clear HW0
  go_loopw [7, 8] (fun ov iv wr => ∃ (k on : Nat) (out : List Ro), k ≤ n ∧ iv = .int .i64 k ∧ Hid (out ++ (R.drop k).filter F = Q ∧ on = out.length) ∧ on ≤ k ∧ Hid (wr.ownsRow W0.heap.size 29 10 ov on (out.flatMap enM)) ∧ Hid (RowKit.Below W0.heap.size W0 wr)) (fun _ iv _ => n - (intOf iv).toNat)
  case atStart => exact ⟨0, 0, [], by omega, rfl, Lib.hid ⟨by rw [HQ.out]; rfl, rfl⟩, by simp, Lib.hid (World.ownsRow_nil _ _ _ _), Lib.hid (Below.refl _ _)⟩
  case round =>
    obtain ⟨k, on, out, hk, rfl, hput, hol, hown, hl⟩ := hrel
    have HBW := Lib.hid (below_then HB0.out (Nat.le_refl _) hl.out)
    by_cases hlt : k < n
    · have hkr : k < R.length := by have := HN.out; omega
      obtain ⟨x, hx⟩ : ∃ x, R[k]? = some x := ⟨_, List.getElem?_eq_getElem hkr⟩
      have hxe : R[k] = x := (List.getElem?_eq_some_iff.1 hx).2
      have hxo := (HV.out.below HBW.out).over x (List.mem_of_getElem? hx)
      obtain ⟨xb, xoff, hao, hat⟩ := (HV.out.below HBW.out).at_ hx
      cases hao
      have hst := hput.out.1
      rw [List.drop_eq_getElem_cons hkr, hxe, List.filter_cons, HFx.out] at hst
      have HXO := Lib.hid hxo
      obtain ⟨xo, xc, ex, -, -⟩ := Over.form hxo
      have HLX := Lib.hid (fun W => HL.out x W)
      obtain ⟨D, hD⟩ : ∃ D, D = decide (stC ⟨sp, sl, sw⟩ x.1.at_ < 0) := ⟨_, rfl⟩
      rw [← hD] at HLX hst
      have HST := Lib.hid (And.intro hst hput.out.2)
      clear hst hD hput hx hxe hxo
      have HAT := Lib.hid hat
      clear hat
      obtain ⟨⟨at1, ak1, akey1, afin1, aval1, aex1, ⟨ap1, al1, aw1⟩, aov1⟩, av1⟩ := x
      simp only [] at ex
      obtain ⟨xn, hxn⟩ : ∃ k, k = aov1.length := ⟨_, rfl⟩
      rw [← hxn] at ex
      subst ex
      clear hxn
      simp only [] at HLX
      obtain ⟨hbl, a0, a1, a2, a3, a4, a5, a6, a7, a8, a9⟩ := HAT.out
      simp only [] at a0 a1 a2 a3 a4 a5 a6 a7 a8 a9
      have t0 := (hl.out.cell (p := ⟨w.heap.size, 0, none⟩) hs0).trans HT3.out.1
      have t1 := (hl.out.cell (p := ⟨w.heap.size, 1, none⟩) hs0).trans HT3.out.2.1
      have t2 := (hl.out.cell (p := ⟨w.heap.size, 2, none⟩) hs0).trans HT3.out.2.2
      have hgr : w.heap.size < wr.heap.size := Nat.lt_of_lt_of_le hs0 hl.out.size
      have j0 : (0 : Int) ≤ (k : Int) := by omega
      have j1 : (k : Int) < (n : Int) := by omega
      cases D <;> cases later
      · have HS2 := Lib.hid (show (out ++ [((⟨at1, ak1, akey1, afin1, aval1, aex1, ⟨ap1, al1, aw1⟩, aov1⟩, .slice xo xn xc) : Ro)]) ++ (R.drop (k + 1)).filter F = Q by have h : out ++ (((⟨at1, ak1, akey1, afin1, aval1, aex1, ⟨ap1, al1, aw1⟩, aov1⟩, .slice xo xn xc) : Ro) :: (R.drop (k + 1)).filter F) = Q := HST.out.1; rw [← h]; simp)
        go_wp2_with fail
        refine wp_region_calm (by kernel_rfl) (by kernel_rfl) ?_
        repeat (go_big_quiet_step ((go_at_call 68; exact calm (HLX.out _))))
        refine wpQuiet_nil ?_
        rintro _ ⟨y, rfl⟩
        obtain ⟨W1, hW1⟩ : ∃ W1, W1 = y.at := ⟨_, rfl⟩
        have hz := y.below
        rw [← hW1] at hz ⊢
        have HZ := Lib.hid hz
        have HF := Lib.hid (below_then hl.out (Nat.le_refl _) hz)
        have HOi := Lib.hid (row_below hown.out hz)
        clear hW1 y hz a0 a1 a2 a3 a4 a5 a6 a7 a8 a9 t0 t1 t2 hbl
        have HA1 := Lib.hid (HAT.out.below HZ.out)
        have HX1 := Lib.hid (HXO.out.below HZ.out)
        obtain ⟨hbl, a0, a1, a2, a3, a4, a5, a6, a7, a8, a9⟩ := HA1.out
        simp only [] at a0 a1 a2 a3 a4 a5 a6 a7 a8 a9
        have hsz := HF.out.size
        go_wp2_with (at_builtin; refine wpList_append_rows rfl (.tmp 24) (.tmp 29) rfl W0.heap.size u7 on _ rfl (HOi.out.alloc _) (some ⟨W1.heap.size, 0, none⟩) 1 1 [((⟨at1, ak1, akey1, afin1, aval1, aex1, ⟨ap1, al1, aw1⟩, aov1⟩, .slice xo xn xc) : Ro)] rfl (one_row HX1.out) (by omega) (by simp; omega) ?_)
        intro v4 w4 hown4 hgr4
        have HO4 := Lib.hid (show w4.ownsRow W0.heap.size 29 10 v4 (on + 1) ((out ++ [((⟨at1, ak1, akey1, afin1, aval1, aex1, ⟨ap1, al1, aw1⟩, aov1⟩, .slice xo xn xc) : Ro)]).flatMap enM) by rw [List.flatMap_append]; exact hown4)
        have HB4 := Lib.hid ((HF.out.alloc hsz _).grown hgr4 (by simp; omega) (fun k hk => (HOi.out.lt k hk).1))
        clear hown4 hgr4 a0 a1 a2 a3 a4 a5 a6 a7 a8 a9
        go_wp2_with fail
        go_roundw
        case rel => exact ⟨k + 1, on + 1, _, by omega, by go_num, Lib.hid ⟨HS2.out, by have := HST.out.2; simp; omega⟩, by omega, HO4, HB4⟩
        case measure => simp [intOf]; omega
      · have HS2 := Lib.hid (show out ++ (R.drop (k + 1)).filter F = Q from HST.out.1)
        go_wp2_with fail
        refine wp_region_calm (by kernel_rfl) (by kernel_rfl) ?_
        repeat (go_big_quiet_step ((go_at_call 68; exact calm (HLX.out _))))
        refine wpQuiet_nil ?_
        rintro _ ⟨y, rfl⟩
        obtain ⟨W1, hW1⟩ : ∃ W1, W1 = y.at := ⟨_, rfl⟩
        have hz := y.below
        rw [← hW1] at hz ⊢
        have HZ := Lib.hid hz
        have HF := Lib.hid (below_then hl.out (Nat.le_refl _) hz)
        have HOi := Lib.hid (row_below hown.out hz)
        clear hW1 y hz a0 a1 a2 a3 a4 a5 a6 a7 a8 a9 t0 t1 t2 hbl
        go_wp2_with fail
        go_roundw
        case rel => exact ⟨k + 1, on, out, by omega, by go_num, Lib.hid ⟨HS2.out, HST.out.2⟩, by omega, HOi, HF⟩
        case measure => simp [intOf]; omega
      · have HS2 := Lib.hid (show out ++ (R.drop (k + 1)).filter F = Q from HST.out.1)
        go_wp2_with fail
        refine wp_region_calm (by kernel_rfl) (by kernel_rfl) ?_
        repeat (go_big_quiet_step ((go_at_call 68; exact calm (HLX.out _))))
        refine wpQuiet_nil ?_
        rintro _ ⟨y, rfl⟩
        obtain ⟨W1, hW1⟩ : ∃ W1, W1 = y.at := ⟨_, rfl⟩
        have hz := y.below
        rw [← hW1] at hz ⊢
        have HZ := Lib.hid hz
        have HF := Lib.hid (below_then hl.out (Nat.le_refl _) hz)
        have HOi := Lib.hid (row_below hown.out hz)
        clear hW1 y hz a0 a1 a2 a3 a4 a5 a6 a7 a8 a9 t0 t1 t2 hbl
        go_wp2_with fail
        go_roundw
        case rel => exact ⟨k + 1, on, out, by omega, by go_num, Lib.hid ⟨HS2.out, HST.out.2⟩, by omega, HOi, HF⟩
        case measure => simp [intOf]; omega
      · have HS2 := Lib.hid (show (out ++ [((⟨at1, ak1, akey1, afin1, aval1, aex1, ⟨ap1, al1, aw1⟩, aov1⟩, .slice xo xn xc) : Ro)]) ++ (R.drop (k + 1)).filter F = Q by have h : out ++ (((⟨at1, ak1, akey1, afin1, aval1, aex1, ⟨ap1, al1, aw1⟩, aov1⟩, .slice xo xn xc) : Ro) :: (R.drop (k + 1)).filter F) = Q := HST.out.1; rw [← h]; simp)
        go_wp2_with fail
        refine wp_region_calm (by kernel_rfl) (by kernel_rfl) ?_
        repeat (go_big_quiet_step ((go_at_call 68; exact calm (HLX.out _))))
        refine wpQuiet_nil ?_
        rintro _ ⟨y, rfl⟩
        obtain ⟨W1, hW1⟩ : ∃ W1, W1 = y.at := ⟨_, rfl⟩
        have hz := y.below
        rw [← hW1] at hz ⊢
        have HZ := Lib.hid hz
        have HF := Lib.hid (below_then hl.out (Nat.le_refl _) hz)
        have HOi := Lib.hid (row_below hown.out hz)
        clear hW1 y hz a0 a1 a2 a3 a4 a5 a6 a7 a8 a9 t0 t1 t2 hbl
        have HA1 := Lib.hid (HAT.out.below HZ.out)
        have HX1 := Lib.hid (HXO.out.below HZ.out)
        obtain ⟨hbl, a0, a1, a2, a3, a4, a5, a6, a7, a8, a9⟩ := HA1.out
        simp only [] at a0 a1 a2 a3 a4 a5 a6 a7 a8 a9
        have hsz := HF.out.size
        go_wp2_with (at_builtin; refine wpList_append_rows rfl (.tmp 24) (.tmp 29) rfl W0.heap.size u7 on _ rfl (HOi.out.alloc _) (some ⟨W1.heap.size, 0, none⟩) 1 1 [((⟨at1, ak1, akey1, afin1, aval1, aex1, ⟨ap1, al1, aw1⟩, aov1⟩, .slice xo xn xc) : Ro)] rfl (one_row HX1.out) (by omega) (by simp; omega) ?_)
        intro v4 w4 hown4 hgr4
        have HO4 := Lib.hid (show w4.ownsRow W0.heap.size 29 10 v4 (on + 1) ((out ++ [((⟨at1, ak1, akey1, afin1, aval1, aex1, ⟨ap1, al1, aw1⟩, aov1⟩, .slice xo xn xc) : Ro)]).flatMap enM) by rw [List.flatMap_append]; exact hown4)
        have HB4 := Lib.hid ((HF.out.alloc hsz _).grown hgr4 (by simp; omega) (fun k hk => (HOi.out.lt k hk).1))
        clear hown4 hgr4 a0 a1 a2 a3 a4 a5 a6 a7 a8 a9
        go_wp2_with fail
        go_roundw
        case rel => exact ⟨k + 1, on + 1, _, by omega, by go_num, Lib.hid ⟨HS2.out, by have := HST.out.2; simp; omega⟩, by omega, HO4, HB4⟩
        case measure => simp [intOf]; omega
    · obtain rfl : k = n := by omega
      have hQ2 : out = Q := by
        have h := hput.out.1
        rw [List.drop_of_length_le (by have := HN.out; omega)] at h
        simpa using h
      have HQ2 := Lib.hid hQ2
      have HSUB := Lib.hid (show ∀ y ∈ Q, y ∈ R from fun y hy => by rw [HQ.out] at hy; exact (List.mem_filter.1 hy).1)
      clear hQ2
      go_wp2_with fail
      go_ret
      refine ⟨u7, rfl, ⟨?_, fun y hy => (HV.out.over y (HSUB.out y hy)).below HBW.out⟩, HBW.out⟩
      rw [← HQ2.out]
      exact Lst.owned enM_len (by decide) hput.out.2 hown.out

/-- All of three rows, rising. -/
def insAll (acc : List Ro) (R : List Ro) : List Ro := R.foldl (fun a x => insRo x false a) acc
def allRo (A B D : List Ro) : List Ro := insAll (insAll (insAll [] A) B) D
theorem insAll_snoc (acc R : List Ro) (x : Ro) : insAll acc (R ++ [x]) = insRo x false (insAll acc R) := by simp [insAll]
theorem insAll_mem (acc R : List Ro) : ∀ y ∈ insAll acc R, y ∈ acc ∨ y ∈ R := by
  induction R generalizing acc with
  | nil => intro y hy; exact Or.inl hy
  | cons x R ih =>
    intro y hy
    rcases ih _ y hy with h | h
    · rcases insRo_mem _ _ _ y h with h | rfl
      · exact Or.inl h
      · exact Or.inr (by simp)
    · exact Or.inr (List.mem_cons_of_mem _ h)
theorem insAll_spec : ∀ (R acc : List Ro), Rises muC (acc.map (·.1)) → Rises muC ((insAll acc R).map (·.1)) ∧ (∀ m, m ∈ (insAll acc R).map (·.1) ↔ m ∈ acc.map (·.1) ∨ m ∈ R.map (·.1)) ∧ (insAll acc R).length ≤ acc.length + R.length := by
  intro R
  induction R with
  | nil => intro acc h; exact ⟨h, fun m => by simp [insAll], by simp [insAll]⟩
  | cons x R ih =>
    intro acc h
    have hm := insRo_map x acc false
    have hs := insF_rises x.1 h
    obtain ⟨i1, i2, i3⟩ := ih (insRo x false acc) (by rw [hm]; exact hs.1)
    refine ⟨i1, fun m => (i2 m).trans ?_, ?_⟩
    · rw [hm, List.map_cons, List.mem_cons]
      refine (or_congr (hs.2 m) Iff.rfl).trans ?_
      constructor
      · rintro ((h | h) | h)
        · exact Or.inl h
        · exact Or.inr (Or.inl h)
        · exact Or.inr (Or.inr h)
      · rintro (h | h | h)
        · exact Or.inl (Or.inl h)
        · exact Or.inl (Or.inr h)
        · exact Or.inr h
    · have h4 : (insRo x false acc).length ≤ acc.length + 1 := by
        have := insF_len (acc.map (·.1)) x.1
        unfold insF at this
        rw [← hm, List.length_map, List.length_map] at this
        exact this
      have h5 : (insAll acc (x :: R)).length ≤ (insRo x false acc).length + R.length := i3
      simp only [List.length_cons]; omega
theorem allRo_mem (A B D : List Ro) : ∀ y ∈ allRo A B D, y ∈ A ∨ y ∈ B ∨ y ∈ D := by
  intro y hy
  rcases insAll_mem _ _ y hy with h | h
  · rcases insAll_mem _ _ y h with h | h
    · rcases insAll_mem _ _ y h with h | h
      · cases h
      · exact Or.inl h
    · exact Or.inr (Or.inl h)
  · exact Or.inr (Or.inr h)
theorem allRo_spec (A B D : List Ro) : Rises muC ((allRo A B D).map (·.1)) ∧ (∀ m, m ∈ (allRo A B D).map (·.1) ↔ m ∈ A.map (·.1) ∨ m ∈ B.map (·.1) ∨ m ∈ D.map (·.1)) ∧ (allRo A B D).length ≤ A.length + B.length + D.length := by
  obtain ⟨a1, a2, a3⟩ := insAll_spec A [] List.Pairwise.nil
  obtain ⟨b1, b2, b3⟩ := insAll_spec B _ a1
  obtain ⟨d1, d2, d3⟩ := insAll_spec D _ b1
  refine ⟨d1, fun m => (d2 m).trans ?_, ?_⟩
  · rw [b2, a2]
    simp [or_assoc]
  · have : ([] : List Ro).length = 0 := rfl
    unfold allRo
    omega

theorem insAll_len (acc R : List Ro) : (insAll acc R).length ≤ acc.length + R.length := by
  induction R generalizing acc with
  | nil => simp [insAll]
  | cons x R ih =>
    have h3 := ih (insRo x false acc)
    have h4 : (insRo x false acc).length ≤ acc.length + 1 := by
      have h := insF_len (acc.map (·.1)) x.1
      unfold insF at h
      rw [← insRo_map x acc false, List.length_map, List.length_map] at h
      exact h
    have h5 : (insAll acc (x :: R)).length ≤ (insRo x false acc).length + R.length := h3
    simp only [List.length_cons]; omega

set_option maxHeartbeats 8000000 in
set_option maxRecDepth 100000 in
theorem refall_any (a b d : Value) (A B D : List Ro) (w : World) (hA : MRow w a A) (hB : MRow w b B) (hD : MRow w d D) (hs : ∀ x, x ∈ A ∨ x ∈ B ∨ x ∈ D → Small x.1) (hn : A.length + B.length + D.length ≤ 90000) :
    Calls Tryz.prog 23 #[.agg #[a, b, d]] w (RowP w (allRo A B D)) := by
  obtain ⟨o1, k1, rfl, -, -⟩ := hA.form
  obtain ⟨o2, k2, rfl, -, -⟩ := hB.form
  obtain ⟨o3, k3, rfl, -, -⟩ := hD.form
  obtain ⟨n1, h1⟩ : ∃ n, n = A.length := ⟨_, rfl⟩
  obtain ⟨n2, h2⟩ : ∃ n, n = B.length := ⟨_, rfl⟩
  obtain ⟨n3, h3⟩ : ∃ n, n = D.length := ⟨_, rfl⟩
  rw [← h1] at hA ⊢
  rw [← h2] at hB ⊢
  rw [← h3] at hD ⊢
  have hl1 : n1 ≤ 90000 := by omega
  have hl2 : n2 ≤ 90000 := by omega
  have hl3 : n3 ≤ 90000 := by omega
  have HLN := Lib.hid (show ([] : List Ro).length = 0 ∧ A.length + B.length + D.length ≤ 90000 ∧ (insAll [] A).length ≤ A.length ∧ (insAll (insAll [] A) B).length ≤ A.length + B.length from ⟨rfl, hn, by have h := insAll_len [] A; simpa using h, by have h := insAll_len [] A; have h2 := insAll_len (insAll [] A) B; simp only [List.length_nil] at h; omega⟩)
  have HN := Lib.hid (And.intro h1 (And.intro h2 h3))
  have HA := Lib.hid hA
  have HB := Lib.hid hB
  have HD := Lib.hid hD
  have HSM := Lib.hid hs
  have HSA := Lib.hid (fun x (h : x ∈ A) => hs x (Or.inl h))
  have HSB := Lib.hid (fun x (h : x ∈ B) => hs x (Or.inr (Or.inl h)))
  have HSD := Lib.hid (fun x (h : x ∈ D) => hs x (Or.inr (Or.inr h)))
  obtain ⟨W0, hW0⟩ : ∃ W0, W0 = w.alloc (.cells #[.slice o1 n1 k1, .slice o2 n2 k2, .slice o3 n3 k3] 34) := ⟨_, rfl⟩
  have hb0 : RowKit.Below w.heap.size w W0 := by rw [hW0]; exact (Below.refl _ w).alloc (Nat.le_refl _) _
  have hP : C3 W0 w.heap.size (.slice o1 n1 k1) (.slice o2 n2 k2) (.slice o3 n3 k3) := by rw [hW0]; exact C3.newR w _ _ _
  obtain ⟨c0, hc0⟩ : ∃ c0, c0 = w.heap.size := ⟨_, rfl⟩
  rw [← hc0] at hP
  have HP := Lib.hid hP
  have HB0 := Lib.hid hb0
  have HW := Lib.hid hW0
  have HC0 := Lib.hid hc0
  clear hA hB hD hs hn h1 h2 h3 hb0 hP hW0
  go_enter Tryz.func23, Tryz.ntmps23
  go_upto_region 1 with fail
  rw [← HW.out, ← hc0]
  clear HW hc0
  have HQ0 := Lib.hid (MRow.nil W0)
  have HB0' := HB0
  have HBz := Lib.hid (Below.refl W0.heap.size W0)
  go_wp2_with fail
  go_loopw [3, 4] (fun ov iv wr => ∃ (k : Nat) (acc : List Ro), k ≤ n1 ∧ iv = .int .i64 k ∧ Hid (acc = insAll [] (A.take k) ∧ MRow wr ov acc) ∧ Hid (RowKit.Below W0.heap.size W0 wr)) (fun _ iv _ => n1 - (intOf iv).toNat)
  case atStart => exact ⟨0, _, by omega, rfl, Lib.hid ⟨rfl, HQ0.out⟩, HBz⟩
  case round =>
    obtain ⟨k, acc, hk, rfl, hacc, hb⟩ := hrel
    have HP1 := Lib.hid (HP.out.below hb.out)
    obtain ⟨hcl, p0, p1, p2, -⟩ := HP1.out
    by_cases hlt : k < n1
    · have hkr : k < A.length := by have := HN.out; omega
      obtain ⟨x, hx⟩ : ∃ x, A[k]? = some x := ⟨_, List.getElem?_eq_getElem hkr⟩
      have hxm := List.mem_of_getElem? hx
      have hxo := (HA.out.below (below_then HB0.out (Nat.le_refl _) hb.out)).over x hxm
      obtain ⟨xb, xoff, hao, hat⟩ := (HA.out.below (below_then HB0.out (Nat.le_refl _) hb.out)).at_ hx
      cases hao
      have htk : A.take (k + 1) = A.take k ++ [x] := by rw [List.take_add_one, hx]; rfl
      have hsn := insAll_snoc [] (A.take k) x
      rw [← htk, ← hacc.out.1] at hsn
      have hacm : ∀ y ∈ acc, y ∈ [] ∨ y ∈ A := fun y hy => by
        rw [hacc.out.1] at hy
        exact (insAll_mem _ _ y hy).imp id List.mem_of_mem_take
      have hal : acc.length ≤ 100000 := by
        rw [hacc.out.1]
        have h1 := insAll_len [] (A.take k)
        have h2 := List.length_take_le k A
        have := HLN.out
        omega
      have HIn := Lib.hid (refins_any _ acc x wr hacc.out.2 hxo (HSA.out x hxm).over (fun y hy => (HSM.out y ((hacm y hy).elim (fun h => by cases h) (fun h => Or.inl h))).over) hal)
      obtain ⟨oo, oc, rfl, -, -⟩ := hacc.out.2.form
      have HSN := Lib.hid hsn
      obtain ⟨xo, xc, ex, -, -⟩ := Over.form hxo
      clear hsn hx hxm hxo htk hacm hal
      obtain ⟨⟨at1, ak1, akey1, afin1, aval1, aex1, ⟨ap1, al1, aw1⟩, aov1⟩, av1⟩ := x
      simp only [] at ex
      obtain ⟨xn, hxn⟩ : ∃ k, k = aov1.length := ⟨_, rfl⟩
      rw [← hxn] at ex
      subst ex
      clear hxn
      unfold vM at HIn
      simp only [] at HIn
      obtain ⟨hbl, a0, a1, a2, a3, a4, a5, a6, a7, a8, a9⟩ := hat
      simp only [] at a0 a1 a2 a3 a4 a5 a6 a7 a8 a9
      have j0 : (0 : Int) ≤ (k : Int) := by omega
      have j1 : (k : Int) < (n1 : Int) := by omega
      go_wp2_with fail
      refine HIn.out.mono ?_
      rintro e w2 ⟨v2, rfl, hr2, hb2⟩
      have HR2 := Lib.hid hr2
      have HB2 := Lib.hid (below_then hb.out (Nat.le_refl _) hb2)
      clear hr2 hb2 a0 a1 a2 a3 a4 a5 a6 a7 a8 a9 hbl p0 p1 p2
      go_wp2_with fail
      go_roundw
      case rel => exact ⟨k + 1, _, by omega, by go_num, Lib.hid ⟨HSN.out.symm, HR2.out⟩, HB2⟩
      case measure => simp [intOf]; omega
    · obtain rfl : k = n1 := by omega
      have HQ1 := Lib.hid (show MRow wr u3 (insAll [] A) by
        have h := hacc.out.1
        rw [List.take_of_length_le (by have := HN.out; omega)] at h
        rw [← h]; exact hacc.out.2)
      obtain ⟨w1, hw1⟩ : ∃ w1, w1 = wr := ⟨_, rfl⟩
      rw [← hw1] at HQ1 hb p0 p1 p2 hcl ⊢
      have HB1 := hb
      clear hw1 hacc hlt HP1
      go_wp2_with fail
      go_loopw [3, 5] (fun ov iv wr => ∃ (k : Nat) (acc : List Ro), k ≤ n2 ∧ iv = .int .i64 k ∧ Hid (acc = insAll (insAll [] A) (B.take k) ∧ MRow wr ov acc) ∧ Hid (RowKit.Below W0.heap.size W0 wr)) (fun _ iv _ => n2 - (intOf iv).toNat)
      case atStart => exact ⟨0, _, by omega, rfl, Lib.hid ⟨rfl, HQ1.out⟩, HB1⟩
      case round =>
        obtain ⟨k, acc, hk, rfl, hacc, hb⟩ := hrel
        have HP1 := Lib.hid (HP.out.below hb.out)
        obtain ⟨hcl, p0, p1, p2, -⟩ := HP1.out
        by_cases hlt : k < n2
        · have hkr : k < B.length := by have := HN.out; omega
          obtain ⟨x, hx⟩ : ∃ x, B[k]? = some x := ⟨_, List.getElem?_eq_getElem hkr⟩
          have hxm := List.mem_of_getElem? hx
          have hxo := (HB.out.below (below_then HB0.out (Nat.le_refl _) hb.out)).over x hxm
          obtain ⟨xb, xoff, hao, hat⟩ := (HB.out.below (below_then HB0.out (Nat.le_refl _) hb.out)).at_ hx
          cases hao
          have htk : B.take (k + 1) = B.take k ++ [x] := by rw [List.take_add_one, hx]; rfl
          have hsn := insAll_snoc (insAll [] A) (B.take k) x
          rw [← htk, ← hacc.out.1] at hsn
          have hacm : ∀ y ∈ acc, y ∈ (insAll [] A) ∨ y ∈ B := fun y hy => by
            rw [hacc.out.1] at hy
            exact (insAll_mem _ _ y hy).imp id List.mem_of_mem_take
          have hal : acc.length ≤ 100000 := by
            rw [hacc.out.1]
            have h1 := insAll_len (insAll [] A) (B.take k)
            have h2 := List.length_take_le k B
            have := HLN.out
            omega
          have HIn := Lib.hid (refins_any _ acc x wr hacc.out.2 hxo (HSB.out x hxm).over (fun y hy => (HSM.out y ((hacm y hy).elim (fun h => (insAll_mem _ _ _ h).elim (fun h => by cases h) (fun h => Or.inl h)) (fun h => Or.inr (Or.inl h)))).over) hal)
          obtain ⟨oo, oc, rfl, -, -⟩ := hacc.out.2.form
          have HSN := Lib.hid hsn
          obtain ⟨xo, xc, ex, -, -⟩ := Over.form hxo
          clear hsn hx hxm hxo htk hacm hal
          obtain ⟨⟨at1, ak1, akey1, afin1, aval1, aex1, ⟨ap1, al1, aw1⟩, aov1⟩, av1⟩ := x
          simp only [] at ex
          obtain ⟨xn, hxn⟩ : ∃ k, k = aov1.length := ⟨_, rfl⟩
          rw [← hxn] at ex
          subst ex
          clear hxn
          unfold vM at HIn
          simp only [] at HIn
          obtain ⟨hbl, a0, a1, a2, a3, a4, a5, a6, a7, a8, a9⟩ := hat
          simp only [] at a0 a1 a2 a3 a4 a5 a6 a7 a8 a9
          have j0 : (0 : Int) ≤ (k : Int) := by omega
          have j1 : (k : Int) < (n2 : Int) := by omega
          go_wp2_with fail
          refine HIn.out.mono ?_
          rintro e w2 ⟨v2, rfl, hr2, hb2⟩
          have HR2 := Lib.hid hr2
          have HB2 := Lib.hid (below_then hb.out (Nat.le_refl _) hb2)
          clear hr2 hb2 a0 a1 a2 a3 a4 a5 a6 a7 a8 a9 hbl p0 p1 p2
          go_wp2_with fail
          go_roundw
          case rel => exact ⟨k + 1, _, by omega, by go_num, Lib.hid ⟨HSN.out.symm, HR2.out⟩, HB2⟩
          case measure => simp [intOf]; omega
        · obtain rfl : k = n2 := by omega
          have HQ2 := Lib.hid (show MRow wr u3 (insAll (insAll [] A) B) by
            have h := hacc.out.1
            rw [List.take_of_length_le (by have := HN.out; omega)] at h
            rw [← h]; exact hacc.out.2)
          obtain ⟨w2, hw2⟩ : ∃ w1, w1 = wr := ⟨_, rfl⟩
          rw [← hw2] at HQ2 hb p0 p1 p2 hcl ⊢
          have HB2 := hb
          clear hw2 hacc hlt HP1
          go_wp2_with fail
          go_loopw [3, 6] (fun ov iv wr => ∃ (k : Nat) (acc : List Ro), k ≤ n3 ∧ iv = .int .i64 k ∧ Hid (acc = insAll (insAll (insAll [] A) B) (D.take k) ∧ MRow wr ov acc) ∧ Hid (RowKit.Below W0.heap.size W0 wr)) (fun _ iv _ => n3 - (intOf iv).toNat)
          case atStart => exact ⟨0, _, by omega, rfl, Lib.hid ⟨rfl, HQ2.out⟩, HB2⟩
          case round =>
            obtain ⟨k, acc, hk, rfl, hacc, hb⟩ := hrel
            have HP1 := Lib.hid (HP.out.below hb.out)
            obtain ⟨hcl, p0, p1, p2, -⟩ := HP1.out
            by_cases hlt : k < n3
            · have hkr : k < D.length := by have := HN.out; omega
              obtain ⟨x, hx⟩ : ∃ x, D[k]? = some x := ⟨_, List.getElem?_eq_getElem hkr⟩
              have hxm := List.mem_of_getElem? hx
              have hxo := (HD.out.below (below_then HB0.out (Nat.le_refl _) hb.out)).over x hxm
              obtain ⟨xb, xoff, hao, hat⟩ := (HD.out.below (below_then HB0.out (Nat.le_refl _) hb.out)).at_ hx
              cases hao
              have htk : D.take (k + 1) = D.take k ++ [x] := by rw [List.take_add_one, hx]; rfl
              have hsn := insAll_snoc (insAll (insAll [] A) B) (D.take k) x
              rw [← htk, ← hacc.out.1] at hsn
              have hacm : ∀ y ∈ acc, y ∈ (insAll (insAll [] A) B) ∨ y ∈ D := fun y hy => by
                rw [hacc.out.1] at hy
                exact (insAll_mem _ _ y hy).imp id List.mem_of_mem_take
              have hal : acc.length ≤ 100000 := by
                rw [hacc.out.1]
                have h1 := insAll_len (insAll (insAll [] A) B) (D.take k)
                have h2 := List.length_take_le k D
                have := HLN.out
                omega
              have HIn := Lib.hid (refins_any _ acc x wr hacc.out.2 hxo (HSD.out x hxm).over (fun y hy => (HSM.out y ((hacm y hy).elim (fun h => (insAll_mem _ _ _ h).elim (fun h => (insAll_mem _ _ _ h).elim (fun h => by cases h) (fun h => Or.inl h)) (fun h => Or.inr (Or.inl h))) (fun h => Or.inr (Or.inr h)))).over) hal)
              obtain ⟨oo, oc, rfl, -, -⟩ := hacc.out.2.form
              have HSN := Lib.hid hsn
              obtain ⟨xo, xc, ex, -, -⟩ := Over.form hxo
              clear hsn hx hxm hxo htk hacm hal
              obtain ⟨⟨at1, ak1, akey1, afin1, aval1, aex1, ⟨ap1, al1, aw1⟩, aov1⟩, av1⟩ := x
              simp only [] at ex
              obtain ⟨xn, hxn⟩ : ∃ k, k = aov1.length := ⟨_, rfl⟩
              rw [← hxn] at ex
              subst ex
              clear hxn
              unfold vM at HIn
              simp only [] at HIn
              obtain ⟨hbl, a0, a1, a2, a3, a4, a5, a6, a7, a8, a9⟩ := hat
              simp only [] at a0 a1 a2 a3 a4 a5 a6 a7 a8 a9
              have j0 : (0 : Int) ≤ (k : Int) := by omega
              have j1 : (k : Int) < (n3 : Int) := by omega
              go_wp2_with fail
              refine HIn.out.mono ?_
              rintro e w2 ⟨v2, rfl, hr2, hb2⟩
              have HR2 := Lib.hid hr2
              have HB2 := Lib.hid (below_then hb.out (Nat.le_refl _) hb2)
              clear hr2 hb2 a0 a1 a2 a3 a4 a5 a6 a7 a8 a9 hbl p0 p1 p2
              go_wp2_with fail
              go_roundw
              case rel => exact ⟨k + 1, _, by omega, by go_num, Lib.hid ⟨HSN.out.symm, HR2.out⟩, HB2⟩
              case measure => simp [intOf]; omega
            · obtain rfl : k = n3 := by omega
              have HQ3 := Lib.hid (show MRow wr u3 (insAll (insAll (insAll [] A) B) D) by
                have h := hacc.out.1
                rw [List.take_of_length_le (by have := HN.out; omega)] at h
                rw [← h]; exact hacc.out.2)
              obtain ⟨w3, hw3⟩ : ∃ w1, w1 = wr := ⟨_, rfl⟩
              rw [← hw3] at HQ3 hb p0 p1 p2 hcl ⊢
              have HB3 := hb
              clear hw3 hacc hlt HP1
              go_wp2_with fail
              go_ret
              exact ⟨_, rfl, HQ3.out, below_then HB0.out (Nat.le_refl _) HB3.out⟩

set_option maxHeartbeats 4000000 in
set_option maxRecDepth 100000 in
theorem refsplit_any (a b d : Value) (c : Con) (s : Stp) (later : Bool) (w : World) (hc : Lies w a b d c) (hn : c.all.length ≤ 100000) :
    Calls Tryz.prog 15 #[.agg #[a, b, d], vS s, .bool later] w (SubP w c fun m => decide (stC s m.at_ < 0) == later) := by
  obtain ⟨f, hf⟩ : ∃ f : Mu → Bool, f = fun m => decide (stC s m.at_ < 0) == later := ⟨_, rfl⟩
  rw [← hf]
  obtain ⟨⟨RA0, ea, hra⟩, ⟨RB0, eb, hrb⟩, ⟨RD0, ed, hrd⟩⟩ := hc
  have hln : c.all.length = RA0.length + (RB0.length + RD0.length) := by unfold Con.all; rw [← ea, ← eb, ← ed]; simp
  have key : ∀ (v : Value) (R : List Ro) (l : List Mu), R.map (·.1) = l → MRow w v R → R.length ≤ 100000 → ∀ W, RowKit.Below w.heap.size w W → Calls Tryz.prog 49 #[v, vS s, .bool later] W fun e w' => ∃ v, e = .returned v ∧ Reads w' v (l.filter f) ∧ RowKit.Below W.heap.size W w' := fun v R l hl hv hR W hW => by
    refine (some_any v R s later W (hv.below hW) hR).mono ?_
    rintro e w' ⟨v1, rfl, h1, h2⟩
    exact ⟨v1, rfl, ⟨_, by rw [← hl, List.filter_map, hf]; rfl, h1⟩, h2⟩
  have HA := key _ _ _ ea hra (by omega)
  have HB := key _ _ _ eb hrb (by omega)
  have HD := key _ _ _ ed hrd (by omega)
  obtain ⟨o1, k1, rfl, -, -⟩ := hra.form
  obtain ⟨o2, k2, rfl, -, -⟩ := hrb.form
  obtain ⟨o3, k3, rfl, -, -⟩ := hrd.form
  obtain ⟨n1, h1⟩ : ∃ n, n = RA0.length := ⟨_, rfl⟩
  obtain ⟨n2, h2⟩ : ∃ n, n = RB0.length := ⟨_, rfl⟩
  obtain ⟨n3, h3⟩ : ∃ n, n = RD0.length := ⟨_, rfl⟩
  rw [← h1] at HA ⊢
  rw [← h2] at HB ⊢
  rw [← h3] at HD ⊢
  clear key hln ea eb ed hra hrb hrd hf h1 h2 h3 hn
  obtain ⟨sp, sl, sw⟩ := s
  unfold vS at HA HB HD ⊢
  simp only [] at HA HB HD ⊢
  obtain ⟨W0, hW0⟩ : ∃ W0, W0 = ((w.alloc (.cells #[.slice o1 n1 k1, .slice o2 n2 k2, .slice o3 n3 k3] 34)).alloc (.cells #[.int .i64 sp, .int .i64 sl, .int .i64 sw] 26)).alloc (.cells #[.slice none 0 0, .slice none 0 0, .slice none 0 0] 34) := ⟨_, rfl⟩
  have hb0 : RowKit.Below w.heap.size w W0 := by rw [hW0]; exact (((Below.refl _ w).alloc (Nat.le_refl _) _).alloc (by simp) _).alloc (by simp; omega) _
  have hP : C3 W0 w.heap.size (.slice o1 n1 k1) (.slice o2 n2 k2) (.slice o3 n3 k3) := by
    rw [hW0]
    exact ((C3.newR w _ _ _).below ((Below.refl _ _).alloc (Nat.le_refl _) _)).below ((Below.refl _ _).alloc (Nat.le_refl _) _)
  have hT : C3 W0 (w.heap.size + 1 + 1) (.slice none 0 0) (.slice none 0 0) (.slice none 0 0) := by
    rw [hW0]
    have := C3.newR ((w.alloc (.cells #[.slice o1 n1 k1, .slice o2 n2 k2, .slice o3 n3 k3] 34)).alloc (.cells #[.int .i64 sp, .int .i64 sl, .int .i64 sw] 26)) (.slice none 0 0) (.slice none 0 0) (.slice none 0 0)
    rwa [World.size_alloc, World.size_alloc] at this
  have z0 : W0.cell? ⟨w.heap.size + 1, 0, none⟩ = some (.int .i64 sp) := by rw [hW0]; go_simp
  have z1 : W0.cell? ⟨w.heap.size + 1, 1, none⟩ = some (.int .i64 sl) := by rw [hW0]; go_simp
  have z2 : W0.cell? ⟨w.heap.size + 1, 2, none⟩ = some (.int .i64 sw) := by rw [hW0]; go_simp
  have hz : w.heap.size + 1 < W0.heap.size := by have := hT.lt; omega
  replace HA := Lib.hid (fun (W : World) (hW : RowKit.Below W0.heap.size W0 W) => HA W (below_then hb0 (Nat.le_refl _) hW))
  replace HB := Lib.hid (fun (W : World) (hW : RowKit.Below W0.heap.size W0 W) => HB W (below_then hb0 (Nat.le_refl _) hW))
  replace HD := Lib.hid (fun (W : World) (hW : RowKit.Below W0.heap.size W0 W) => HD W (below_then hb0 (Nat.le_refl _) hW))
  have HP := Lib.hid hP
  have HT := Lib.hid hT
  have HB0 := Lib.hid hb0
  have HW := Lib.hid hW0
  have HZ := Lib.hid (And.intro hz (And.intro z0 (And.intro z1 z2)))
  clear hb0 hP hT hW0 z0 z1 z2 hz
  go_enter Tryz.func15, Tryz.ntmps15
  go_upto_region 1 with fail
  rw [← HW.out]
  clear HW
  go_wp2_with fail
  refine wp_region_told [] 16 [false, false, false, false, false, false, false, true, true, true, true, true, true, true, true, true, true, true, true, true, true, true, true]
    [sLit (.pointer (some ⟨w.heap.size, 0, none⟩)),
    sLit (.slice o1 n1 k1),
    sLit (.agg #[.int .i64 sp, .int .i64 sl, .int .i64 sw]),
    sLit (.bool later),
    sOne (fun v W => Reads W v (c.cells.filter f)) (fun _ _ _ h hb => h.below hb),
    sLit (.pointer (some ⟨w.heap.size, 1, none⟩)),
    sLit (.slice o2 n2 k2),
    sLit (.agg #[.int .i64 sp, .int .i64 sl, .int .i64 sw]),
    sLit (.bool later),
    sOne (fun v W => Reads W v (c.wipes.filter f)) (fun _ _ _ h hb => h.below hb),
    sLit (.pointer (some ⟨w.heap.size, 2, none⟩)),
    sLit (.slice o3 n3 k3),
    sLit (.agg #[.int .i64 sp, .int .i64 sl, .int .i64 sw]),
    sLit (.bool later),
    sOne (fun v W => Reads W v (c.sibs.filter f)) (fun _ _ _ h hb => h.below hb),
    sFn3 11 16 21 (fun x0 x1 x2 => .agg #[x0, x1, x2])] (by kernel_rfl) (by kernel_rfl) (by kernel_rfl) (fun F hF => ?_)
  simp only [over, overL, Nat.reduceAdd] at hF
  obtain rfl := funext hF
  clear hF
  refine ⟨⟨?_, ?_, ?_, ?_, ?_, ?_, ?_, ?_, ?_, ?_, ?_, ?_, ?_, ?_, ?_, ?_, trivial⟩, ?_⟩
  · intro V W hb hd K hK _
    clear hd
    go_wp2_with fail
    refine hK _ _ ?_ ?_ ?_ ?_
    · rfl
    · exact Below.refl _ _
    · exact rfl
    · trivial
  · intro V W hb hd K hK _
    have h0 : (V 7) = .pointer (some ⟨w.heap.size, 0, none⟩) := hd 0 (by kernel_rfl)
    clear hd
    obtain ⟨-, s0, s1, s2, -⟩ := HP.out.below hb
    go_wp2_with fail
    refine hK _ _ ?_ ?_ ?_ ?_
    · rfl
    · exact Below.refl _ _
    · exact rfl
    · trivial
  · intro V W hb hd K hK _
    clear hd
    obtain ⟨z0, z1, z2⟩ := (show W.cell? ⟨w.heap.size + 1, 0, none⟩ = some (.int .i64 sp) ∧ W.cell? ⟨w.heap.size + 1, 1, none⟩ = some (.int .i64 sl) ∧ W.cell? ⟨w.heap.size + 1, 2, none⟩ = some (.int .i64 sw) from ⟨(hb.cell (p := ⟨w.heap.size + 1, 0, none⟩) HZ.out.1).trans HZ.out.2.1, (hb.cell (p := ⟨w.heap.size + 1, 1, none⟩) HZ.out.1).trans HZ.out.2.2.1, (hb.cell (p := ⟨w.heap.size + 1, 2, none⟩) HZ.out.1).trans HZ.out.2.2.2⟩)
    go_wp2_with fail
    refine hK _ _ ?_ ?_ ?_ ?_
    · rfl
    · exact Below.refl _ _
    · exact rfl
    · trivial
  · intro V W hb hd K hK _
    clear hd
    go_wp2_with fail
    refine hK _ _ ?_ ?_ ?_ ?_
    · rfl
    · exact Below.refl _ _
    · exact rfl
    · trivial
  · intro V W hb hd K hK _
    have h1 : (V 8) = .slice o1 n1 k1 := hd 1 (by kernel_rfl)
    have h2 : (V 9) = .agg #[.int .i64 sp, .int .i64 sl, .int .i64 sw] := hd 2 (by kernel_rfl)
    have h3 : (V 10) = .bool later := hd 3 (by kernel_rfl)
    clear hd
    go_wp2_with fail
    refine (HA.out _ hb).mono ?_
    rintro e w1 ⟨v1, rfl, hr1, hb1⟩
    go_wp2_with fail
    refine hK _ _ ?_ ?_ ?_ ?_
    · rfl
    · exact hb1
    · exact hr1
    · trivial
  · intro V W hb hd K hK _
    clear hd
    go_wp2_with fail
    refine hK _ _ ?_ ?_ ?_ ?_
    · rfl
    · exact Below.refl _ _
    · exact rfl
    · trivial
  · intro V W hb hd K hK _
    have h5 : (V 12) = .pointer (some ⟨w.heap.size, 1, none⟩) := hd 5 (by kernel_rfl)
    clear hd
    obtain ⟨-, s0, s1, s2, -⟩ := HP.out.below hb
    go_wp2_with fail
    refine hK _ _ ?_ ?_ ?_ ?_
    · rfl
    · exact Below.refl _ _
    · exact rfl
    · trivial
  · intro V W hb hd K hK _
    clear hd
    obtain ⟨z0, z1, z2⟩ := (show W.cell? ⟨w.heap.size + 1, 0, none⟩ = some (.int .i64 sp) ∧ W.cell? ⟨w.heap.size + 1, 1, none⟩ = some (.int .i64 sl) ∧ W.cell? ⟨w.heap.size + 1, 2, none⟩ = some (.int .i64 sw) from ⟨(hb.cell (p := ⟨w.heap.size + 1, 0, none⟩) HZ.out.1).trans HZ.out.2.1, (hb.cell (p := ⟨w.heap.size + 1, 1, none⟩) HZ.out.1).trans HZ.out.2.2.1, (hb.cell (p := ⟨w.heap.size + 1, 2, none⟩) HZ.out.1).trans HZ.out.2.2.2⟩)
    go_wp2_with fail
    refine hK _ _ ?_ ?_ ?_ ?_
    · rfl
    · exact Below.refl _ _
    · exact rfl
    · trivial
  · intro V W hb hd K hK _
    clear hd
    go_wp2_with fail
    refine hK _ _ ?_ ?_ ?_ ?_
    · rfl
    · exact Below.refl _ _
    · exact rfl
    · trivial
  · intro V W hb hd K hK _
    have h6 : (V 13) = .slice o2 n2 k2 := hd 6 (by kernel_rfl)
    have h7 : (V 14) = .agg #[.int .i64 sp, .int .i64 sl, .int .i64 sw] := hd 7 (by kernel_rfl)
    have h8 : (V 15) = .bool later := hd 8 (by kernel_rfl)
    clear hd
    go_wp2_with fail
    refine (HB.out _ hb).mono ?_
    rintro e w1 ⟨v1, rfl, hr1, hb1⟩
    go_wp2_with fail
    refine hK _ _ ?_ ?_ ?_ ?_
    · rfl
    · exact hb1
    · exact hr1
    · trivial
  · intro V W hb hd K hK _
    clear hd
    go_wp2_with fail
    refine hK _ _ ?_ ?_ ?_ ?_
    · rfl
    · exact Below.refl _ _
    · exact rfl
    · trivial
  · intro V W hb hd K hK _
    have h10 : (V 17) = .pointer (some ⟨w.heap.size, 2, none⟩) := hd 10 (by kernel_rfl)
    clear hd
    obtain ⟨-, s0, s1, s2, -⟩ := HP.out.below hb
    go_wp2_with fail
    refine hK _ _ ?_ ?_ ?_ ?_
    · rfl
    · exact Below.refl _ _
    · exact rfl
    · trivial
  · intro V W hb hd K hK _
    clear hd
    obtain ⟨z0, z1, z2⟩ := (show W.cell? ⟨w.heap.size + 1, 0, none⟩ = some (.int .i64 sp) ∧ W.cell? ⟨w.heap.size + 1, 1, none⟩ = some (.int .i64 sl) ∧ W.cell? ⟨w.heap.size + 1, 2, none⟩ = some (.int .i64 sw) from ⟨(hb.cell (p := ⟨w.heap.size + 1, 0, none⟩) HZ.out.1).trans HZ.out.2.1, (hb.cell (p := ⟨w.heap.size + 1, 1, none⟩) HZ.out.1).trans HZ.out.2.2.1, (hb.cell (p := ⟨w.heap.size + 1, 2, none⟩) HZ.out.1).trans HZ.out.2.2.2⟩)
    go_wp2_with fail
    refine hK _ _ ?_ ?_ ?_ ?_
    · rfl
    · exact Below.refl _ _
    · exact rfl
    · trivial
  · intro V W hb hd K hK _
    clear hd
    go_wp2_with fail
    refine hK _ _ ?_ ?_ ?_ ?_
    · rfl
    · exact Below.refl _ _
    · exact rfl
    · trivial
  · intro V W hb hd K hK _
    have h11 : (V 18) = .slice o3 n3 k3 := hd 11 (by kernel_rfl)
    have h12 : (V 19) = .agg #[.int .i64 sp, .int .i64 sl, .int .i64 sw] := hd 12 (by kernel_rfl)
    have h13 : (V 20) = .bool later := hd 13 (by kernel_rfl)
    clear hd
    go_wp2_with fail
    refine (HD.out _ hb).mono ?_
    rintro e w1 ⟨v1, rfl, hr1, hb1⟩
    go_wp2_with fail
    refine hK _ _ ?_ ?_ ?_ ?_
    · rfl
    · exact hb1
    · exact hr1
    · trivial
  · intro V W hb hd K hK _
    have h4 : Reads W (V 11) (c.cells.filter f) := hd 4 (by kernel_rfl)
    have h9 : Reads W (V 16) (c.wipes.filter f) := hd 9 (by kernel_rfl)
    have h14 : Reads W (V 21) (c.sibs.filter f) := hd 14 (by kernel_rfl)
    clear hd
    obtain ⟨o4, k4, e4, -, -⟩ := h4.form
    obtain ⟨o9, k9, e9, -, -⟩ := h9.form
    obtain ⟨o14, k14, e14, -, -⟩ := h14.form
    go_wp2_with fail
    refine hK _ _ ?_ ?_ ?_ ?_
    · rfl
    · exact Below.refl _ _
    · exact (show _ = Value.agg #[V 11, V 16, V 21] by rw [e4, e9, e14]; rfl)
    · trivial
  · intro V W hb hd hap
    have h4 : Reads W (V 11) (c.cells.filter f) := hd 4 (by decide)
    have h9 : Reads W (V 16) (c.wipes.filter f) := hd 9 (by decide)
    have h14 : Reads W (V 21) (c.sibs.filter f) := hd 14 (by decide)
    have h15 : (V 22) = .agg #[V 11, V 16, V 21] := hd 15 (by decide)
    clear hd hap
    simp only [List.drop_succ_cons, List.drop_zero]
    have HT4 := Lib.hid (HT.out.below hb)
    obtain ⟨-, t0, t1, t2, f0, f1, f2⟩ := HT4.out
    obtain ⟨o4, k4, e4, -, -⟩ := h4.form
    obtain ⟨o5, k5, e9, -, -⟩ := h9.form
    obtain ⟨o6, k6, e14, -, -⟩ := h14.form
    rw [e4] at h4
    rw [e9] at h9
    rw [e14] at h14
    have HRR := Lib.hid (And.intro h4 (And.intro h9 h14))
    clear h4 h9 h14
    obtain ⟨n4, hn4⟩ : ∃ n, n = (c.cells.filter f).length := ⟨_, rfl⟩
    obtain ⟨n5, hn5⟩ : ∃ n, n = (c.wipes.filter f).length := ⟨_, rfl⟩
    obtain ⟨n6, hn6⟩ : ∃ n, n = (c.sibs.filter f).length := ⟨_, rfl⟩
    rw [← hn4] at e4 HRR
    rw [← hn5] at e9 HRR
    rw [← hn6] at e14 HRR
    clear hn4 hn5 hn6
    go_wp2_with fail
    obtain ⟨-, u0, u1, u2, -⟩ := c3_put HT4.out (.slice o4 n4 k4) (.slice o5 n5 k5) (.slice o6 n6 k6)
    refine bodyPost_ret (v := .agg #[.slice o4 n4 k4, .slice o5 n5 k5, .slice o6 n6 k6]) (by simp [results, Tryz.f15, go_sem, u0, u1, u2]) rfl ?_
    have hl : Lies _ (.slice o4 n4 k4) (.slice o5 n5 k5) (.slice o6 n6 k6) (c.filter f) := ⟨HRR.out.1, HRR.out.2.1, HRR.out.2.2⟩
    exact ⟨_, _, _, rfl, hl.plain3 (plain3 HT4.out _ _ _), c3_put_below (below_then HB0.out (Nat.le_refl _) hb) (by omega) _ _ _⟩

/-- The reference's content is what is left, too. -/
theorem refof_con (v : Value) (R : List Ro) (w : World) (hT : Tabs w) (hv : MRow w v R) (hs : ∀ x ∈ R, Small x.1) (hn : R.length ≤ 10000) :
    Calls Tryz.prog 10 #[v] w (ConP w (Fits (R.map (·.1))) R.length) := by
  refine (refof_any v R w hT hv hs hn).mono ?_
  rintro e w' ⟨a, b, d, c, rfl, hl, hsy, -, hb⟩
  obtain ⟨c0, h1, h2⟩ := reps_ex (R.map (·.1))
  obtain rfl : c0 = c := Says.eq h1 hsy
  rw [List.length_map] at h2
  exact ⟨a, b, d, c0, rfl, hl, h1, h2, hb⟩
theorem reps_both {S T : Mu → Prop} {c c' cc : Con} (h : Reps S c) (g : Reps T c') (k : Reps (fun m => m ∈ c.all ∨ m ∈ c'.all) cc) : Reps (fun y => S y ∨ T y) cc :=
  (h.of_all ((g.of_all k).same fun _ => Or.comm)).same fun _ => Or.comm

theorem wpList_append_fresh {w : World} {ops : Array Oper} {rest : List Oper} {o : Oper} {a : Act} {Q : Exit → Act → World → Prop} (hgd : o.guard = none) (s x : Operand)
    (ho : o.op = .call { callee := .builtin .append, args := #[s, x], argTypes := #[22, 22] }) (base k : Nat) (hs : a.eval s = .slice (some ⟨k, 0, none⟩) 0 0) (hown : w.ownsRow base 29 10 (.slice (some ⟨k, 0, none⟩) 0 0) 0 [])
    (ao : Option Addr) (m c : Nat) (R : List Ro) (hx : a.eval x = .slice ao m c) (hR : MRow w (.slice ao m c) R) (hm : m ≤ 1000000) (hbase : base ≤ w.heap.size)
    (h : ∀ v' w', w'.ownsRow base 29 10 v' m (R.flatMap enM) → RowKit.Below w.heap.size w w' → wpList Tryz.prog ops Q rest (a.put o.dst v') w') : wpList Tryz.prog ops Q (o :: rest) a w := by
  obtain ⟨i0, hi, hz0, hz1, hz2⟩ := info_parts info_M
  obtain ⟨_, _, e, -, -⟩ := hR.form
  obtain ⟨rfl⟩ : m = R.length := by injection e
  cases ao with
  | none =>
    have h0 := hR.nil_of
    subst h0
    refine wpList_append_own_none' hgd s x 22 ho base 29 i0 10 c Tryz.underlying22 hi _ 0 [] hs hown hx ?_
    exact h _ w (by simpa using hown) (Below.refl _ _)
  | some ad =>
    refine wpList_plain hgd fun K hK => ?_
    obtain ⟨v', w', hr, h2, h3⟩ := run_append_fresh (P := Tryz.prog) (w := w) base 22 o.type 29 i0 zeroM 10 120 Tryz.underlying22 hi hz0 hz1 hz2 rfl k hown ad R.length c (R.flatMap enM) (flatMap_len enM_len R) (Lst.news enM_len (by decide) hR.row) (flatM_one hR.forms) (by unfold maxLen; omega) (by omega) hbase
    unfold Oper.wp execOp
    simp only [ho, resolve, invoke, builtin, Sem.run_bind, Sem.run_pure, Result.andThen_ok, List.map_toArray, List.map_cons, List.map_nil, hs, hx, hr]
    exact hK _ _ (h v' w' h2 h3)

set_option maxHeartbeats 4000000 in
set_option maxRecDepth 100000 in
theorem refjoin_any (a b d a' b' d' : Value) (c c' : Con) (S T : Mu → Prop) (n n' : Nat) (w : World) (hT : Tabs w) (hc : Lies w a b d c) (hR : Reps S c) (hO : Okc c n) (hc' : Lies w a' b' d' c') (hR' : Reps T c') (hO' : Okc c' n') (hn : n + n' ≤ 9000) :
    Calls Tryz.prog 20 #[.agg #[a, b, d], .agg #[a', b', d']] w (ConP w (fun y => S y ∨ T y) (n + n')) := by
  have key : ∀ (a b d : Value) (c : Con) (n : Nat), Lies w a b d c → Okc c n → n ≤ 9000 → ∃ R : List Ro, (∀ m, m ∈ R.map (·.1) ↔ m ∈ c.all) ∧ R.length ≤ n ∧ (∀ x ∈ R, Small x.1) ∧ (∀ x ∈ R, Over w x) ∧ ∀ W, RowKit.Below w.heap.size w W → Calls Tryz.prog 23 #[.agg #[a, b, d]] W (RowP W R) := fun a b d c n hc hO hn => by
    obtain ⟨⟨A, ea, hA⟩, ⟨B, eb, hB⟩, ⟨D, ed, hD⟩⟩ := hc
    obtain ⟨-, q2, q3⟩ := allRo_spec A B D
    have hln : c.all.length = A.length + (B.length + D.length) := by unfold Con.all; rw [← ea, ← eb, ← ed]; simp
    have hlo := hO.len
    have hm : ∀ m, m ∈ (allRo A B D).map (·.1) ↔ m ∈ c.all := fun m => by rw [q2, Con.mem_all, ea, eb, ed]
    refine ⟨allRo A B D, hm, by omega, fun x hx => small_right (hO.right _ ((hm _).1 (List.mem_map.2 ⟨x, hx, rfl⟩))), fun x hx => (allRo_mem A B D x hx).elim (hA.over x) (fun h => h.elim (hB.over x) (hD.over x)), fun W hW => refall_any a b d A B D W (hA.below hW) (hB.below hW) (hD.below hW) (fun x hx => small_right (hO.right _ (Con.mem_all.2 ?_))) (by omega)⟩
    rcases hx with h | h | h
    · exact Or.inl (ea ▸ List.mem_map.2 ⟨x, h, rfl⟩)
    · exact Or.inr (Or.inl (eb ▸ List.mem_map.2 ⟨x, h, rfl⟩))
    · exact Or.inr (Or.inr (ed ▸ List.mem_map.2 ⟨x, h, rfl⟩))
  obtain ⟨R1, m1, q1, s1, v1, hA1⟩ := key a b d c n hc hO (by omega)
  obtain ⟨R2, m2, q2, s2, v2, hA2⟩ := key a' b' d' c' n' hc' hO' (by omega)
  have hOf : ∀ W, RowKit.Below w.heap.size w W → ∀ v, MRow W v (R1 ++ R2) → Calls Tryz.prog 10 #[v] W (ConP W (fun y => S y ∨ T y) (n + n')) := fun W hW v hv => by
    refine (refof_con v (R1 ++ R2) W (hT.below hW) hv (fun x hx => (List.mem_append.1 hx).elim (s1 x) (s2 x)) (by rw [List.length_append]; omega)).mono ?_
    rintro e w' ⟨x, y, z, cc, rfl, hl, hr, ho, hb⟩
    refine ⟨x, y, z, cc, rfl, hl, reps_both hR hR' (hr.same fun m => ?_), ho.more (by rw [List.length_append]; omega), hb⟩
    unfold Fits
    rw [List.map_append, List.mem_append, m1, m2]
    exact ⟨fun h => h.1, fun h => ⟨h, h.elim (hO.right m) (hO'.right m)⟩⟩
  obtain ⟨o1, n1, k1, rfl⟩ := hc.cells.slice
  obtain ⟨o2, n2, k2, rfl⟩ := hc.wipes.slice
  obtain ⟨o3, n3, k3, rfl⟩ := hc.sibs.slice
  obtain ⟨o4, n4, k4, rfl⟩ := hc'.cells.slice
  obtain ⟨o5, n5, k5, rfl⟩ := hc'.wipes.slice
  obtain ⟨o6, n6, k6, rfl⟩ := hc'.sibs.slice
  obtain ⟨l1, hl1⟩ : ∃ l, l = R1.length := ⟨_, rfl⟩
  obtain ⟨l2, hl2⟩ : ∃ l, l = R2.length := ⟨_, rfl⟩
  have j1 : l1 ≤ 9000 := by omega
  have j2 : l2 ≤ 9000 := by omega
  have HL := Lib.hid (And.intro hl1 hl2)
  have HV := Lib.hid (And.intro v1 v2)
  clear hc hR hO hc' hR' hO' hT m1 m2 q1 q2 s1 s2 v1 v2 key hl1 hl2
  obtain ⟨W0, hW0⟩ : ∃ W0, W0 = ((w.alloc (.cells #[.slice o1 n1 k1, .slice o2 n2 k2, .slice o3 n3 k3] 34)).alloc (.cells #[.slice o4 n4 k4, .slice o5 n5 k5, .slice o6 n6 k6] 34)).alloc (.cells #[.slice none 0 0, .slice none 0 0, .slice none 0 0] 34) := ⟨_, rfl⟩
  have hb0 : RowKit.Below w.heap.size w W0 := by rw [hW0]; exact (((Below.refl _ w).alloc (Nat.le_refl _) _).alloc (by simp) _).alloc (by simp; omega) _
  have hP : C3 W0 w.heap.size (.slice o1 n1 k1) (.slice o2 n2 k2) (.slice o3 n3 k3) := by
    rw [hW0]
    exact ((C3.newR w _ _ _).below ((Below.refl _ _).alloc (Nat.le_refl _) _)).below ((Below.refl _ _).alloc (Nat.le_refl _) _)
  have hP2 : C3 W0 (w.heap.size + 1) (.slice o4 n4 k4) (.slice o5 n5 k5) (.slice o6 n6 k6) := by
    rw [hW0]
    have := C3.newR (w.alloc (.cells #[.slice o1 n1 k1, .slice o2 n2 k2, .slice o3 n3 k3] 34)) (.slice o4 n4 k4) (.slice o5 n5 k5) (.slice o6 n6 k6)
    rw [World.size_alloc] at this
    exact this.below ((Below.refl _ _).alloc (Nat.le_refl _) _)
  have hT : C3 W0 (w.heap.size + 1 + 1) (.slice none 0 0) (.slice none 0 0) (.slice none 0 0) := by
    rw [hW0]
    have := C3.newR ((w.alloc (.cells #[.slice o1 n1 k1, .slice o2 n2 k2, .slice o3 n3 k3] 34)).alloc (.cells #[.slice o4 n4 k4, .slice o5 n5 k5, .slice o6 n6 k6] 34)) (.slice none 0 0) (.slice none 0 0) (.slice none 0 0)
    rwa [World.size_alloc, World.size_alloc] at this
  have HA1 := Lib.hid (fun (W : World) (hW : RowKit.Below W0.heap.size W0 W) => hA1 W (below_then hb0 (Nat.le_refl _) hW))
  have HA2 := Lib.hid (fun (W : World) (hW : RowKit.Below W0.heap.size W0 W) => hA2 W (below_then hb0 (Nat.le_refl _) hW))
  have HOf := Lib.hid (fun (W : World) (hW : RowKit.Below W0.heap.size W0 W) => hOf W (below_then hb0 (Nat.le_refl _) hW))
  have HP := Lib.hid hP
  have HP2 := Lib.hid hP2
  have HT := Lib.hid hT
  have HB0 := Lib.hid hb0
  have HW := Lib.hid hW0
  clear hb0 hP hP2 hT hW0 hA1 hA2 hOf
  go_enter Tryz.func20, Tryz.ntmps20
  go_upto_region 1 with fail
  rw [← HW.out]
  clear HW
  go_wp2_with fail
  refine wp_region_told [] 6 [false, false, false, false, false, true, true, true, true, true, true, false, false]
    [sOne (fun v W => ∃ k, v = .slice (some ⟨k, 0, none⟩) 0 0 ∧ W.ownsRow W0.heap.size 29 10 (.slice (some ⟨k, 0, none⟩) 0 0) 0 []) (fun _ _ _ h hb => h.elim fun k h => ⟨k, h.1, row_below h.2 hb⟩),
    sLit (.agg #[.slice o1 n1 k1, .slice o2 n2 k2, .slice o3 n3 k3]),
    sOne (fun v W => MRow W v R1) (fun _ _ _ h hb => h.below hb),
    sOne (fun v W => W.ownsRow W0.heap.size 29 10 v l1 (R1.flatMap enM)) (fun _ _ _ h hb => row_below h hb),
    sLit (.agg #[.slice o4 n4 k4, .slice o5 n5 k5, .slice o6 n6 k6]),
    sOne (fun v W => MRow W v R2) (fun _ _ _ h hb => h.below hb)] (by kernel_rfl) (by kernel_rfl) (by kernel_rfl) (fun F hF => ?_)
  simp only [over, overL, Nat.reduceAdd] at hF
  obtain rfl := funext hF
  clear hF
  refine ⟨⟨?_, ?_, ?_, ?_, ?_, ?_, trivial⟩, ?_⟩
  · intro V W hb hd K hK _
    clear hd
    go_wp2_with fail
    refine hK _ _ ?_ ?_ ?_ ?_
    · rfl
    · exact (Below.refl _ _).alloc (Nat.le_refl _) _
    · exact ⟨_, rfl, World.ownsRow_made W #[] 0 hb.size (Nat.zero_le _) (by simp)⟩
    · trivial
  · intro V W hb hd K hK _
    clear hd
    obtain ⟨-, s0, s1, s2, -⟩ := HP.out.below hb
    go_wp2_with fail
    refine hK _ _ ?_ ?_ ?_ ?_
    · rfl
    · exact Below.refl _ _
    · exact rfl
    · trivial
  · intro V W hb hd K hK _
    have h1 : (V 6) = .agg #[.slice o1 n1 k1, .slice o2 n2 k2, .slice o3 n3 k3] := hd 1 (by kernel_rfl)
    clear hd
    go_wp2_with fail
    refine (HA1.out _ hb).mono ?_
    rintro e w1 ⟨v1, rfl, hr1, hb1⟩
    go_wp2_with fail
    refine hK _ _ ?_ ?_ ?_ ?_
    · rfl
    · exact hb1
    · exact hr1
    · trivial
  · intro V W hb hd K hK _
    have h0 : ∃ k, (V 5) = .slice (some ⟨k, 0, none⟩) 0 0 ∧ W.ownsRow W0.heap.size 29 10 (.slice (some ⟨k, 0, none⟩) 0 0) 0 [] := hd 0 (by kernel_rfl)
    have h2 : MRow W (V 7) R1 := hd 2 (by kernel_rfl)
    clear hd
    obtain ⟨k, e0, ho⟩ := h0
    obtain ⟨o7, k7, e7, -, -⟩ := h2.form
    rw [← HL.out.1] at e7
    rw [e7] at h2
    go_wp2_with (at_builtin; refine wpList_append_fresh rfl (.tmp 5) (.tmp 7) rfl W0.heap.size k e0 ho o7 l1 k7 R1 e7 h2 (by omega) hb.size ?_)
    intro v8 w8 hown hb8
    go_wp2_with fail
    refine hK _ _ ?_ ?_ ?_ ?_
    · rfl
    · exact hb8
    · exact hown
    · trivial
  · intro V W hb hd K hK _
    clear hd
    obtain ⟨-, s0, s1, s2, -⟩ := HP2.out.below hb
    go_wp2_with fail
    refine hK _ _ ?_ ?_ ?_ ?_
    · rfl
    · exact Below.refl _ _
    · exact rfl
    · trivial
  · intro V W hb hd K hK _
    have h4 : (V 9) = .agg #[.slice o4 n4 k4, .slice o5 n5 k5, .slice o6 n6 k6] := hd 4 (by kernel_rfl)
    clear hd
    go_wp2_with fail
    refine (HA2.out _ hb).mono ?_
    rintro e w1 ⟨v1, rfl, hr1, hb1⟩
    go_wp2_with fail
    refine hK _ _ ?_ ?_ ?_ ?_
    · rfl
    · exact hb1
    · exact hr1
    · trivial
  · intro V W hb hd hap
    have h3 : W.ownsRow W0.heap.size 29 10 (V 8) l1 (R1.flatMap enM) := hd 3 (by decide)
    have h5 : MRow W (V 10) R2 := hd 5 (by decide)
    clear hd hap
    simp only [List.drop_succ_cons, List.drop_zero]
    obtain ⟨p5, c5, e5, -, -⟩ := h5.form
    rw [← HL.out.2] at e5
    rw [e5] at h5
    go_wp2_with (at_builtin; refine wpList_append_rows rfl (.tmp 8) (.tmp 10) rfl W0.heap.size (V 8) l1 _ rfl h3 p5 l2 c5 R2 e5 h5 (by omega) hb.size ?_)
    intro v11 w11 hown hgr
    have hb11 := hb.grown hgr hb.size (fun k hk => (h3.lt k hk).1)
    have hbw := below_then HB0.out (Nat.le_refl _) hb11
    have HOV := Lib.hid (show (∀ y ∈ R1, Over w11 y) ∧ ∀ y ∈ R2, Over w11 y from ⟨fun y hy => (HV.out.1 y hy).below hbw, fun y hy => (HV.out.2 y hy).below hbw⟩)
    obtain ⟨q, cq, rfl⟩ := own_slice hown
    have hlen : l1 + l2 = (R1 ++ R2).length := by have := HL.out; simp; omega
    have hmr : MRow w11 (.slice q (l1 + l2) cq) (R1 ++ R2) := by
      rw [hlen]
      exact ⟨Lst.owned enM_len (by decide) rfl (by rw [List.flatMap_append, ← hlen]; exact hown), fun y hy => (List.mem_append.1 hy).elim (HOV.out.1 y) (HOV.out.2 y)⟩
    have HB11 := Lib.hid hb11
    have HMR := Lib.hid hmr
    clear h3 h5 e5 hown hgr hmr hlen hb11 hb hbw
    go_wp2_with fail
    refine (HOf.out _ HB11.out _ HMR.out).mono ?_
    rintro e w12 ⟨va, vb, vd, cc, rfl, hl, hrp, hok, hb12⟩
    obtain ⟨x1, y1, z1, hv1⟩ := hl.cells.slice
    obtain ⟨x2, y2, z2, hv2⟩ := hl.wipes.slice
    obtain ⟨x3, y3, z3, hv3⟩ := hl.sibs.slice
    subst hv1 hv2 hv3
    have HLL := Lib.hid (And.intro hl (And.intro hrp hok))
    have HB12 := Lib.hid (below_then HB11.out (Nat.le_refl _) hb12)
    clear hl hrp hok hb12
    have HT4 := Lib.hid (HT.out.below HB12.out)
    obtain ⟨-, t0, t1, t2, f0, f1, f2⟩ := HT4.out
    go_wp2_with fail
    obtain ⟨-, u0, u1, u2, -⟩ := c3_put HT4.out (.slice x1 y1 z1) (.slice x2 y2 z2) (.slice x3 y3 z3)
    refine bodyPost_ret (v := .agg #[.slice x1 y1 z1, .slice x2 y2 z2, .slice x3 y3 z3]) (by simp [results, Tryz.f20, go_sem, u0, u1, u2]) rfl ?_
    exact ⟨_, _, _, cc, rfl, HLL.out.1.plain3 (plain3 HT4.out _ _ _), HLL.out.2.1, HLL.out.2.2, c3_put_below (below_then HB0.out (Nat.le_refl _) HB12.out) (by omega) _ _ _⟩
end Go.Proofs.YtgcfhlleaekgfaaGreatDoor.Mut
