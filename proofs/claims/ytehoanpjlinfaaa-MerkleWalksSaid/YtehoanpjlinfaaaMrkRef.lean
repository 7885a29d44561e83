/- Where two trees differ, the document's way: the walks of reached and Differ (layer 24). -/
import Derived.Test.YtehoanpjlinfaaaMrkDiff
import Derived.Laws.Rows
namespace Go.Proofs.Ytehoanpjlinfaaa.Mrk
open Go.RowKit Go.Proofs.Ytehoanpjlinfaaa.Ints

theorem vT_size (a : Nat → Nat) : (vT a).size = 32 := by simp [vT, lT]
theorem size51 : (Try.prog.info? 51).map (·.size) = some 32 := by kernel_rfl
theorem size52 : (Try.prog.info? 52).map (·.size) = some 32 := by kernel_rfl
theorem push2 {α : Type} (H : Array α) (x0 x1 : α) : ((H.push x0).push x1)[H.size]? = some x0 ∧ ((H.push x0).push x1)[H.size + 1]? = some x1 := by
  refine ⟨?_, ?_⟩ <;> simp only [Array.getElem?_push, Array.size_push] <;> (repeat' split) <;> (first | rfl | (exfalso; omega) | exact absurd trivial (by assumption))
/-- Two trees in variables that have just been laid. -/
def laid2 (w : World) (t : TypeId) (A B : Array Value) : World := (w.alloc (.cells A t)).alloc (.cells B t)
theorem laid2_at (w : World) (t : TypeId) (a b : Nat → Nat) : TreeAt (laid2 w t (vT a) (vT b)) t w.heap.size a ∧ TreeAt (laid2 w t (vT a) (vT b)) t (w.heap.size + 1) b := push2 w.heap _ _
theorem laid2_below (w : World) (t : TypeId) (A B : Array Value) : Below w.heap.size w (laid2 w t A B) := ((Below.refl _ _).alloc (Nat.le_refl _) _).alloc (by simp) _
theorem laid2_size (w : World) (t : TypeId) (A B : Array Value) : (laid2 w t A B).heap.size = w.heap.size + 2 := by simp [laid2]

theorem upF_zero (D : Nat → Bool) (f j : Nat) (h : j / 2 = 0) : upF D f j = true := by
  cases f with
  | zero => rfl
  | succ f => rw [upF, if_pos h]
theorem upF_step (D : Nat → Bool) (f j : Nat) (h : 0 < j / 2) (hf : j < 2 ^ f) : ∃ g, f = g + 1 ∧ j / 2 < 2 ^ g ∧ upF D f j = (!D (j / 2) && upF D g (j / 2)) := by
  cases f with
  | zero => simp at hf; omega
  | succ g =>
    refine ⟨g, rfl, ?_, ?_⟩
    · rw [Nat.pow_succ] at hf; omega
    · rw [upF, if_neg (by omega)]

set_option maxHeartbeats 2000000 in
set_option maxRecDepth 100000 in
theorem reached_any (a b : Nat → Nat) (i : Nat) (w : World) (hi : i < 32) :
    Calls Try.prog 53 #[.agg (vT a), .agg (vT b), .int .i64 i] w fun e w' => e = .returned (.bool (reachF (sameAt a b) i)) ∧ Below w.heap.size w w' := by
  have hat := laid2_at w 51 a b
  have hbl := laid2_below w 51 (vT a) (vT b)
  have hsz := laid2_size w 51 (vT a) (vT b)
  obtain ⟨A, hA⟩ : ∃ A, A = vT a := ⟨_, rfl⟩
  obtain ⟨B, hB⟩ : ∃ A, A = vT b := ⟨_, rfl⟩
  rw [← hA, ← hB] at hat hbl hsz ⊢
  obtain ⟨W, hW⟩ : ∃ W, W = laid2 w 51 A B := ⟨_, rfl⟩
  rw [← hW] at hat hbl hsz
  have HW : Hid ((w.alloc (.cells A 51)).alloc (.cells B 51) = W) := Lib.hid hW.symm
  have HAT := Lib.hid hat
  obtain ⟨R, hR⟩ : ∃ R, R = reachF (sameAt a b) i := ⟨_, rfl⟩
  rw [← hR]
  have HR := Lib.hid hR
  have e0 : (i : Int) / 2 = ((i / 2 : Nat) : Int) := by omega
  obtain ⟨m0, hm0⟩ : ∃ m, m = i / 2 := ⟨_, rfl⟩
  rw [← hm0] at e0
  have HM := Lib.hid hm0
  clear hat hW hA hB hR hm0 hsz
  go_enter Try.func53, Try.ntmps53
  go_upto_region 1 with fail
  rw [HW.out]
  go_wp2_with fail
  go_loopw [7] (fun nv wr => ∃ (m f j : Nat), nv = .int .i64 m ∧ m ≤ 16 ∧ Hid (m = j / 2 ∧ j < 2 ^ f ∧ upF (sameAt a b) f j = R) ∧ Below W.heap.size W wr) (fun nv _ => (intOf nv).toNat)
  case atStart => exact ⟨m0, 6, i, rfl, by have := HM.out; omega, Lib.hid ⟨HM.out, by omega, HR.out.symm⟩, Below.refl _ _⟩
  case round =>
    obtain ⟨m, f, j, rfl, hm, hj, hb⟩ := hrel
    have T1 := HAT.out.1.below hb
    have T2 := HAT.out.2.below hb
    have c1 := T1.cell (i := m) (by omega)
    have c2 := T2.cell (i := m) (by omega)
    clear T1 T2
    by_cases h0 : 0 < m
    · obtain ⟨hj1, hj2, hj3⟩ := hj.out
      obtain ⟨g, hg1, hg2, hg3⟩ := upF_step (sameAt a b) f j (by omega) hj2
      rw [← hj1] at hg2 hg3
      rw [hj3] at hg3
      have e1 : (m : Int) / 2 = ((m / 2 : Nat) : Int) := by omega
      obtain ⟨m', hm'⟩ : ∃ m', m' = m / 2 := ⟨_, rfl⟩
      rw [← hm'] at e1
      have hlt : m' < m := by omega
      by_cases hab : a m = b m
      · rw [show sameAt a b m = true by simp [sameAt, hab]] at hg3
        have HG := Lib.hid hg3
        rw [hab] at c1
        clear hg3 hg2 hg1 hj1 hj2 hj3 hm' hab
        go_wp2_with fail
        go_quiet (fail)
        have hd := below_drewN (Below.refl wr.heap.size wr) nq
        go_wp2_with fail
        go_ret
        exact ⟨by rw [HG.out]; rfl, (hbl.trans (hb.mono hbl.size)).trans (hd.mono (Nat.le_trans hbl.size hb.size))⟩
      · rw [show sameAt a b m = false by simp [sameAt, hab]] at hg3
        have HJ : Hid (m' = m / 2 ∧ m < 2 ^ g ∧ upF (sameAt a b) g m = R) := Lib.hid ⟨hm', hg2, by rw [hg3]; rfl⟩
        clear hg3 hg2 hg1 hj1 hj2 hj3 hm'
        go_wp2_with fail
        go_quiet (fail)
        have hd := below_drewN (Below.refl wr.heap.size wr) nq
        go_wp2_with fail
        go_roundw
        case rel => exact ⟨m', g, m, rfl, by omega, HJ, hb.trans (hd.mono hb.size)⟩
        case measure => simp [intOf]; omega
    · obtain rfl : m = 0 := by omega
      have hR : R = true := by rw [← hj.out.2.2]; exact upF_zero _ _ _ hj.out.1.symm
      have HR' := Lib.hid hR
      clear hR
      go_wp2_with fail
      go_ret
      exact ⟨by rw [HR'.out]; rfl, hbl.trans (hb.mono hbl.size)⟩

theorem lookF_le (D : Nat → Bool) : ∀ n, lookF D n ≤ n
  | 0 => Nat.le_refl _
  | n + 1 => by have := lookF_le D n; unfold lookF; split <;> omega
theorem outF_le (D : Nat → Bool) : ∀ n, (outF D n).length ≤ n
  | 0 => Nat.le_refl _
  | n + 1 => by have := outF_le D n; unfold outF; split <;> simp <;> omega

set_option maxHeartbeats 4000000 in
set_option maxRecDepth 100000 in
theorem refdiffer_any (a b : Nat → Nat) (w : World) :
    Calls Try.prog 19 #[.agg (vT a), .agg (vT b)] w fun e w' => ∃ v, e = .returned (.tuple #[v, .int .i64 (lookF (sameAt a b) 32 : Nat)]) ∧
      w'.ownsRow w.heap.size 3 1 v (outF (sameAt a b) 32).length ((outF (sameAt a b) 32).flatMap enI) ∧ Below w.heap.size w w' := by
  obtain ⟨i0, hi0, hz0, hz1, hz2⟩ := info_parts_I
  have HI := Lib.hid hi0
  have HZ0 := Lib.hid hz0
  have HZ1 := Lib.hid hz1
  have HZ2 := Lib.hid hz2
  have hat := laid2_at w 51 a b
  have hbl := laid2_below w 51 (vT a) (vT b)
  have hre := fun i w => reached_any a b i w
  have hsA : (Try.prog.info? 51).map (·.size) = some (vT a).size := by rw [vT_size]; exact size51
  have hsB : (Try.prog.info? 51).map (·.size) = some (vT b).size := by rw [vT_size]; exact size51
  obtain ⟨A, hA⟩ : ∃ A, A = vT a := ⟨_, rfl⟩
  obtain ⟨B, hB⟩ : ∃ A, A = vT b := ⟨_, rfl⟩
  rw [← hA] at hsA
  rw [← hB] at hsB
  rw [← hA, ← hB] at hat hbl hre ⊢
  obtain ⟨W, hW⟩ : ∃ W, W = laid2 w 51 A B := ⟨_, rfl⟩
  rw [← hW] at hat hbl
  have HW : Hid ((w.alloc (.cells A 51)).alloc (.cells B 51) = W) := Lib.hid hW.symm
  have HAT := Lib.hid hat
  have HRE := Lib.hid hre
  have HSA := Lib.hid hsA
  have HSB := Lib.hid hsB
  have HA := Lib.hid hA
  have HB := Lib.hid hB
  have hws : w.heap.size ≤ W.heap.size := hbl.size
  obtain ⟨ba, hba⟩ : ∃ n, n = w.heap.size := ⟨_, rfl⟩
  have HBA := Lib.hid hba.symm
  clear hat hW hA hB hre hsA hsB hi0 hz0 hz1 hz2 hba
  go_enter Try.func19, Try.ntmps19
  go_upto_region 1 with fail
  rw [HW.out]
  simp only [HBA.out]
  go_wp2_with fail
  go_loopw [6, 7, 8] (fun ov nv iv wr => ∃ (i k n : Nat) (ao : Option Addr) (cap : Nat), iv = .int .i64 i ∧ nv = .int .i64 n ∧ ov = .slice ao k cap ∧ 1 ≤ i ∧ i ≤ 32 ∧ n ≤ 32 ∧ k ≤ 32 ∧ Hid (n = lookF (sameAt a b) i ∧ k = (outF (sameAt a b) i).length) ∧
    Hid (wr.ownsRow W.heap.size 3 1 (.slice ao k cap) k ((outF (sameAt a b) i).flatMap enI)) ∧ Below W.heap.size W wr) (fun _ _ iv _ => 32 - (intOf iv).toNat)
  case atStart => exact ⟨1, 0, 0, none, 0, rfl, rfl, rfl, by omega, by omega, by omega, by omega, Lib.hid ⟨rfl, rfl⟩, Lib.hid (World.ownsRow_nil _ _ _ _), Below.refl _ _⟩
  case round =>
    obtain ⟨i, k, n, ao, cap, rfl, rfl, rfl, h1, h32, hn32, hk32, hnk, hown, hb⟩ := hrel
    by_cases hlt : i < 32
    · have T1 := HAT.out.1.below hb
      have T2 := HAT.out.2.below hb
      rw [HBA.out] at T1
      rw [HBA.out] at T2
      have HT1 : Hid (wr.heap[ba]? = some (.cells A 51 (0, 0))) := Lib.hid (by rw [HA.out]; exact T1)
      have HT2 : Hid (wr.heap[ba + 1]? = some (.cells B 51 (0, 0))) := Lib.hid (by rw [HB.out]; exact T2)
      have HTT := Lib.hid (And.intro T1 T2)
      have hre := HRE.out i wr (by omega)
      obtain ⟨r, hr⟩ : ∃ r, r = reachF (sameAt a b) i := ⟨_, rfl⟩
      rw [← hr] at hre
      have HR := Lib.hid hr
      have HRE1 := Lib.hid hre
      have hL : lookF (sameAt a b) (i + 1) = lookF (sameAt a b) i + (if r then 1 else 0) := by rw [lookF, ← hr, decide_eq_true h1, Bool.and_true]
      have hO : outF (sameAt a b) (i + 1) = outF (sameAt a b) i ++ (if r && (decide (16 ≤ i) && !sameAt a b i) then [(i : Int) - 16] else []) := by rw [outF, ← hr, decide_eq_true h1, Bool.and_true]
      have HL := Lib.hid hL
      have HO := Lib.hid hO
      have hw : IntKind.i64.wrap ((i : Int) + 1) = (i : Int) + 1 := IntWalk.i64_in _ (by omega)
      have hw2 : IntKind.i64.wrap ((n : Int) + 1) = (n : Int) + 1 := IntWalk.i64_in _ (by omega)
      clear T1 T2 hr hre hL hO
      go_wp2_with (first
        | (refine wpList_load_row rfl 51 _ rfl ba rfl 51 A (0, 0) _ HT1.out Try.underlying51 rfl HSA.out ?_)
        | (refine wpList_load_row rfl 51 _ rfl (ba + 1) rfl 51 B (0, 0) _ HT2.out Try.underlying51 rfl HSB.out ?_))
      refine HRE1.out.mono ?_
      rintro e w1 ⟨rfl, hb1⟩
      have c1 := (HTT.out.1.below hb1).cell hlt
      have c2 := (HTT.out.2.below hb1).cell hlt
      have HOW := Lib.hid (row_below hown.out hb1)
      have hbl1 := hb.trans (hb1.mono hb.size)
      cases r
      · go_wp2_with fail
        go_roundw
        case rel => exact ⟨i + 1, k, n, _, _, by go_num, rfl, rfl, by omega, by omega, by omega, by omega, Lib.hid (by rw [HL.out, HO.out]; simp; exact hnk.out), Lib.hid (by rw [HO.out]; simpa using HOW.out), hbl1⟩
        case measure => simp [intOf]; omega
      · have hn33 : n + 1 ≤ 32 := by
          have := lookF_le (sameAt a b) i
          have := hnk.out.1
          omega
        have hk33 : k + 1 ≤ 32 := by
          have := outF_le (sameAt a b) i
          have := hnk.out.2
          omega
        have hL1 : n + 1 = lookF (sameAt a b) (i + 1) := by rw [HL.out, ← hnk.out.1]; rfl
        have HL1 := Lib.hid hL1
        clear hL1
        by_cases h16 : 16 ≤ i
        · by_cases hab : a i = b i
          · have hO1 : outF (sameAt a b) (i + 1) = outF (sameAt a b) i := by rw [HO.out, show sameAt a b i = true by simp [sameAt, hab]]; simp
            have HO1 := Lib.hid hO1
            rw [hab] at c1
            clear hO1 hab
            have hd16 : decide ((16 : Int) ≤ (i : Int)) = true := by simp; omega
            go_wp2_with fail
            go_quiet (fail)
            have hd := below_drewN (Below.refl w1.heap.size w1) nq
            go_wp2_with fail
            go_roundw
            case rel => exact ⟨i + 1, k, n + 1, _, _, by go_num, by go_num, rfl, by omega, by omega, by omega, by omega, Lib.hid ⟨HL1.out, by rw [HO1.out]; exact hnk.out.2⟩, Lib.hid (by rw [HO1.out]; exact row_below HOW.out hd), hbl1.trans (hd.mono hbl1.size)⟩
            case measure => simp [intOf]; omega
          · have hO1 : outF (sameAt a b) (i + 1) = outF (sameAt a b) i ++ [(i : Int) - 16] := by rw [HO.out, show sameAt a b i = false by simp [sameAt, hab], decide_eq_true h16]; simp
            have HO1 := Lib.hid hO1
            clear hO1
            have hd16 : decide ((16 : Int) ≤ (i : Int)) = true := by simp; omega
            have hw3 : IntKind.i64.wrap ((i : Int) - 16) = (i : Int) - 16 := IntWalk.i64_in _ (by omega)
            go_wp2_with fail
            go_quiet (fail)
            have hd := below_drewN (Below.refl w1.heap.size w1) nq
            have hr2 := row_below HOW.out hd
            have hbl2 := hbl1.trans (hd.mono hbl1.size)
            have hs2 := hbl2.size
            obtain ⟨w2, hw2⟩ : ∃ w2, w2 = w1.drewN nq := ⟨_, rfl⟩
            rw [← hw2] at hr2 hbl2 hs2 ⊢
            have HR2 := Lib.hid hr2
            clear hw2 hd hr2 c1 c2
            go_wp2_with (at_builtin; refine wpList_append_own _ rfl _ _ 38 rfl W.heap.size 3 i0 (.int .i64 0) 1 8 Try.underlying38 HI.out HZ0.out HZ1.out HZ2.out rfl (by decide) (.slice ao k cap) _ _ rfl (HR2.out.alloc _) ⟨_, 0, none⟩ 1 1 (enI ((i : Int) - 16)) rfl rfl ?c1 ?c2 ?c3 ?c4 ?c5 ?_)
            case c1 => exact new_cells _ (enI ((i : Int) - 16)) _
            case c2 => first | rfl | (intro u hu; simp at hu; subst hu; rfl)
            case c3 => unfold maxLen; omega
            case c4 => omega
            case c5 => simp; omega
            intro v' w3 hown3 hgrow3 _
            have hbl3 : Below W.heap.size W w3 := (hbl2.alloc hs2 _).grown hgrow3 (by simp; omega) (fun k hk => (World.ownsRow.lt HR2.out k hk).1)
            obtain ⟨gg, gc, rfl⟩ := ownsRow_succ hown3
            have R := Lib.hid hown3
            clear hown3 hgrow3
            go_wp2_with fail
            go_roundw
            case rel => exact ⟨i + 1, k + 1, n + 1, _, _, by go_num, by go_num, rfl, by omega, by omega, by omega, by omega, Lib.hid ⟨HL1.out, by rw [HO1.out, List.length_append, ← hnk.out.2]; rfl⟩, Lib.hid (by rw [HO1.out, List.flatMap_append, List.flatMap_singleton]; exact R.out), hbl3⟩
            case measure => simp [intOf]; omega
        · have hO1 : outF (sameAt a b) (i + 1) = outF (sameAt a b) i := by rw [HO.out, decide_eq_false h16]; simp
          have HO1 := Lib.hid hO1
          clear hO1
          have hd16 : decide ((16 : Int) ≤ (i : Int)) = false := by simp; omega
          go_wp2_with fail
          go_quiet (fail)
          have hd := below_drewN (Below.refl w1.heap.size w1) nq
          go_wp2_with fail
          go_roundw
          case rel => exact ⟨i + 1, k, n + 1, _, _, by go_num, by go_num, rfl, by omega, by omega, by omega, by omega, Lib.hid ⟨HL1.out, by rw [HO1.out]; exact hnk.out.2⟩, Lib.hid (by rw [HO1.out]; exact row_below HOW.out hd), hbl1.trans (hd.mono hbl1.size)⟩
          case measure => simp [intOf]; omega
    · obtain rfl : i = 32 := by omega
      go_wp2_with fail
      go_ret2
      refine ⟨_, by rw [← hnk.out.1]; rfl, ?_, hbl.trans (hb.mono hws)⟩
      rw [← hnk.out.2]
      exact own_base hown.out hws
end Go.Proofs.Ytehoanpjlinfaaa.Mrk
