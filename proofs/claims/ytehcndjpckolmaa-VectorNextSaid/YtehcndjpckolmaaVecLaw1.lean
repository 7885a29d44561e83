/- The walks of layer 5 (vector): Next; the law's Of, alive. -/
import Derived.Test.YtehcndjpckolmaaVecCov
import Derived.Test.YtehcndjpckolmaaVecRef4
import Derived.Test.YtehcndjpckolmaaLstMore
import Derived.Maps.OwnSet
import Derived.Deep.AppendLies
import Derived.Deep.RegionLaw
namespace Go.Proofs.Ytehcndjpckolmaa.Vec
open Go.RowKit Go.Maps

theorem row_new (w : World) (l : List P) (t : TypeId) (hl : l.length ≤ 1000) : DRow (w.alloc (.cells ⟨l.flatMap enD⟩ t)) (.slice (some ⟨w.heap.size, 0, none⟩) l.length l.length) l := by
  refine ⟨_, _, rfl, Nat.le_refl _, by unfold maxLen; omega, Or.inr ⟨w.heap.size, 0, rfl, by simp, fun i x hi j hj => ?_⟩⟩
  have h := flatMap_get enD_len l i x hi j hj
  have hlt : j < (enD x).length := hj
  rw [List.getElem?_eq_getElem hlt] at h ⊢
  have := new_cells w (l.flatMap enD) t (i * 2 + j) _ h
  rw [addr_add] at this
  rw [show 0 + i * 2 + j = 0 + (i * 2 + j) by omega]
  exact this

theorem VMap.at {w : World} {b : Nat} {l : List P} (h : VMap w b l) {x : Int} (h1 : -9223372036854775808 ≤ x) (h2 : x ≤ 9223372036854775807) :
    (Instr.lookup 85 (.map (some b)) (.int .i64 x) false).run Try.prog w = .ok (.int .i64 (getF l x)) w := by
  obtain ⟨c, hrun, hat, hwc⟩ := h.lookup_int law Try.underlying85 Try.underlying3 (Try.zeroValue3 _) (key h1 h2)
  obtain rfl := dat_get hat
  exact hrun
theorem VMap.len {w : World} {b : Nat} {l : List P} (h : VMap w b l) (ty : TypeId) : (Builtin.len_ #[85] ty #[.map (some b)]).run Try.prog w = .ok (.int .i64 l.length) w := by
  have := World.ownsMap.len h Try.underlying85 ty
  rwa [dat_size] at this

theorem good_of {l : List P} (h1 : Rises l) (h2 : l.all right = true) : Good l := ⟨h1, fun x hx => List.all_eq_true.1 h2 x hx⟩

def exA : List P := [⟨0, 2⟩]
def exB : List P := [⟨0, 1⟩, ⟨3, 4⟩]
theorem exA_good : Good exA := good_of (by unfold exA Rises; simp) (by decide)
theorem exB_good : Good exB := good_of (by unfold exB Rises; simp) (by decide)
theorem exA_sm : Sm exA := fun x hx => by simp [exA] at hx; subst hx; decide
theorem exB_sm : Sm exB := fun x hx => by simp [exB] at hx; rcases hx with rfl | rfl <;> decide
theorem ex_order : orderF exA exB = 3 := by decide
theorem ex_len : (joinF exA exB).length = 2 := by decide
theorem ex_0 : getF (joinF exA exB) 0 = 2 := by decide
theorem ex_3 : getF (joinF exA exB) 3 = 4 := by decide

set_option maxRecDepth 100000 in
set_option maxHeartbeats 2000000 in
theorem alive_any (w : World) : Calls Try.prog 50 #[] w fun e w' => e = .returned (.bool true) ∧ Below w.heap.size w w' := by
  go_enter Try.func50, Try.ntmps50
  go_wp2_with fail
  refine (of_any (some ⟨w.heap.size, 0, none⟩) 1 exA _ (row_new w exA _ (by decide)) (by decide) exA_sm).mono ?_
  rintro e w1 ⟨ba, rfl, hva, hba, hb1⟩
  rw [ofF_self exA_good] at hva
  have HB1 := Lib.hid (below_then ((Below.refl _ w).alloc (Nat.le_refl _) _) (Nat.le_refl _) hb1)
  have HVA := Lib.hid hva
  clear hva hb1 hba
  go_wp2_with fail
  refine (of_any (some ⟨w1.heap.size, 0, none⟩) 2 exB _ (row_new w1 exB _ (by decide)) (by decide) exB_sm).mono ?_
  rintro e w2 ⟨bb, rfl, hvb, hbb, hb2⟩
  rw [ofF_self exB_good] at hvb
  have hb2' := below_then ((Below.refl _ w1).alloc (Nat.le_refl _) _) (Nat.le_refl _) hb2
  have HB2 := Lib.hid (below_then HB1.out (Nat.le_refl _) hb2')
  have HVA2 := Lib.hid (HVA.out.below hb2')
  have HVB := Lib.hid hvb
  clear hvb hb2 hb2' hbb
  go_wp2_with fail
  refine (join_any ba bb exA exB _ exA_good exA_sm exB_good exB_sm HVA2.out HVB.out (by decide) (by decide)).mono ?_
  rintro e w3 ⟨bj, rfl, hvj, hbj, hb3⟩
  have q0 := hvj.at (x := 0) (by decide) (by decide)
  have q3 := hvj.at (x := 3) (by decide) (by decide)
  have ql := fun ty => hvj.len ty
  rw [ex_0] at q0
  rw [ex_3] at q3
  rw [ex_len] at ql
  have HB3 := Lib.hid (below_then HB2.out (Nat.le_refl _) hb3)
  have HVA3 := Lib.hid (HVA2.out.below hb3)
  have HVB3 := Lib.hid (HVB.out.below hb3)
  clear hvj hbj hb3
  go_wp2_with fail
  refine (compare_any ba bb exA exB _ exA_good exA_sm exB_good exB_sm HVA3.out HVB3.out (by decide) (by decide)).mono ?_
  rintro e w4 ⟨rfl, hb4⟩
  rw [ex_order]
  have HB4 := Lib.hid (below_then HB3.out (Nat.le_refl _) hb4)
  clear hb4
  go_wp2_with fail
  go_ret
  exact ⟨rfl, HB4.out⟩

/-- The map and the row of the law. -/
def OfPost (w : World) (l : List P) (e : Ending) (w' : World) : Prop := ∃ b ao ac, e = .returned (.tuple #[.map (some b), .slice ao (ofF l).length ac]) ∧ VMap w' b (ofF l) ∧ DRow w' (.slice ao (ofF l).length ac) (ofF l) ∧ Below w.heap.size w w'

set_option maxRecDepth 100000 in
set_option maxHeartbeats 2000000 in
theorem lawof_any (ao : Option Addr) (ac : Nat) (l : List P) (w : World) (ha : DRow w (.slice ao l.length ac) l) (h1 : l.length ≤ 100) (hs : Sm l) :
    Calls Try.prog 44 #[.slice ao l.length ac] w (OfPost w l) := by
  have HA := Lib.hid ha
  clear ha
  obtain ⟨i0, hi, hz0, hz1, hz2⟩ := info_parts info_R
  have HI := Lib.hid hi
  have HZ0 := Lib.hid hz0
  have HZ1 := Lib.hid hz1
  have HZ2 := Lib.hid hz2
  clear hi hz0 hz1 hz2
  go_enter Try.func44, Try.ntmps44
  go_wp2_with fail
  go_loopw [4, 5] (fun ov iv wr => ∃ (k : Nat), k ≤ l.length ∧ iv = .int .i64 k ∧ Hid (wr.ownsRow w.heap.size 92 2 ov k ((l.take k).flatMap enD)) ∧ Below w.heap.size w wr) (fun _ iv _ => l.length - (vInt iv).toNat)
  case atStart => exact ⟨0, by omega, rfl, Lib.hid (World.ownsRow_nil _ _ _ _), Below.refl _ _⟩
  case round =>
    obtain ⟨k, hk, rfl, hown, hbl⟩ := hrel
    have hsz := hbl.size
    by_cases hlt : k < l.length
    · have HA' := Lib.hid (Lst.below HA.out hbl)
      obtain ⟨ab, aoff, rfl, hab, a0, a1⟩ := dot_at HA'.out (List.getElem?_eq_getElem hlt)
      have htk := List.take_succ_eq_append_getElem hlt
      obtain ⟨y, hy⟩ : ∃ y, y = l[k] := ⟨_, rfl⟩
      rw [← hy] at a0 a1 htk
      have HTK := Lib.hid htk
      clear hy htk
      go_wp2_with fail
      go_region_law (refine step_append_lies _ rfl (.tmp 12) (.tmp 24) 86 rfl w.heap.size 92 i0 (.agg #[.int .i64 0, .int .i64 0]) 2 16 Try.underlying86 HI.out HZ0.out HZ1.out HZ2.out rfl (by decide) _ _ _ rfl ((World.ownsRow.drew hown.out).alloc _) ⟨wr.heap.size, 0, none⟩ 1 1 (enD y) rfl rfl (new_cells _ (enD y) _) (enD_one y) (by decide) (by unfold maxLen; omega) (by omega) (by simp; omega) _ rfl (fun g cap w3 g1 g2 g3 g4 => ?_))
      all_goals
        have R := Lib.hid g1
        have hbl3 : Below w.heap.size w w3 := (hbl.drew.alloc (by simp; omega) _).grown g2 (by simp; omega) (fun k hk => (World.ownsRow.lt hown.out k hk).1)
        clear g1 g2 g3 g4
        try go_simp
        go_wp2
        go_roundw
        case rel => exact ⟨k + 1, by omega, by go_num, by rw [HTK.out, List.flatMap_append, List.flatMap_singleton]; exact R, hbl3⟩
        case measure => simp [vInt]; omega
    · obtain rfl : k = l.length := by omega
      have hr := hown.out
      rw [List.take_length] at hr
      have HR := Lib.hid (Lst.of_owns enD_len (by omega) hr)
      obtain ⟨oo, oc, rfl, -, -⟩ := Lst.form HR.out
      clear hr hown
      go_wp2_with fail
      refine (of_any ao ac l _ (Lst.below HA.out hbl) (by omega) hs).mono ?_
      rintro e w2 ⟨b, rfl, hv, hbv, hb2⟩
      have HV := Lib.hid hv
      clear hv hbv
      go_wp2_with fail
      refine (refof_any oo oc l _ (Lst.below HR.out hb2) (by omega)).mono ?_
      rintro e w3 ⟨v3, rfl, hr3, hb3⟩
      obtain ⟨so, sc, rfl, -, -⟩ := Lst.form hr3
      have HV3 := Lib.hid (HV.out.below hb3)
      have HR3 := Lib.hid hr3
      have HB3 := Lib.hid (below_then (below_then hbl (Nat.le_refl _) hb2) (Nat.le_refl _) hb3)
      clear hr3 hb3 hb2
      go_wp2
      refine bodyPost_ret (v := .tuple #[.map (some b), .slice so (ofF l).length sc]) (by simp [results, Try.f44, go_sem]) rfl ?_
      exact ⟨b, so, sc, rfl, HV3.out, HR3.out, HB3.out⟩
end Go.Proofs.Ytehcndjpckolmaa.Vec
