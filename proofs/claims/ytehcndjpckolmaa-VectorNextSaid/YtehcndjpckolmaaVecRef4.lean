/- The walks of layer 5 (vector): the reference's Meet. -/
import Derived.Test.YtehcndjpckolmaaVecRef3
namespace Go.Proofs.Ytehcndjpckolmaa.Vec
open Go.RowKit

set_option maxRecDepth 100000 in
set_option maxHeartbeats 2000000 in
theorem refmeet_any (ao bo : Option Addr) (ac bc : Nat) (a b : List P) (w : World) (ha : DRow w (.slice ao a.length ac) a) (hb : DRow w (.slice bo b.length bc) b) (h1 : a.length ≤ 400) (h2 : b.length ≤ 400) :
    Calls Try.prog 58 #[.slice ao a.length ac, .slice bo b.length bc] w (RowPost w (meetF a b)) := by
  have HA := Lib.hid ha
  have HB := Lib.hid hb
  have hl : b.length ≤ 100000 := by omega
  clear ha hb
  obtain ⟨i0, hi, hz0, hz1, hz2⟩ := info_parts info_R
  have HI := Lib.hid hi
  have HZ0 := Lib.hid hz0
  have HZ1 := Lib.hid hz1
  have HZ2 := Lib.hid hz2
  clear hi hz0 hz1 hz2
  go_enter Try.func58, Try.ntmps58
  go_wp2_with fail
  go_loopw [5, 6] (fun ov iv wr => ∃ (k : Nat), k ≤ a.length ∧ iv = .int .i64 k ∧ Hid (wr.ownsRow w.heap.size 92 2 ov (meetF (a.take k) b).length ((meetF (a.take k) b).flatMap enD)) ∧ Below w.heap.size w wr) (fun _ iv _ => a.length - (vInt iv).toNat)
  case atStart => exact ⟨0, by omega, rfl, Lib.hid (World.ownsRow_nil _ _ _ _), Below.refl _ _⟩
  case round =>
    obtain ⟨k, hk, rfl, hown, hbl⟩ := hrel
    have hsz := hbl.size
    by_cases hlt : k < a.length
    · have HA' := Lib.hid (Lst.below HA.out hbl)
      have HB' := Lib.hid (Lst.below HB.out hbl)
      obtain ⟨ab, aoff, rfl, hab, a0, a1⟩ := dot_at HA'.out (List.getElem?_eq_getElem hlt)
      have htk := List.take_succ_eq_append_getElem hlt
      obtain ⟨y, hy⟩ : ∃ y, y = a[k] := ⟨_, rfl⟩
      rw [← hy] at a0 a1 htk
      have hms := meetF_snoc (a.take k) b y
      rw [← htk] at hms
      obtain ⟨m, hm⟩ : ∃ m, getF b y.who = m := ⟨_, rfl⟩
      rw [hm] at hms
      have hle : (meetF (a.take k) b).length ≤ 400 := by have := meetF_len (a.take k) b; have h3 := List.length_take_le k a; omega
      generalize meetF (a.take k) b = out at *
      have HMS := Lib.hid hms
      clear hy htk hms
      by_cases hc : 0 < min y.n m
      · have hpo : out ++ [⟨y.who, min y.n m⟩] = meetF (a.take (k + 1)) b := by rw [HMS.out, if_pos hc]
        have HPO := Lib.hid hpo
        clear hpo HMS
        obtain ⟨x, hx⟩ : ∃ x : P, x = ⟨y.who, min y.n m⟩ := ⟨_, rfl⟩
        rw [← hx] at HPO
        have hx1 : x.who = y.who := by rw [hx]
        have hx2 : x.n = min y.n m := by rw [hx]
        have HX := Lib.hid (And.intro hx1 hx2)
        clear hx hx1 hx2
        go_wp2_with fail
        refine (get_lit m bo bc b y.who _ hm HB'.out hl).mono ?_
        rintro e w' ⟨rfl, rfl⟩
        by_cases hmn : m < y.n
        · have hmin : min y.n m = m := by omega
          have hm0 : 0 < m := by omega
          go_wp2_with (at_builtin; refine wpList_append_own _ rfl _ _ 86 rfl w.heap.size 92 i0 (.agg #[.int .i64 0, .int .i64 0]) 2 16 Try.underlying86 HI.out HZ0.out HZ1.out HZ2.out rfl (by decide) _ _ _ rfl (hown.out.alloc _) ⟨wr.heap.size, 0, none⟩ 1 1 (enD ⟨y.who, m⟩) rfl rfl ?c1 ?c2 ?c3 ?c4 ?c5 ?_)
          case c1 => exact new_cells _ (enD ⟨y.who, m⟩) _
          case c2 => exact enD_one ⟨y.who, m⟩
          case c3 => unfold maxLen; omega
          case c4 => omega
          case c5 => simp; omega
          intro v' w3 hown3 hgrow3 _
          have hxe : x = ⟨y.who, m⟩ := by have := HX.out; cases x; simp_all
          rw [hxe] at HPO
          have R := Lib.hid hown3
          have hbl3 : Below w.heap.size w w3 := (hbl.alloc hsz _).grown hgrow3 (by simp; omega) (fun k hk => (World.ownsRow.lt hown.out k hk).1)
          clear hown3 hgrow3
          go_wp2
          go_roundw
          case rel => exact ⟨k + 1, by omega, by go_num, by rw [← HPO.out, List.length_append, List.flatMap_append, List.flatMap_singleton]; exact R, hbl3⟩
          case measure => simp [vInt]; omega
        · have hmin : min y.n m = y.n := by omega
          have hm0 : 0 < y.n := by omega
          go_wp2_with (at_builtin; refine wpList_append_own _ rfl _ _ 86 rfl w.heap.size 92 i0 (.agg #[.int .i64 0, .int .i64 0]) 2 16 Try.underlying86 HI.out HZ0.out HZ1.out HZ2.out rfl (by decide) _ _ _ rfl (hown.out.alloc _) ⟨wr.heap.size, 0, none⟩ 1 1 (enD y) rfl rfl ?c1 ?c2 ?c3 ?c4 ?c5 ?_)
          case c1 => exact new_cells _ (enD y) _
          case c2 => exact enD_one y
          case c3 => unfold maxLen; omega
          case c4 => omega
          case c5 => simp; omega
          intro v' w3 hown3 hgrow3 _
          have hxe : x = y := by have := HX.out; cases x; cases y; simp_all
          rw [hxe] at HPO
          have R := Lib.hid hown3
          have hbl3 : Below w.heap.size w w3 := (hbl.alloc hsz _).grown hgrow3 (by simp; omega) (fun k hk => (World.ownsRow.lt hown.out k hk).1)
          clear hown3 hgrow3
          go_wp2
          go_roundw
          case rel => exact ⟨k + 1, by omega, by go_num, by rw [← HPO.out, List.length_append, List.flatMap_append, List.flatMap_singleton]; exact R, hbl3⟩
          case measure => simp [vInt]; omega
      · have hpo : out = meetF (a.take (k + 1)) b := by rw [HMS.out, if_neg hc, List.append_nil]
        have HPO := Lib.hid hpo
        clear hpo HMS
        go_wp2_with fail
        refine (get_lit m bo bc b y.who _ hm HB'.out hl).mono ?_
        rintro e w' ⟨rfl, rfl⟩
        by_cases hmn : m < y.n
        · have hm0 : m ≤ 0 := by omega
          go_wp2_with fail
          go_roundw
          case rel => exact ⟨k + 1, by omega, by go_num, by rw [← HPO.out]; exact hown, hbl⟩
          case measure => simp [vInt]; omega
        · have hm0 : y.n ≤ 0 := by omega
          go_wp2_with fail
          go_roundw
          case rel => exact ⟨k + 1, by omega, by go_num, by rw [← HPO.out]; exact hown, hbl⟩
          case measure => simp [vInt]; omega
    · obtain rfl : k = a.length := by omega
      have hr := hown.out
      rw [List.take_length] at hr
      have HR := Lib.hid (Lst.of_owns enD_len (by omega) hr)
      clear hr
      go_wp2
      go_ret
      exact ⟨_, rfl, HR.out, hbl⟩
end Go.Proofs.Ytehcndjpckolmaa.Vec
