/- The walk of the law's Great (layer 25): rows of what reports were made of. -/
import Derived.Test.YtipoeigehabbmaaGreatDoorTold
set_option linter.unusedSimpArgs false
set_option linter.unusedVariables false
namespace Go.Proofs.YtipoeigehabbmaaGreatDoor.Mut
open Go.RowKit Go.Sort Go.Proofs.YtipoeigehabbmaaGreatDoor.Ord
set_option linter.unusedSectionVars false
variable [Inhabited Lim]

set_option maxHeartbeats 4000000 in
set_option maxRecDepth 100000 in
theorem great25_any (v : Value) (T : List Td) (w : World) (hv : TRow w v T) (hz : TSizes T) :
    Calls Tryz.prog 22 #[v] w fun e w' => e = .returned (.bool (great25 T)) ∧ w = w' := by
  obtain ⟨ao, cap, rfl, hc1, hc2⟩ := hv.form
  obtain ⟨n, hnn⟩ : ∃ n, n = T.length := ⟨_, rfl⟩
  obtain ⟨Q, hQ⟩ : ∃ Q, Q = great25 T := ⟨_, rfl⟩
  rw [← hQ]
  have hQ2 : Q = (decide (6 < n) || T.any fun x => greatF (x.l.map (·.1)) 15) := by rw [hQ, hnn]; rfl
  rw [← hnn] at hv hc1 ⊢
  unfold maxLen at hc2
  have hn9 : n ≤ 9223372036854775807 := by omega
  have HV := Lib.hid hv
  have HN := Lib.hid hnn
  have HZ := Lib.hid hz
  have HQ := Lib.hid hQ2
  clear hv hnn hQ hQ2 hz hc1 hc2
  by_cases hlt : 6 < n
  · have HE := Lib.hid (show true = Q by have := HQ.out; rw [decide_eq_true hlt] at this; rw [this]; rfl)
    have hd : decide ((6 : Int) < (n : Int)) = true := decide_eq_true (by omega)
    go_enter Tryz.func22, Tryz.ntmps22
    go_wp2_with fail
    go_ret
    exact ⟨ret_bool HE.out, rfl⟩
  · have HE := Lib.hid (show Q = (T.any fun x => greatF (x.l.map (·.1)) 15) by have := HQ.out; rw [decide_eq_false hlt, Bool.false_or] at this; exact this)
    clear HQ
    have hd : decide ((6 : Int) < (n : Int)) = false := decide_eq_false (by omega)
    go_enter Tryz.func22, Tryz.ntmps22
    go_wp2_with fail
    clear hd
    go_loop [3] (fun iv => ∃ k : Nat, k ≤ n ∧ iv = .int .i64 k ∧ Hid (((T.drop k).any fun x => greatF (x.l.map (·.1)) 15) = Q)) (fun iv => n - (intOf iv).toNat)
    case atStart => exact ⟨0, by omega, rfl, Lib.hid (by rw [HE.out]; rfl)⟩
    case round =>
      obtain ⟨k, hk, rfl, hi⟩ := hrel
      by_cases hlt2 : k < n
      · have hk1 : k < T.length := by have := HN.out; omega
        obtain ⟨xb, xoff, hao, hbl, a0, a1, a2, a3, a4⟩ := HV.out.get hk1
        cases hao
        have hxm := HV.out.ro T[k] (List.getElem_mem hk1)
        have hzm := HZ.out T[k] (List.getElem_mem hk1)
        have hst := hi.out
        rw [List.drop_eq_getElem_cons hk1, List.any_cons] at hst
        generalize T[k] = x at hxm hzm a0 a1 a2 a3 a4 hst
        obtain ⟨xv, xl, ⟨fp, fl, fw⟩, xq⟩ := x
        simp only [] at hxm hzm a0 a1 a2 a3 a4 hst
        obtain ⟨o1, c1, e1, -, -⟩ := hxm.form
        obtain ⟨G, hG⟩ : ∃ G, G = greatF (xl.map (·.1)) 15 := ⟨_, rfl⟩
        have hgr := great_any xv xl 15 _ hxm (by decide) (fun x hx => ⟨(hzm x hx).key, (hzm x hx).fin, (hzm x hx).val⟩)
        rw [← hG] at hst hgr
        obtain ⟨xn, hxn⟩ : ∃ c, c = xl.length := ⟨_, rfl⟩
        rw [← hxn] at e1
        subst e1
        have HGR := Lib.hid hgr
        have HST := Lib.hid hst
        clear hi hst hG hgr hxm hzm hxn
        go_wp2_with fail
        refine HGR.out.mono ?_
        rintro e w1 ⟨rfl, rfl⟩
        cases G
        · have HT := Lib.hid (show ((T.drop (k + 1)).any fun x => greatF (x.l.map (·.1)) 15) = Q from HST.out)
          go_wp2_with fail
          go_round
          case rel => exact ⟨k + 1, by omega, by go_num, HT⟩
          case measure => simp [intOf]; omega
        · have HT := Lib.hid (show true = Q from HST.out)
          go_wp2_with fail
          go_ret
          exact ⟨ret_bool HT.out, rfl⟩
      · obtain rfl : k = n := by omega
        have HT := Lib.hid (show false = Q by rw [← hi.out, List.drop_of_length_le (by have := HN.out; omega)]; rfl)
        go_wp2_with fail
        go_ret
        exact ⟨ret_bool HT.out, rfl⟩
end Go.Proofs.YtipoeigehabbmaaGreatDoor.Mut
