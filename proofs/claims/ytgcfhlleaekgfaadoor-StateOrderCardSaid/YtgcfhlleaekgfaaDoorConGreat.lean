/- The walk of the law's Great (layer 8). -/
import Derived.Test.YtgcfhlleaekgfaaDoorConSame
namespace Go.Proofs.YtgcfhlleaekgfaaDoor.Mut
open Go.RowKit Go.Sort Go.Proofs.YtgcfhlleaekgfaaDoor.Ord

def greatM (m : Mu) : Bool := decide (200 < m.key.size) || (decide (200 < m.fin.size) || (decide (200 < m.val.size) || decide (50 < m.over.length)))
def greatF (l : List Mu) (most : Nat) : Bool := decide (most < l.length) || l.any greatM
theorem great_small {l : List Mu} {most : Nat} (h : greatF l most = false) : l.length ≤ most ∧ ∀ m ∈ l, Small m := by
  unfold greatF at h
  simp only [Bool.or_eq_false_iff, decide_eq_false_iff_not, List.any_eq_false] at h
  refine ⟨by omega, fun m hm => ?_⟩
  have := h.2 m hm
  unfold greatM at this
  simp only [Bool.or_eq_true, decide_eq_true_eq, not_or] at this
  exact ⟨by omega, by omega, by omega, by omega⟩

set_option maxHeartbeats 4000000 in
set_option maxRecDepth 100000 in
theorem great_any (v : Value) (R : List Ro) (most : Nat) (w : World) (hv : MRow w v R) (hm : most ≤ 1000) (hz : ∀ x ∈ R, x.1.key.size ≤ maxLen ∧ x.1.fin.size ≤ maxLen ∧ x.1.val.size ≤ maxLen) :
    Calls Tryd.prog 4 #[v, .int .i64 most] w fun e w' => e = .returned (.bool (greatF (R.map (·.1)) most)) ∧ w = w' := by
  obtain ⟨ao, cap, rfl, hc1, hc2⟩ := hv.form
  obtain ⟨n, hnn⟩ : ∃ n, n = R.length := ⟨_, rfl⟩
  obtain ⟨Q, hQ⟩ : ∃ Q, Q = greatF (R.map (·.1)) most := ⟨_, rfl⟩
  rw [← hQ]
  have hQ2 : Q = (decide (most < n) || (R.map (·.1)).any greatM) := by rw [hQ, hnn]; unfold greatF; rw [List.length_map]
  rw [← hnn] at hv hc1 ⊢
  unfold maxLen at hc2 hz
  have hn9 : n ≤ 9223372036854775807 := by omega
  have HV := Lib.hid hv
  have HN := Lib.hid hnn
  have HZ := Lib.hid hz
  have HQ := Lib.hid hQ2
  clear hv hnn hQ hQ2 hz hc1 hc2
  by_cases hlt : most < n
  · have hq : true = Q := by have := HQ.out; rw [decide_eq_true hlt] at this; rw [this]; rfl
    have HE := Lib.hid hq
    clear hq
    have hd : decide ((most : Int) < (n : Int)) = true := decide_eq_true (by omega)
    go_enter Tryd.func4, Tryd.ntmps4
    go_wp2_with fail
    go_ret
    exact ⟨ret_bool HE.out, rfl⟩
  · have hq : Q = (R.map (·.1)).any greatM := by have := HQ.out; rw [decide_eq_false hlt, Bool.false_or] at this; exact this
    have HE := Lib.hid hq
    clear hq HQ
    have hd : decide ((most : Int) < (n : Int)) = false := decide_eq_false (by omega)
    go_enter Tryd.func4, Tryd.ntmps4
    go_wp2_with fail
    clear hd
    go_loop [5] (fun iv => ∃ k : Nat, k ≤ n ∧ iv = .int .i64 k ∧ Hid (((R.drop k).map (·.1)).any greatM = Q)) (fun iv => n - (intOf iv).toNat)
    case atStart => exact ⟨0, by omega, rfl, Lib.hid (by rw [HE.out]; rfl)⟩
    case round =>
      obtain ⟨k, hk, rfl, hi⟩ := hrel
      by_cases hlt2 : k < n
      · have hk1 : k < R.length := by have := HN.out; omega
        obtain ⟨x, hx⟩ : ∃ x, R[k]? = some x := ⟨_, List.getElem?_eq_getElem hk1⟩
        have hxe : R[k] = x := (List.getElem?_eq_some_iff.1 hx).2
        obtain ⟨xb, xoff, hao, hat⟩ := HV.out.at_ hx
        cases hao
        have hxo := HV.out.over x (List.mem_of_getElem? hx)
        obtain ⟨xo, xc, ex, hxc, hxm⟩ := Over.form hxo
        obtain ⟨z1, z2, z3⟩ := HZ.out x (List.mem_of_getElem? hx)
        have hi' : (greatM x.1 || ((R.drop (k + 1)).map (·.1)).any greatM) = Q := by rw [← hi.out, List.drop_eq_getElem_cons hk1, hxe]; rfl
        unfold greatM at hi'
        have HI := Lib.hid hi'
        clear hi' hi hx hxe hxo
        obtain ⟨hbl, a0, a1, a2, a3, a4, a5, a6, a7, a8, a9⟩ := hat
        obtain ⟨⟨at1, ak1, akey1, afin1, aval1, aex1, ⟨ap1, al1, aw1⟩, aov1⟩, av1⟩ := x
        simp only [] at ex z1 z2 z3 a0 a1 a2 a3 a4 a5 a6 a7 a8 a9 HI
        obtain ⟨xn, hxn⟩ : ∃ k, k = aov1.length := ⟨_, rfl⟩
        unfold maxLen at hxm
        rw [← hxn] at ex HI hxc
        subst ex
        clear hxn
        by_cases t1 : 200 < akey1.size
        · have HT := Lib.hid (show true = Q by rw [← HI.out, decide_eq_true t1]; rfl)
          have d1 : decide ((200 : Int) < (akey1.size : Int)) = true := decide_eq_true (by omega)
          clear HI
          go_wp2_with fail
          go_ret
          exact ⟨ret_bool HT.out, rfl⟩
        have d1 : decide ((200 : Int) < (akey1.size : Int)) = false := decide_eq_false (by omega)
        by_cases t2 : 200 < afin1.size
        · have HT := Lib.hid (show true = Q by rw [← HI.out, decide_eq_false t1, decide_eq_true t2]; rfl)
          have d2 : decide ((200 : Int) < (afin1.size : Int)) = true := decide_eq_true (by omega)
          clear HI
          go_wp2_with fail
          go_ret
          exact ⟨ret_bool HT.out, rfl⟩
        have d2 : decide ((200 : Int) < (afin1.size : Int)) = false := decide_eq_false (by omega)
        by_cases t3 : 200 < aval1.size
        · have HT := Lib.hid (show true = Q by rw [← HI.out, decide_eq_false t1, decide_eq_false t2, decide_eq_true t3]; rfl)
          have d3 : decide ((200 : Int) < (aval1.size : Int)) = true := decide_eq_true (by omega)
          clear HI
          go_wp2_with fail
          go_ret
          exact ⟨ret_bool HT.out, rfl⟩
        have d3 : decide ((200 : Int) < (aval1.size : Int)) = false := decide_eq_false (by omega)
        by_cases t4 : 50 < xn
        · have HT := Lib.hid (show true = Q by rw [← HI.out, decide_eq_false t1, decide_eq_false t2, decide_eq_false t3, decide_eq_true t4]; rfl)
          have d4 : decide ((50 : Int) < (xn : Int)) = true := decide_eq_true (by omega)
          clear HI
          go_wp2_with fail
          go_ret
          exact ⟨ret_bool HT.out, rfl⟩
        have d4 : decide ((50 : Int) < (xn : Int)) = false := decide_eq_false (by omega)
        have HT := Lib.hid (show ((R.drop (k + 1)).map (·.1)).any greatM = Q by rw [← HI.out, decide_eq_false t1, decide_eq_false t2, decide_eq_false t3, decide_eq_false t4]; rfl)
        clear HI
        go_wp2_with fail
        go_round
        case rel => exact ⟨k + 1, by omega, by go_num, HT⟩
        case measure => simp [intOf]; omega
      · obtain rfl : k = n := by omega
        have HT := Lib.hid (show false = Q by rw [← hi.out, List.drop_of_length_le (by have := HN.out; omega)]; rfl)
        go_wp2_with fail
        go_ret
        exact ⟨ret_bool HT.out, rfl⟩
end Go.Proofs.YtgcfhlleaekgfaaDoor.Mut
