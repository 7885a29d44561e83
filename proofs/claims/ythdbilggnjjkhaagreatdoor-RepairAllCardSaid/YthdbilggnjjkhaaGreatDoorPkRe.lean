/- A repair of two nodes goes through: the law's alive (layer 26). · The walk of the law's Great (layer 25): rows of what reports were made of. -/
import Derived.Test.YthdbilggnjjkhaaGreatDoorPkRc
import Derived.Test.YthdbilggnjjkhaaGreatDoorRepairRep
import Derived.Test.YthdbilggnjjkhaaGreatDoorPkRb
set_option linter.unusedSimpArgs false
set_option linter.unusedVariables false
namespace Go.Proofs.YthdbilggnjjkhaaGreatDoor.Rpr
open Go.RowKit Go.Maps Go.Sort Go.Proofs.YthdbilggnjjkhaaGreatDoor.Ints Go.Proofs.YthdbilggnjjkhaaGreatDoor.Mut Go.Proofs.YthdbilggnjjkhaaGreatDoor.Trc Go.Proofs.YthdbilggnjjkhaaGreatDoor.Ord
set_option linter.unusedSectionVars false
variable [Inhabited Lim]

theorem lit_ints (l : List Int) (w : World) (t : TypeId) (hn : l.length ≤ maxLen) : IRow (w.alloc (.cells ⟨l.flatMap enI⟩ t)) (.slice (some ⟨w.heap.size, 0, none⟩) l.length l.length) l := by
  refine ⟨_, l.length, rfl, Nat.le_refl _, hn, Or.inr ⟨_, _, rfl, by simp, fun i x hi j hj => ?_⟩⟩
  rw [cells_at (heap_alloc_new w _), Nat.zero_add]
  exact flatMap_get enI_len _ i x hi j hj
theorem nodes_two : dupI (sortI [2, 1]) = [1, 2] := by
  have h1 : sortI [2, 1] = [1, 2] := by simp [sortI, List.mergeSort, List.merge, List.MergeSort.Internal.splitInTwo]
  have h2 : dupI [1, 2] = [1, 2] := by kernel_rfl
  rw [h1, h2]
def zRp : Rp := ⟨.slice none 0 0, .slice none 0 0, .slice none 0 0, conE, ⟨0, 0, 0⟩, false⟩
/-- The repair of 1 and 2, so far. -/
def TwoP (k : Nat) (B : Nat) (ks K : List Int) (p : Int) (q : Bool) (e : Ending) (w' : World) : Prop :=
  e = .returned (.bool q) ∧ ∃ s E, SOk w' k s [1, 2] E K B ∧ s.ph = p ∧ E.map (·.1) = ks
theorem nd_small {n : Int} (h : n = 1 ∨ n = 2) : Nd n := by unfold Nd; omega
theorem two_rep {k B : Nat} {ks : List Int} {n p : Int} {w wT : World} (q : Bool) (p' : Int) (ks' : List Int) (hn : n = 1 ∨ n = 2) (hT : Tabs wT) (hTw : Below wT.heap.size wT w) (hTB : wT.heap.size ≤ B) (hL : (default : Lim).n ≤ w.heap.size)
    (h : ∃ s E, SOk w k s [1, 2] E [] B ∧ s.ph = p ∧ E.map (·.1) = ks) (hk : ks.Nodup ∧ ∀ m ∈ ks, m ∈ ([1, 2] : List Int)) (hS : Sess.report ⟨[1, 2], ks, [], p⟩ n true = ⟨[1, 2], ks', [], p'⟩) (hq : (decide (p = 0) && decide (p' = 1)) = q) :
    Calls Tryz.prog 7 #[.pointer (some ⟨k, 0, none⟩), .int .i64 n, vR zRp] w fun e w' => TwoP k B ks' [] p' q e w' ∧ Below B w w' := by
  obtain ⟨s, E, hO, hp, hE⟩ := h
  have hl : E.length ≤ 1000 := by
    have h1 := len_le ks [1, 2] hk.1 hk.2
    rw [← hE, List.length_map] at h1
    simp at h1
    omega
  refine (report_any k s [1, 2] E [] B n zRp wT w hT hTw hTB hL hO (by simp) (fun m hm => nd_small (by simpa using hm)) hl (by rw [hE]; exact hk) (nd_small hn) (Lies.none w) ⟨repsE, okcE.more (by omega)⟩).mono ?_
  rintro e w' ⟨ok, s', E', rfl, h1, -, h2, -, h3, h4⟩
  have hok : ok = true := h4 rfl
  subst hok
  rw [hp, hE, hS] at h2
  have e1 := congrArg Sess.phase h2
  have e2 := congrArg Sess.kr h2
  simp only [] at e1 e2
  refine ⟨⟨?_, s', E', h1, e1, e2⟩, h3⟩
  rw [hp, e1, hq]
theorem two_done {k B : Nat} {ks K : List Int} {n p : Int} {w : World} (q : Bool) (p' : Int) (K' : List Int) (hn : n = 1 ∨ n = 2) (hK : K.length ≤ 1000)
    (h : ∃ s E, SOk w k s [1, 2] E K B ∧ s.ph = p ∧ E.map (·.1) = ks) (hS : Sess.done ⟨[1, 2], ks, K, p⟩ n = ⟨[1, 2], ks, K', p'⟩) (hq : (decide (p = 1) && decide (p' = 2)) = q) :
    Calls Tryz.prog 9 #[.pointer (some ⟨k, 0, none⟩), .int .i64 n] w fun e w' => TwoP k B ks K' p' q e w' ∧ Below B w w' := by
  obtain ⟨s, E, hO, hp, hE⟩ := h
  refine (done_any k s [1, 2] E K B n w hO (by simp) hK (nd_small hn)).mono ?_
  rintro e w' ⟨rfl, h1, -, h2⟩
  rw [hE, hp, hS] at h1
  refine ⟨⟨?_, _, E, h1, rfl, hE⟩, h2⟩
  rw [hE, hp, hS, hq]

set_option maxHeartbeats 4000000 in
set_option maxRecDepth 100000 in
theorem alive26_any (w : World) (hT : Tabs w) (hL : (default : Lim).n ≤ w.heap.size) : Calls Tryz.prog 11 #[] w (RetB true w) := by
  have HT := Lib.hid hT
  have HL := Lib.hid hL
  clear hT hL
  go_enter Tryz.func11, Tryz.ntmps11
  go_wp2_with fail
  obtain ⟨W0, hW0⟩ : ∃ W, W = w.alloc (.cells #[.int .i64 2, .int .i64 1] 3) := ⟨_, rfl⟩
  have hb0 : Below w.heap.size w W0 := by rw [hW0]; exact (Below.refl _ _).alloc (Nat.le_refl _) _
  have hr0 : IRow W0 (.slice (some ⟨w.heap.size, 0, none⟩) 2 2) [2, 1] := by rw [hW0]; exact lit_ints [2, 1] w _ (by decide)
  rw [← hW0]
  have hnew := new_any ⟨5, 0, 0⟩ 0 (some ⟨w.heap.size, 0, none⟩) 2 [2, 1] W0 hr0 (by simp) (by simp)
  rw [nodes_two] at hnew
  have HB0 := Lib.hid hb0
  clear hW0 hr0 hb0
  refine hnew.mono ?_
  rintro e w1 ⟨k, s, rfl, hO, hp, hb1⟩
  have HB1 := Lib.hid (below_then HB0.out (Nat.le_refl _) hb1)
  have HO := Lib.hid hO
  have HP := Lib.hid hp
  obtain ⟨B, hB⟩ : ∃ B, B = W0.heap.size := ⟨_, rfl⟩
  rw [← hB] at HO
  have HBW := Lib.hid (show w.heap.size ≤ B by rw [hB]; exact HB0.out.size)
  have HWT := Lib.hid (waits_any k s [1, 2] [] B w1 HO.out (by simp) HP.out)
  clear hnew hO hp hb1 hB HB0
  go_wp2_with fail
  refine HWT.out.mono ?_
  rintro e w2 ⟨ao, ac, rfl, hr2, hb2⟩
  obtain ⟨W2, hW2⟩ : ∃ W, W = w2.alloc (.cells #[.int .i64 1, .int .i64 2] 3) := ⟨_, rfl⟩
  have hbb : Below w2.heap.size w2 W2 := by rw [hW2]; exact (Below.refl _ _).alloc (Nat.le_refl _) _
  have hr2' : IRow W2 (.slice (some ⟨w2.heap.size, 0, none⟩) 2 2) [1, 2] := by rw [hW2]; exact lit_ints [1, 2] w2 _ (by decide)
  have HEQ := Lib.hid (equal_lit true ao (some ⟨w2.heap.size, 0, none⟩) ac 2 [1, 2] [1, 2] W2 (by kernel_rfl) (Lst.below hr2 hbb) hr2' (by simp) (by simp))
  have hb12 := below_then hb2 (Nat.le_refl _) hbb
  have HO2 := Lib.hid (HO.out.below hb12)
  have HB2 := Lib.hid (below_then HB1.out (Nat.le_refl _) hb12)
  have HW2 := Lib.hid hW2
  clear hr2 hr2' hbb hb2 hb12 hW2 HWT
  go_wp2_with fail
  rw [← HW2.out]
  clear HW2
  refine HEQ.out.mono ?_
  rintro e w3 ⟨rfl, hb3⟩
  have HB3 := Lib.hid (below_then HB2.out (Nat.le_refl _) hb3)
  have h3 : ∃ s E, SOk w3 k s [1, 2] E [] B ∧ s.ph = 0 ∧ E.map (·.1) = [] := ⟨s, [], HO2.out.below hb3, HP.out, rfl⟩
  have HR1 := Lib.hid (two_rep (n := 1) false 0 [1] (Or.inl rfl) HT.out HB3.out HBW.out (Nat.le_trans HL.out HB3.out.size) h3 (by simp) rfl rfl)
  clear hb3 h3 HO HO2 HEQ
  go_wp2_with fail
  refine HR1.out.mono ?_
  rintro e w4 ⟨⟨rfl, h4⟩, hb4⟩
  have HB4 := Lib.hid (HB3.out.trans (hb4.mono HBW.out))
  have HR2 := Lib.hid (two_rep (n := 2) true 1 [2, 1] (Or.inr rfl) HT.out HB4.out HBW.out (Nat.le_trans HL.out HB4.out.size) h4 (by simp) rfl rfl)
  clear hb4 h4 HR1
  go_wp2_with fail
  refine HR2.out.mono ?_
  rintro e w5 ⟨⟨rfl, h5⟩, hb5⟩
  have HB5 := Lib.hid (HB4.out.trans (hb5.mono HBW.out))
  have HD1 := Lib.hid (two_done (n := 1) false 1 [1] (Or.inl rfl) (by simp) h5 rfl rfl)
  clear hb5 h5 HR2
  go_wp2_with fail
  refine HD1.out.mono ?_
  rintro e w6 ⟨⟨rfl, h6⟩, hb6⟩
  have HB6 := Lib.hid (HB5.out.trans (hb6.mono HBW.out))
  have HD2 := Lib.hid (two_done (n := 2) true 2 [2, 1] (Or.inr rfl) (by simp) h6 rfl rfl)
  clear hb6 h6 HD1
  go_wp2_with fail
  refine HD2.out.mono ?_
  rintro e w7 ⟨⟨rfl, s7, E7, h7, hp7, -⟩, hb7⟩
  have HB7 := Lib.hid (HB6.out.trans (hb7.mono HBW.out))
  have HPH := Lib.hid (phase_lit 2 k s7 w7 hp7 h7.var)
  clear hb7 h7 hp7 HD2
  go_wp2_with fail
  refine HPH.out.mono ?_
  rintro e w8 ⟨rfl, rfl⟩
  go_wp2_with fail
  go_ret
  exact ⟨rfl, HB7.out⟩
end Go.Proofs.YthdbilggnjjkhaaGreatDoor.Rpr

namespace Go.Proofs.YthdbilggnjjkhaaGreatDoor.Mut
open Go.RowKit Go.Sort Go.Proofs.YthdbilggnjjkhaaGreatDoor.Ord
set_option linter.unusedSectionVars false
variable [Inhabited Lim]

set_option maxHeartbeats 4000000 in
set_option maxRecDepth 100000 in
theorem great25_any (v : Value) (T : List Td) (w : World) (hv : TRow w v T) (hz : TSizes T) :
    Calls Tryz.prog 5 #[v] w fun e w' => e = .returned (.bool (great25 T)) ∧ w = w' := by
  obtain ⟨ao, cap, rfl, hc1, hc2⟩ := hv.form
  obtain ⟨n, hnn⟩ : ∃ n, n = T.length := ⟨_, rfl⟩
  obtain ⟨Q, hQ⟩ : ∃ Q, Q = great25 T := ⟨_, rfl⟩
  rw [← hQ]
  have hQ2 : Q = (decide (6 < n) || T.any fun x => greatF (x.l.map (·.1)) 15) := by rw [hQ, hnn]; rfl
  rw [← hnn] at hv hc1 ⊢
  unfold maxLen at hc2
  have hn9 : n ≤ 9223372036854775807 := by omega
  have HV := Lib.hid hv
  have HN := Lib.hid hnn
  have HZ := Lib.hid hz
  have HQ := Lib.hid hQ2
  clear hv hnn hQ hQ2 hz hc1 hc2
  by_cases hlt : 6 < n
  · have HE := Lib.hid (show true = Q by have := HQ.out; rw [decide_eq_true hlt] at this; rw [this]; rfl)
    have hd : decide ((6 : Int) < (n : Int)) = true := decide_eq_true (by omega)
    go_enter Tryz.func5, Tryz.ntmps5
    go_wp2_with fail
    go_ret
    exact ⟨ret_bool HE.out, rfl⟩
  · have HE := Lib.hid (show Q = (T.any fun x => greatF (x.l.map (·.1)) 15) by have := HQ.out; rw [decide_eq_false hlt, Bool.false_or] at this; exact this)
    clear HQ
    have hd : decide ((6 : Int) < (n : Int)) = false := decide_eq_false (by omega)
    go_enter Tryz.func5, Tryz.ntmps5
    go_wp2_with fail
    clear hd
    go_loop [3] (fun iv => ∃ k : Nat, k ≤ n ∧ iv = .int .i64 k ∧ Hid (((T.drop k).any fun x => greatF (x.l.map (·.1)) 15) = Q)) (fun iv => n - (intOf iv).toNat)
    case atStart => exact ⟨0, by omega, rfl, Lib.hid (by rw [HE.out]; rfl)⟩
    case round =>
      obtain ⟨k, hk, rfl, hi⟩ := hrel
      by_cases hlt2 : k < n
      · have hk1 : k < T.length := by have := HN.out; omega
        obtain ⟨xb, xoff, hao, hbl, a0, a1, a2, a3, a4⟩ := HV.out.get hk1
        cases hao
        have hxm := HV.out.ro T[k] (List.getElem_mem hk1)
        have hzm := HZ.out T[k] (List.getElem_mem hk1)
        have hst := hi.out
        rw [List.drop_eq_getElem_cons hk1, List.any_cons] at hst
        generalize T[k] = x at hxm hzm a0 a1 a2 a3 a4 hst
        obtain ⟨xv, xl, ⟨fp, fl, fw⟩, xq⟩ := x
        simp only [] at hxm hzm a0 a1 a2 a3 a4 hst
        obtain ⟨o1, c1, e1, -, -⟩ := hxm.form
        obtain ⟨G, hG⟩ : ∃ G, G = greatF (xl.map (·.1)) 15 := ⟨_, rfl⟩
        have hgr := great_any xv xl 15 _ hxm (by decide) (fun x hx => ⟨(hzm x hx).key, (hzm x hx).fin, (hzm x hx).val⟩)
        rw [← hG] at hst hgr
        obtain ⟨xn, hxn⟩ : ∃ c, c = xl.length := ⟨_, rfl⟩
        rw [← hxn] at e1
        subst e1
        have HGR := Lib.hid hgr
        have HST := Lib.hid hst
        clear hi hst hG hgr hxm hzm hxn
        go_wp2_with fail
        refine HGR.out.mono ?_
        rintro e w1 ⟨rfl, rfl⟩
        cases G
        · have HT := Lib.hid (show ((T.drop (k + 1)).any fun x => greatF (x.l.map (·.1)) 15) = Q from HST.out)
          go_wp2_with fail
          go_round
          case rel => exact ⟨k + 1, by omega, by go_num, HT⟩
          case measure => simp [intOf]; omega
        · have HT := Lib.hid (show true = Q from HST.out)
          go_wp2_with fail
          go_ret
          exact ⟨ret_bool HT.out, rfl⟩
      · obtain rfl : k = n := by omega
        have HT := Lib.hid (show false = Q by rw [← hi.out, List.drop_of_length_le (by have := HN.out; omega)]; rfl)
        go_wp2_with fail
        go_ret
        exact ⟨ret_bool HT.out, rfl⟩
end Go.Proofs.YthdbilggnjjkhaaGreatDoor.Mut
