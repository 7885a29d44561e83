/- Layer 30 (trace): Line, of a reply. PRINTED by wip/gentrcline.py. -/
import Derived.Test.YtljlbkichcjlfaaGreatDoorTrcLine
set_option linter.unusedSimpArgs false
set_option linter.unusedVariables false
namespace Go.Proofs.YtljlbkichcjlfaaGreatDoor.Trc
open Go.RowKit Go.Proofs.YtljlbkichcjlfaaGreatDoor.RegInv Go.Proofs.YtljlbkichcjlfaaGreatDoor.Mut Go.Proofs.YtljlbkichcjlfaaGreatDoor.Ints
set_option linter.unusedSectionVars false
variable [Inhabited Lim]


theorem rowsFrom_size : ∀ (R : List Rw) (acc : ByteArray), (∀ r ∈ R, r.key.size ≤ 1000 ∧ r.val.size ≤ 1000) → (rowsFrom R acc).size ≤ acc.size + 6004 * R.length
  | [], _, _ => by simp [rowsFrom]
  | r :: t, acc, h => by
    have h1 := rowsFrom_size t (acc ++ (spF ++ r.key ++ ⟨#[61]⟩ ++ quoteF r.val)) (fun x hx => h x (by simp [hx]))
    have h2 := quoteF_size r.val
    have h3 := h r (by simp)
    have h4 : spF.size = 1 := rfl
    have h5 : (⟨#[61]⟩ : ByteArray).size = 1 := rfl
    unfold rowsFrom
    simp only [ByteArray.size_append, List.length_cons] at h1 ⊢
    omega

set_option maxRecDepth 100000 in
set_option maxHeartbeats 2000000 in
theorem line_5 (e : Ev) (Q : List Int) (R : List Rw) (w : World) (hT : Tabs w) (hk : e.kind = 5) (hq : IRow w e.qv Q) (hr : WRow w e.rv R) (hql : Q.length ≤ 1000) (hrl : R.length ≤ 1000) (hrs : ∀ r ∈ R, r.key.size ≤ 1000 ∧ r.val.size ≤ 1000) : Calls Tryz.prog 8 #[vE e] w fun r w' => r = .returned (.string (lineF e Q R)) ∧ Below w.heap.size w w' := by
  have hL : lineF e Q R = rowsFrom R (reply0 e Q) := by unfold lineF; rw [hk]; rfl
  rw [hL]
  unfold reply0 line0
  rw [hk]
  have HT := Lib.hid hT
  have HNM := Lib.hid (fun W => name_any 5 W)
  clear hL hT
  obtain ⟨kind, node, rng, op, ⟨⟨mt, mk, mkey, mfin, mval, mexp, ⟨map, mal, maw⟩, movr⟩, mv⟩, ca, cb, cd, ⟨sp, sl, sw⟩, ⟨bp, bl, bw⟩, quar, why, qv, nv, no, table, key, fin, rv, cv⟩ := e
  simp only [] at hk hq hr
  subst hk
  unfold vE enE
  simp only []
  obtain ⟨qo, qc, rfl, -, -⟩ := Lst.form hq
  obtain ⟨ro, rc, rfl, -, -⟩ := Lst.form hr
  have HQN := Lib.hid (fun W (h : Below w.heap.size w W) => nodes_any qo qc Q W (hq.below h) hql)
  have HR := Lib.hid hr
  have HTN := Lib.hid (fun W => text_any node W)
  have HTO := Lib.hid (fun W => text_any op W)
  have HTW := Lib.hid (fun W => text_any why W)
  have HRS := Lib.hid hrs
  have z1 := textF_size node
  have z2 := textF_size op
  have z3 := textF_size why
  have z4 := nodesF_size Q
  have z5 := nameF_size 5
  have z6 : spF.size = 1 := rfl
  have hne : nameF 5 ≠ ⟨#[]⟩ := by intro h; have h2 := congrArg ByteArray.size h; revert h2; decide
  obtain ⟨nm, hnm⟩ : ∃ b, b = nameF 5 := ⟨_, rfl⟩
  rw [← hnm] at HNM z5 hne ⊢
  obtain ⟨tn, htn⟩ : ∃ b, b = textF node := ⟨_, rfl⟩
  rw [← htn] at HTN z1 ⊢
  obtain ⟨tq, hto⟩ : ∃ b, b = textF op := ⟨_, rfl⟩
  rw [← hto] at HTO z2 ⊢
  obtain ⟨tw, htw⟩ : ∃ b, b = textF why := ⟨_, rfl⟩
  rw [← htw] at HTW z3 ⊢
  obtain ⟨nn, hnn⟩ : ∃ b, b = nodesF Q := ⟨_, rfl⟩
  rw [← hnn] at HQN z4 ⊢
  have heq : nm.toList.isEmpty = false := by rw [← decide_eq_emptyBytes]; exact decide_eq_false hne
  clear hnm htn hto htw hnn hne hq hr hrs
  have k0 : (spF ++ tn).size ≤ 21 := by rw [ByteArray.size_append]; omega
  have k1 : (nm ++ (spF ++ tn)).size ≤ 31 := by rw [ByteArray.size_append]; omega
  have k2 : (spF ++ tq).size ≤ 21 := by rw [ByteArray.size_append]; omega
  have k3 : (spF ++ tq ++ spF).size ≤ 22 := by rw [ByteArray.size_append]; omega
  have k4 : (spF ++ tq ++ spF ++ tw).size ≤ 42 := by rw [ByteArray.size_append]; omega
  have k5 : (nm ++ (spF ++ tn) ++ (spF ++ tq ++ spF ++ tw)).size ≤ 73 := by rw [ByteArray.size_append]; omega
  have k6 : (spF ++ nn).size ≤ 21001 := by rw [ByteArray.size_append]; omega
  obtain ⟨nQ, hnQ⟩ : ∃ n, n = Q.length := ⟨_, rfl⟩
  obtain ⟨nR, hnR⟩ : ∃ n, n = R.length := ⟨_, rfl⟩
  have HNR := Lib.hid hnR
  rw [← hnQ] at hql HQN z4 ⊢
  rw [← hnR] at hrl HR ⊢
  clear hnQ hnR
  obtain ⟨W0, hW0⟩ : ∃ W0, W0 = w.alloc (.cells #[.int .i64 5, .int .i64 node, .int .i64 rng, .int .i64 op, .int .i64 mt, .int .i64 mk, .string mkey, .string mfin, .string mval, .int .i64 mexp, .int .i64 map, .int .i64 mal, .int .i64 maw, mv, ca, cb, cd, .int .i64 sp, .int .i64 sl, .int .i64 sw, .int .i64 bp, .int .i64 bl, .int .i64 bw, .bool quar, .int .i64 why, .slice qo nQ qc, nv, .int .i64 no, .int .i64 table, .string key, .string fin, .slice ro nR rc, cv] 39) := ⟨_, rfl⟩
  have HC := Lib.hid (show CellsAt W0 w.heap.size [.int .i64 5, .int .i64 node, .int .i64 rng, .int .i64 op, .int .i64 mt, .int .i64 mk, .string mkey, .string mfin, .string mval, .int .i64 mexp, .int .i64 map, .int .i64 mal, .int .i64 maw, mv, ca, cb, cd, .int .i64 sp, .int .i64 sl, .int .i64 sw, .int .i64 bp, .int .i64 bl, .int .i64 bw, .bool quar, .int .i64 why, .slice qo nQ qc, nv, .int .i64 no, .int .i64 table, .string key, .string fin, .slice ro nR rc, cv] from by rw [hW0]; exact CellsAt.new w [.int .i64 5, .int .i64 node, .int .i64 rng, .int .i64 op, .int .i64 mt, .int .i64 mk, .string mkey, .string mfin, .string mval, .int .i64 mexp, .int .i64 map, .int .i64 mal, .int .i64 maw, mv, ca, cb, cd, .int .i64 sp, .int .i64 sl, .int .i64 sw, .int .i64 bp, .int .i64 bl, .int .i64 bw, .bool quar, .int .i64 why, .slice qo nQ qc, nv, .int .i64 no, .int .i64 table, .string key, .string fin, .slice ro nR rc, cv] 39)
  have HB0 := Lib.hid (show Below w.heap.size w W0 by rw [hW0]; exact (Below.refl _ w).alloc (Nat.le_refl _) _)
  have HW := Lib.hid hW0
  clear hW0
  obtain ⟨F, hF⟩ : ∃ F, F = rowsFrom R (if nQ = 0 then nm ++ (spF ++ tn) ++ (spF ++ tq ++ spF ++ tw) else nm ++ (spF ++ tn) ++ (spF ++ tq ++ spF ++ tw) ++ (spF ++ nn)) := ⟨_, rfl⟩
  rw [← hF]
  have HF := Lib.hid hF
  clear hF
  go_enter Tryz.func8, Tryz.ntmps8
  go_upto_region 1 with fail
  rw [← HW.out]
  have s0 := HC.out.get 0 _ rfl
  go_wp2_with fail
  refine (HNM.out W0).mono ?_
  rintro e w1 ⟨rfl, hb1⟩
  have HC1 := Lib.hid (HC.out.below hb1)
  have HB1 := Lib.hid (below_then HB0.out (Nat.le_refl _) hb1)
  clear hb1 s0
  have s1 := HC1.out.get 1 _ rfl
  go_wp2_with fail
  refine (HTN.out w1).mono ?_
  rintro e w2 ⟨rfl, hb2⟩
  have HC2 := Lib.hid (HC1.out.below hb2)
  have HB2 := Lib.hid (below_then HB1.out (Nat.le_refl _) hb2)
  clear hb2 s1
  have s0 := HC2.out.get 0 _ rfl
  go_upto_region 21 with fail
  refine wp_region_told [] 11 [false, false, false, false, false, false, false, false, false, false, false, false, false, false, false, false, false, false, false, false, false, false, false, false, false, false, false, false, false, false, false, false, false, false, false, false, false, false, false, false, false, false, false, false, false, false, false, false, false, false, false, false, false, false, false, false, false, false, false, false, false, false, false, false, false, false, false, false, false, false, false, false, false, false, false, false, false, false, false, false, true, true, true, true, true, true, true, true, true, true, true, false, false, false, false, false, false, false, false, false, false, false, false, false, false, false, false, false, false, false, false, false, false, false, false, false, false, false, false, false]
    [sLit (.string (nm ++ (spF ++ tn))),
    sLit (.pointer (some ⟨w.heap.size, 3, none⟩)),
    sLit (.int .i64 op),
    sLit (.string tq),
    sLit (.string (spF ++ tq)),
    sLit (.string ((spF ++ tq) ++ spF)),
    sLit (.pointer (some ⟨w.heap.size, 24, none⟩)),
    sLit (.int .i64 why),
    sLit (.string tw),
    sLit (.string (((spF ++ tq) ++ spF) ++ tw)),
    sLit (.string ((nm ++ (spF ++ tn)) ++ (((spF ++ tq) ++ spF) ++ tw)))] (by kernel_rfl) (by kernel_rfl) (by kernel_rfl) (fun F hF => ?_)
  simp only [over, overL, Nat.reduceAdd] at hF
  obtain rfl := funext hF
  clear hF
  refine ⟨⟨?_, ?_, ?_, ?_, ?_, ?_, ?_, ?_, ?_, ?_, ?_, trivial⟩, ?_⟩
  · intro V W hb hd K hK _
    clear hd
    go_wp2_with fail
    refine hK _ _ ?_ ?_ ?_ ?_
    · rfl
    · exact Below.refl _ _
    · exact rfl
    · trivial
  · intro V W hb hd K hK _
    clear hd
    go_wp2_with fail
    refine hK _ _ ?_ ?_ ?_ ?_
    · rfl
    · exact Below.refl _ _
    · exact rfl
    · trivial
  · intro V W hb hd K hK _
    have h1 : (V 81) = .pointer (some ⟨w.heap.size, 3, none⟩) := hd 1 (by kernel_rfl)
    clear hd
    have s3 := (HC2.out.below hb).get 3 _ rfl
    go_wp2_with fail
    refine hK _ _ ?_ ?_ ?_ ?_
    · rfl
    · exact Below.refl _ _
    · exact rfl
    · trivial
  · intro V W hb hd K hK _
    have h2 : (V 82) = .int .i64 op := hd 2 (by kernel_rfl)
    clear hd
    go_wp2_with fail
    refine (HTO.out W).mono ?_
    rintro e w1 ⟨rfl, hb1⟩
    go_wp2_with fail
    refine hK _ _ ?_ ?_ ?_ ?_
    · rfl
    · exact hb1
    · exact rfl
    · trivial
  · intro V W hb hd K hK _
    have h3 : (V 83) = .string tq := hd 3 (by kernel_rfl)
    clear hd
    go_wp2_with fail
    refine hK _ _ ?_ ?_ ?_ ?_
    · rfl
    · exact Below.refl _ _
    · exact rfl
    · trivial
  · intro V W hb hd K hK _
    have h4 : (V 84) = .string (spF ++ tq) := hd 4 (by kernel_rfl)
    clear hd
    go_wp2_with fail
    refine hK _ _ ?_ ?_ ?_ ?_
    · rfl
    · exact Below.refl _ _
    · exact rfl
    · trivial
  · intro V W hb hd K hK _
    clear hd
    go_wp2_with fail
    refine hK _ _ ?_ ?_ ?_ ?_
    · rfl
    · exact Below.refl _ _
    · exact rfl
    · trivial
  · intro V W hb hd K hK _
    have h6 : (V 86) = .pointer (some ⟨w.heap.size, 24, none⟩) := hd 6 (by kernel_rfl)
    clear hd
    have s24 := (HC2.out.below hb).get 24 _ rfl
    go_wp2_with fail
    refine hK _ _ ?_ ?_ ?_ ?_
    · rfl
    · exact Below.refl _ _
    · exact rfl
    · trivial
  · intro V W hb hd K hK _
    have h7 : (V 87) = .int .i64 why := hd 7 (by kernel_rfl)
    clear hd
    go_wp2_with fail
    refine (HTW.out W).mono ?_
    rintro e w1 ⟨rfl, hb1⟩
    go_wp2_with fail
    refine hK _ _ ?_ ?_ ?_ ?_
    · rfl
    · exact hb1
    · exact rfl
    · trivial
  · intro V W hb hd K hK _
    have h5 : (V 85) = .string ((spF ++ tq) ++ spF) := hd 5 (by kernel_rfl)
    have h8 : (V 88) = .string tw := hd 8 (by kernel_rfl)
    clear hd
    go_wp2_with fail
    refine hK _ _ ?_ ?_ ?_ ?_
    · rfl
    · exact Below.refl _ _
    · exact rfl
    · trivial
  · intro V W hb hd K hK _
    have h0 : (V 80) = .string (nm ++ (spF ++ tn)) := hd 0 (by kernel_rfl)
    have h9 : (V 89) = .string (((spF ++ tq) ++ spF) ++ tw) := hd 9 (by kernel_rfl)
    clear hd
    go_wp2_with fail
    refine hK _ _ ?_ ?_ ?_ ?_
    · rfl
    · exact Below.refl _ _
    · exact rfl
    · trivial
  · intro V W hb hd hap
    have h10 : (V 90) = .string ((nm ++ (spF ++ tn)) ++ (((spF ++ tq) ++ spF) ++ tw)) := hd 10 (by decide)
    clear hd hap
    simp only [List.drop_succ_cons, List.drop_zero]
    have HC3 := Lib.hid (HC2.out.below hb)
    have HB3 := Lib.hid (below_then HB2.out (Nat.le_refl _) hb)
    clear hb s0
    have s25 := HC3.out.get 25 _ rfl
    by_cases h0 : nQ = 0
    · have hd : ¬ ((0 : Int) < (nQ : Int)) := by omega
      have HE := Lib.hid (show rowsFrom (R.drop 0) (nm ++ (spF ++ tn) ++ (spF ++ tq ++ spF ++ tw)) = F from by rw [HF.out, if_pos h0]; rfl)
      have s31 := HC3.out.get 31 _ rfl
      clear h0
      go_wp2_with fail
      clear hd s25 s31
      go_loopw [3, 104] (fun sv iv wr => ∃ (k : Nat) (acc : ByteArray), k ≤ nR ∧ iv = .int .i64 k ∧ sv = .string acc ∧ acc.size ≤ 30000 + 6004 * k ∧ Hid (rowsFrom (R.drop k) acc = F) ∧ Hid (Below w.heap.size w wr)) (fun _ iv _ => nR - (intOf iv).toNat)
      case atStart => exact ⟨0, nm ++ (spF ++ tn) ++ (spF ++ tq ++ spF ++ tw), by omega, rfl, rfl, by omega, HE, HB3⟩
      case round =>
        obtain ⟨k, acc, hk, rfl, rfl, hz, hq, hbl⟩ := hrel
        by_cases hlt : k < nR
        · have hkl : k < R.length := by have := HNR.out; omega
          obtain ⟨x, hx⟩ : ∃ x, R[k]? = some x := ⟨_, List.getElem?_eq_getElem hkl⟩
          obtain ⟨rb, roff, rfl, hat⟩ := WRow.at_ (HR.out.below hbl.out) hx
          obtain ⟨y1, y2⟩ := HRS.out x (List.mem_of_getElem? hx)
          have hst : rowsFrom (R.drop k) acc = rowsFrom (R.drop (k + 1)) (acc ++ (spF ++ x.key ++ ⟨#[61]⟩ ++ quoteF x.val)) := by
            rw [List.drop_eq_getElem_cons hkl, rowsFrom]
            rw [List.getElem?_eq_getElem hkl] at hx
            injection hx with hx
            rw [hx]
          have HQU := Lib.hid (fun W (h : Tabs W) => quote_any x.val W h (by omega))
          have hqz := quoteF_size x.val
          obtain ⟨hlb, c0, c1, c2, c3, c4⟩ := hat
          have HB := Lib.hid hbl.out
          have HQ := Lib.hid (hst.symm.trans hq.out)
          clear hx hst hq hbl
          obtain ⟨xk, xv, ⟨xp, xl, xw⟩⟩ := x
          simp only [] at c0 c1 c2 c3 c4 y1 y2 HQU hqz HQ
          obtain ⟨qq, hqq⟩ : ∃ b, b = quoteF xv := ⟨_, rfl⟩
          rw [← hqq] at HQU hqz HQ
          clear hqq
          obtain ⟨W5, hW5⟩ : ∃ W5, W5 = wr.alloc (.cells #[.string xk, .string xv, .int .i64 xp, .int .i64 xl, .int .i64 xw] 49) := ⟨_, rfl⟩
          have HCX := Lib.hid (show CellsAt W5 wr.heap.size [.string xk, .string xv, .int .i64 xp, .int .i64 xl, .int .i64 xw] from by rw [hW5]; exact CellsAt.new wr [.string xk, .string xv, .int .i64 xp, .int .i64 xl, .int .i64 xw] 49)
          have HB5 := Lib.hid (show Below w.heap.size w W5 from by rw [hW5]; exact HB.out.alloc HB.out.size _)
          have HW5 := Lib.hid hW5
          have j0 : (⟨#[61]⟩ : ByteArray).size = 1 := rfl
          have j1 : (spF ++ xk).size ≤ 1001 := by rw [ByteArray.size_append]; omega
          have j2 : (spF ++ xk ++ ⟨#[61]⟩).size ≤ 1002 := by rw [ByteArray.size_append]; omega
          have j3 : (spF ++ xk ++ ⟨#[61]⟩ ++ qq).size ≤ 6004 := by rw [ByteArray.size_append]; omega
          clear hW5
          go_upto_region 27 with fail
          rw [← HW5.out]
          clear c0 c1 c2 c3 c4
          refine wp_region_told [] 10 [false, false, false, false, false, false, false, false, false, false, false, false, false, false, false, false, false, false, false, false, false, false, false, false, false, false, false, false, false, false, false, false, false, false, false, false, false, false, false, false, false, false, false, false, false, false, false, false, false, false, false, false, false, false, false, false, false, false, false, false, false, false, false, false, false, false, false, false, false, false, false, false, false, false, false, false, false, false, false, false, false, false, false, false, false, false, false, false, false, false, false, false, false, false, false, false, false, false, false, false, false, false, false, false, false, false, false, false, true, true, true, true, true, true, true, true, true, true, false, false]
            [sLit (.string acc),
          sLit (.pointer (some ⟨wr.heap.size, 0, none⟩)),
          sLit (.string xk),
          sLit (.string (spF ++ xk)),
          sLit (.string ((spF ++ xk) ++ ⟨#[61]⟩)),
          sLit (.pointer (some ⟨wr.heap.size, 1, none⟩)),
          sLit (.string xv),
          sLit (.string qq),
          sLit (.string (((spF ++ xk) ++ ⟨#[61]⟩) ++ qq)),
          sLit (.string (acc ++ (((spF ++ xk) ++ ⟨#[61]⟩) ++ qq)))] (by kernel_rfl) (by kernel_rfl) (by kernel_rfl) (fun F hF => ?_)
          simp only [over, overL, Nat.reduceAdd] at hF
          obtain rfl := funext hF
          clear hF
          refine ⟨⟨?_, ?_, ?_, ?_, ?_, ?_, ?_, ?_, ?_, ?_, trivial⟩, ?_⟩
          · intro V W hb hd K hK _
            clear hd
            go_wp2_with fail
            refine hK _ _ ?_ ?_ ?_ ?_
            · rfl
            · exact Below.refl _ _
            · exact rfl
            · trivial
          · intro V W hb hd K hK _
            clear hd
            go_wp2_with fail
            refine hK _ _ ?_ ?_ ?_ ?_
            · rfl
            · exact Below.refl _ _
            · exact rfl
            · trivial
          · intro V W hb hd K hK _
            have h1 : (V 109) = .pointer (some ⟨wr.heap.size, 0, none⟩) := hd 1 (by kernel_rfl)
            clear hd
            have s0 := (HCX.out.below hb).get 0 _ rfl
            go_wp2_with fail
            refine hK _ _ ?_ ?_ ?_ ?_
            · rfl
            · exact Below.refl _ _
            · exact rfl
            · trivial
          · intro V W hb hd K hK _
            have h2 : (V 110) = .string xk := hd 2 (by kernel_rfl)
            clear hd
            go_wp2_with fail
            refine hK _ _ ?_ ?_ ?_ ?_
            · rfl
            · exact Below.refl _ _
            · exact rfl
            · trivial
          · intro V W hb hd K hK _
            have h3 : (V 111) = .string (spF ++ xk) := hd 3 (by kernel_rfl)
            clear hd
            go_wp2_with fail
            refine hK _ _ ?_ ?_ ?_ ?_
            · rfl
            · exact Below.refl _ _
            · exact rfl
            · trivial
          · intro V W hb hd K hK _
            clear hd
            go_wp2_with fail
            refine hK _ _ ?_ ?_ ?_ ?_
            · rfl
            · exact Below.refl _ _
            · exact rfl
            · trivial
          · intro V W hb hd K hK _
            have h5 : (V 113) = .pointer (some ⟨wr.heap.size, 1, none⟩) := hd 5 (by kernel_rfl)
            clear hd
            have s1 := (HCX.out.below hb).get 1 _ rfl
            go_wp2_with fail
            refine hK _ _ ?_ ?_ ?_ ?_
            · rfl
            · exact Below.refl _ _
            · exact rfl
            · trivial
          · intro V W hb hd K hK _
            have h6 : (V 114) = .string xv := hd 6 (by kernel_rfl)
            clear hd
            go_wp2_with fail
            refine (HQU.out W (HT.out.below (HB5.out.trans (hb.mono HB5.out.size)))).mono ?_
            rintro e w1 ⟨rfl, hb1⟩
            go_wp2_with fail
            refine hK _ _ ?_ ?_ ?_ ?_
            · rfl
            · exact hb1
            · exact rfl
            · trivial
          · intro V W hb hd K hK _
            have h4 : (V 112) = .string ((spF ++ xk) ++ ⟨#[61]⟩) := hd 4 (by kernel_rfl)
            have h7 : (V 115) = .string qq := hd 7 (by kernel_rfl)
            clear hd
            go_wp2_with fail
            refine hK _ _ ?_ ?_ ?_ ?_
            · rfl
            · exact Below.refl _ _
            · exact rfl
            · trivial
          · intro V W hb hd K hK _
            have h0 : (V 108) = .string acc := hd 0 (by kernel_rfl)
            have h8 : (V 116) = .string (((spF ++ xk) ++ ⟨#[61]⟩) ++ qq) := hd 8 (by kernel_rfl)
            clear hd
            go_wp2_with fail
            refine hK _ _ ?_ ?_ ?_ ?_
            · rfl
            · exact Below.refl _ _
            · exact rfl
            · trivial
          · intro V W hb hd hap
            have h9 : (V 117) = .string (acc ++ (((spF ++ xk) ++ ⟨#[61]⟩) ++ qq)) := hd 9 (by decide)
            clear hd hap
            simp only [List.drop_succ_cons, List.drop_zero]
            have HB6 := Lib.hid (below_then HB5.out (Nat.le_refl _) hb)
            clear hb
            go_wp2_with fail
            go_roundw
            case rel => exact ⟨k + 1, _, by omega, by go_num, rfl, by rw [ByteArray.size_append]; omega, HQ, HB6⟩
            case measure => simp [intOf]; omega
        · have hkn : R.drop k = [] := List.drop_eq_nil_of_le (by have := HNR.out; omega)
          have HQ := Lib.hid (show acc = F from by rw [← hq.out, hkn]; rfl)
          have HB := Lib.hid hbl.out
          clear hkn hq hbl
          go_wp2_with fail
          go_ret
          exact ⟨by rw [← HQ.out]; rfl, HB.out⟩
    · have hd : (0 : Int) < (nQ : Int) := by omega
      have HE := Lib.hid (show rowsFrom (R.drop 0) (nm ++ (spF ++ tn) ++ (spF ++ tq ++ spF ++ tw) ++ (spF ++ nn)) = F from by rw [HF.out, if_neg h0]; rfl)
      have k7 : (nm ++ (spF ++ tn) ++ (spF ++ tq ++ spF ++ tw) ++ (spF ++ nn)).size ≤ 21074 := by rw [ByteArray.size_append]; omega
      clear h0
      go_wp2_with fail
      refine (HQN.out W HB3.out).mono ?_
      rintro e w4 ⟨rfl, hb4⟩
      have HB4 := Lib.hid (below_then HB3.out (Nat.le_refl _) hb4)
      have HC4 := Lib.hid (HC3.out.below hb4)
      clear hb4 s25
      have s31 := HC4.out.get 31 _ rfl
      go_wp2_with fail
      clear hd s31
      go_loopw [3, 104] (fun sv iv wr => ∃ (k : Nat) (acc : ByteArray), k ≤ nR ∧ iv = .int .i64 k ∧ sv = .string acc ∧ acc.size ≤ 30000 + 6004 * k ∧ Hid (rowsFrom (R.drop k) acc = F) ∧ Hid (Below w.heap.size w wr)) (fun _ iv _ => nR - (intOf iv).toNat)
      case atStart => exact ⟨0, nm ++ (spF ++ tn) ++ (spF ++ tq ++ spF ++ tw) ++ (spF ++ nn), by omega, rfl, rfl, by omega, HE, HB4⟩
      case round =>
        obtain ⟨k, acc, hk, rfl, rfl, hz, hq, hbl⟩ := hrel
        by_cases hlt : k < nR
        · have hkl : k < R.length := by have := HNR.out; omega
          obtain ⟨x, hx⟩ : ∃ x, R[k]? = some x := ⟨_, List.getElem?_eq_getElem hkl⟩
          obtain ⟨rb, roff, rfl, hat⟩ := WRow.at_ (HR.out.below hbl.out) hx
          obtain ⟨y1, y2⟩ := HRS.out x (List.mem_of_getElem? hx)
          have hst : rowsFrom (R.drop k) acc = rowsFrom (R.drop (k + 1)) (acc ++ (spF ++ x.key ++ ⟨#[61]⟩ ++ quoteF x.val)) := by
            rw [List.drop_eq_getElem_cons hkl, rowsFrom]
            rw [List.getElem?_eq_getElem hkl] at hx
            injection hx with hx
            rw [hx]
          have HQU := Lib.hid (fun W (h : Tabs W) => quote_any x.val W h (by omega))
          have hqz := quoteF_size x.val
          obtain ⟨hlb, c0, c1, c2, c3, c4⟩ := hat
          have HB := Lib.hid hbl.out
          have HQ := Lib.hid (hst.symm.trans hq.out)
          clear hx hst hq hbl
          obtain ⟨xk, xv, ⟨xp, xl, xw⟩⟩ := x
          simp only [] at c0 c1 c2 c3 c4 y1 y2 HQU hqz HQ
          obtain ⟨qq, hqq⟩ : ∃ b, b = quoteF xv := ⟨_, rfl⟩
          rw [← hqq] at HQU hqz HQ
          clear hqq
          obtain ⟨W5, hW5⟩ : ∃ W5, W5 = wr.alloc (.cells #[.string xk, .string xv, .int .i64 xp, .int .i64 xl, .int .i64 xw] 49) := ⟨_, rfl⟩
          have HCX := Lib.hid (show CellsAt W5 wr.heap.size [.string xk, .string xv, .int .i64 xp, .int .i64 xl, .int .i64 xw] from by rw [hW5]; exact CellsAt.new wr [.string xk, .string xv, .int .i64 xp, .int .i64 xl, .int .i64 xw] 49)
          have HB5 := Lib.hid (show Below w.heap.size w W5 from by rw [hW5]; exact HB.out.alloc HB.out.size _)
          have HW5 := Lib.hid hW5
          have j0 : (⟨#[61]⟩ : ByteArray).size = 1 := rfl
          have j1 : (spF ++ xk).size ≤ 1001 := by rw [ByteArray.size_append]; omega
          have j2 : (spF ++ xk ++ ⟨#[61]⟩).size ≤ 1002 := by rw [ByteArray.size_append]; omega
          have j3 : (spF ++ xk ++ ⟨#[61]⟩ ++ qq).size ≤ 6004 := by rw [ByteArray.size_append]; omega
          clear hW5
          go_upto_region 27 with fail
          rw [← HW5.out]
          clear c0 c1 c2 c3 c4
          refine wp_region_told [] 10 [false, false, false, false, false, false, false, false, false, false, false, false, false, false, false, false, false, false, false, false, false, false, false, false, false, false, false, false, false, false, false, false, false, false, false, false, false, false, false, false, false, false, false, false, false, false, false, false, false, false, false, false, false, false, false, false, false, false, false, false, false, false, false, false, false, false, false, false, false, false, false, false, false, false, false, false, false, false, false, false, false, false, false, false, false, false, false, false, false, false, false, false, false, false, false, false, false, false, false, false, false, false, false, false, false, false, false, false, true, true, true, true, true, true, true, true, true, true, false, false]
            [sLit (.string acc),
          sLit (.pointer (some ⟨wr.heap.size, 0, none⟩)),
          sLit (.string xk),
          sLit (.string (spF ++ xk)),
          sLit (.string ((spF ++ xk) ++ ⟨#[61]⟩)),
          sLit (.pointer (some ⟨wr.heap.size, 1, none⟩)),
          sLit (.string xv),
          sLit (.string qq),
          sLit (.string (((spF ++ xk) ++ ⟨#[61]⟩) ++ qq)),
          sLit (.string (acc ++ (((spF ++ xk) ++ ⟨#[61]⟩) ++ qq)))] (by kernel_rfl) (by kernel_rfl) (by kernel_rfl) (fun F hF => ?_)
          simp only [over, overL, Nat.reduceAdd] at hF
          obtain rfl := funext hF
          clear hF
          refine ⟨⟨?_, ?_, ?_, ?_, ?_, ?_, ?_, ?_, ?_, ?_, trivial⟩, ?_⟩
          · intro V W hb hd K hK _
            clear hd
            go_wp2_with fail
            refine hK _ _ ?_ ?_ ?_ ?_
            · rfl
            · exact Below.refl _ _
            · exact rfl
            · trivial
          · intro V W hb hd K hK _
            clear hd
            go_wp2_with fail
            refine hK _ _ ?_ ?_ ?_ ?_
            · rfl
            · exact Below.refl _ _
            · exact rfl
            · trivial
          · intro V W hb hd K hK _
            have h1 : (V 109) = .pointer (some ⟨wr.heap.size, 0, none⟩) := hd 1 (by kernel_rfl)
            clear hd
            have s0 := (HCX.out.below hb).get 0 _ rfl
            go_wp2_with fail
            refine hK _ _ ?_ ?_ ?_ ?_
            · rfl
            · exact Below.refl _ _
            · exact rfl
            · trivial
          · intro V W hb hd K hK _
            have h2 : (V 110) = .string xk := hd 2 (by kernel_rfl)
            clear hd
            go_wp2_with fail
            refine hK _ _ ?_ ?_ ?_ ?_
            · rfl
            · exact Below.refl _ _
            · exact rfl
            · trivial
          · intro V W hb hd K hK _
            have h3 : (V 111) = .string (spF ++ xk) := hd 3 (by kernel_rfl)
            clear hd
            go_wp2_with fail
            refine hK _ _ ?_ ?_ ?_ ?_
            · rfl
            · exact Below.refl _ _
            · exact rfl
            · trivial
          · intro V W hb hd K hK _
            clear hd
            go_wp2_with fail
            refine hK _ _ ?_ ?_ ?_ ?_
            · rfl
            · exact Below.refl _ _
            · exact rfl
            · trivial
          · intro V W hb hd K hK _
            have h5 : (V 113) = .pointer (some ⟨wr.heap.size, 1, none⟩) := hd 5 (by kernel_rfl)
            clear hd
            have s1 := (HCX.out.below hb).get 1 _ rfl
            go_wp2_with fail
            refine hK _ _ ?_ ?_ ?_ ?_
            · rfl
            · exact Below.refl _ _
            · exact rfl
            · trivial
          · intro V W hb hd K hK _
            have h6 : (V 114) = .string xv := hd 6 (by kernel_rfl)
            clear hd
            go_wp2_with fail
            refine (HQU.out W (HT.out.below (HB5.out.trans (hb.mono HB5.out.size)))).mono ?_
            rintro e w1 ⟨rfl, hb1⟩
            go_wp2_with fail
            refine hK _ _ ?_ ?_ ?_ ?_
            · rfl
            · exact hb1
            · exact rfl
            · trivial
          · intro V W hb hd K hK _
            have h4 : (V 112) = .string ((spF ++ xk) ++ ⟨#[61]⟩) := hd 4 (by kernel_rfl)
            have h7 : (V 115) = .string qq := hd 7 (by kernel_rfl)
            clear hd
            go_wp2_with fail
            refine hK _ _ ?_ ?_ ?_ ?_
            · rfl
            · exact Below.refl _ _
            · exact rfl
            · trivial
          · intro V W hb hd K hK _
            have h0 : (V 108) = .string acc := hd 0 (by kernel_rfl)
            have h8 : (V 116) = .string (((spF ++ xk) ++ ⟨#[61]⟩) ++ qq) := hd 8 (by kernel_rfl)
            clear hd
            go_wp2_with fail
            refine hK _ _ ?_ ?_ ?_ ?_
            · rfl
            · exact Below.refl _ _
            · exact rfl
            · trivial
          · intro V W hb hd hap
            have h9 : (V 117) = .string (acc ++ (((spF ++ xk) ++ ⟨#[61]⟩) ++ qq)) := hd 9 (by decide)
            clear hd hap
            simp only [List.drop_succ_cons, List.drop_zero]
            have HB6 := Lib.hid (below_then HB5.out (Nat.le_refl _) hb)
            clear hb
            go_wp2_with fail
            go_roundw
            case rel => exact ⟨k + 1, _, by omega, by go_num, rfl, by rw [ByteArray.size_append]; omega, HQ, HB6⟩
            case measure => simp [intOf]; omega
        · have hkn : R.drop k = [] := List.drop_eq_nil_of_le (by have := HNR.out; omega)
          have HQ := Lib.hid (show acc = F from by rw [← hq.out, hkn]; rfl)
          have HB := Lib.hid hbl.out
          clear hkn hq hbl
          go_wp2_with fail
          go_ret
          exact ⟨by rw [← HQ.out]; rfl, HB.out⟩

/-- An event as a line, whatever its kind. -/
theorem line_any (e : Ev) (Q : List Int) (R : List Rw) (w : World) (hT : Tabs w) (hm : Small e.m.1) (hq : IRow w e.qv Q) (hr : WRow w e.rv R) (hql : Q.length ≤ 1000) (hrl : R.length ≤ 1000) (hrs : ∀ r ∈ R, r.key.size ≤ 1000 ∧ r.val.size ≤ 1000) : Calls Tryz.prog 8 #[vE e] w fun r w' => r = .returned (.string (lineF e Q R)) ∧ Below w.heap.size w w' := by
  by_cases h1 : e.kind = 1
  · exact line_1 e Q R w hT h1 hm
  by_cases h2 : e.kind = 2
  · exact line_2 e Q R w hT h2 hm
  by_cases h3 : e.kind = 3
  · exact line_3 e Q R w hT h3 hm
  by_cases h4 : e.kind = 4
  · exact line_4 e Q R w hT h4 hm
  by_cases h5 : e.kind = 5
  · exact line_5 e Q R w hT h5 hq hr hql hrl hrs
  by_cases h6 : e.kind = 6
  · exact line_6 e Q R w hT h6 hm
  by_cases h7 : e.kind = 7
  · exact line_7 e Q R w hT h7 hm
  by_cases h8 : e.kind = 8
  · exact line_8 e Q R w hT h8 hm
  by_cases h9 : e.kind = 9
  · exact line_9 e Q R w hT h9 hm
  by_cases h10 : e.kind = 10
  · exact line_10 e Q R w hT h10 hm
  by_cases h11 : e.kind = 11
  · exact line_11 e Q R w hT h11 hm
  exact line_none e Q R w fun i a b h => by omega
end Go.Proofs.YtljlbkichcjlfaaGreatDoor.Trc
