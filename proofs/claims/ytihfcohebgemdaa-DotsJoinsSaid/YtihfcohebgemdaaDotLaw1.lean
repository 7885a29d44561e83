/- Layer 6 (dots): the document's Rest, Same; the law's rows, is, alive. -/
import Derived.Test.YtihfcohebgemdaaDotRef
import Derived.Test.YtihfcohebgemdaaDotJoin2
import Derived.Test.YtihfcohebgemdaaVecIsO
set_option linter.unusedSimpArgs false
set_option linter.unusedVariables false
namespace Go.Proofs.Ytihfcohebgemdaa.Dots
open Go.RowKit Go.Maps Go.Sort Go.Proofs.Ytihfcohebgemdaa.Vec Go.Proofs.Ytihfcohebgemdaa.Spare

theorem ovr_snoc (k l : List P) (x : P) : ovr k (l ++ [x]) = ovr k l ++ (if getF k x.who < x.n then [x] else []) := by
  unfold ovr
  rw [List.filter_append, List.filter_cons, List.filter_nil]
  by_cases h : getF k x.who < x.n
  · rw [if_pos h, if_pos (decide_eq_true h)]
  · rw [if_neg h, if_neg (by simpa using h)]
set_option maxRecDepth 100000 in
set_option maxHeartbeats 4000000 in
theorem refrest_any (ao : Option Addr) (ac : Nat) (l : List P) (w : World) (ha : DRow w (.slice ao l.length ac) l) (hl : Nice l) :
    Calls Try.prog 37 #[.slice ao l.length ac] w (RowPost w (rs l)) := by
  have HA := Lib.hid ha
  have HK := Lib.hid (refknown_any ao ac l w ha hl)
  have h1 := hl.len
  have hkl := hl.kn.2.2
  have hgk := hl.kn.1
  have HGK := Lib.hid hgk
  obtain ⟨i0, hi, hz0, hz1, hz2⟩ := info_parts info_R
  have HI := Lib.hid (And.intro hi (And.intro hz0 (And.intro hz1 hz2)))
  clear ha hl hi hz0 hz1 hz2 hgk
  obtain ⟨K, hK⟩ : ∃ K, K = kn l := ⟨_, rfl⟩
  have HRS := Lib.hid (show rs l = ovr K l from by rw [hK]; rfl)
  rw [← hK] at HK hkl HGK
  clear hK
  go_enter Try.func37, Try.ntmps37
  go_wp2_with fail
  refine HK.out.mono ?_
  rintro e w1 ⟨vk, rfl, hk1, hb1⟩
  obtain ⟨ko, kc, rfl, -, -⟩ := Lst.form hk1
  have HK1 := Lib.hid hk1
  have HB1 := Lib.hid hb1
  clear hk1 hb1
  go_wp2_with fail
  go_loopw [3, 5] (fun ov iv wr => ∃ (k : Nat), k ≤ l.length ∧ iv = .int .i64 k ∧ Hid (wr.ownsRow w1.heap.size 42 2 ov (ovr K (l.take k)).length ((ovr K (l.take k)).flatMap enD)) ∧ Below w1.heap.size w1 wr) (fun _ iv _ => l.length - (vInt iv).toNat)
  case atStart => exact ⟨0, by omega, rfl, Lib.hid (World.ownsRow_nil _ _ _ _), Below.refl _ _⟩
  case round =>
    obtain ⟨k, hk, rfl, hown, hbl⟩ := hrel
    have hsz := hbl.size
    by_cases hlt : k < l.length
    · have HA' := Lib.hid (Lst.below HA.out (HB1.out.trans (hbl.mono HB1.out.size)))
      have hk1 := Lst.below HK1.out hbl
      obtain ⟨ab, aoff, rfl, hab, a0, a1⟩ := dot_at HA'.out (List.getElem?_eq_getElem hlt)
      have htk := List.take_succ_eq_append_getElem hlt
      obtain ⟨y, hy⟩ : ∃ y, y = l[k] := ⟨_, rfl⟩
      rw [← hy] at a0 a1 htk
      have HP := Lib.hid (show ovr K (l.take (k + 1)) = ovr K (l.take k) ++ (if getF K y.who < y.n then [y] else []) from by rw [htk, ovr_snoc])
      have hle : (ovr K (l.take k)).length ≤ 250 := by have := over_len K (l.take k); have h3 := List.length_take_le k l; omega
      have HK2 := Lib.hid hk1
      clear hy htk hk1
      generalize ovr K (l.take k) = out at *
      obtain ⟨m, hm⟩ : ∃ m, getF K y.who = m := ⟨_, rfl⟩
      rw [hm] at HP
      by_cases hc : m < y.n
      · have HPO := Lib.hid (show ovr K (l.take (k + 1)) = out ++ [y] from by rw [HP.out, if_pos hc])
        clear HP
        go_wp2_with fail
        refine wp_region_calm (by kernel_rfl) (by kernel_rfl) ?_
        repeat (go_big_quiet_step (first | (go_at_call 71; exact calm_same (get_lit m _ _ _ _ _ hm (Lst.below HK2.out (BW.below _)) (by omega)))))
        refine wpQuiet_nil ?_
        rintro _ ⟨z, rfl⟩
        have c0 := (z.below.cell (p := ⟨ab, aoff + k * 2, none⟩) hab).trans a0
        have c1 := (z.below.cell (p := ⟨ab, aoff + k * 2 + 1, none⟩) hab).trans a1
        have hab2 : ab < z.at.heap.size := Nat.lt_of_lt_of_le hab z.below.size
        have HR2 := Lib.hid (World.ownsRow.kept hown.out (row := none) ⟨z.below.os, z.below.tape, z.below.output, z.below.size, fun i hi _ => z.below.block i hi⟩ (by cases u3.ownBlock <;> simp))
        have hb2 := below_then hbl (Nat.le_refl _) z.below
        have HB2 := Lib.hid hb2
        have hz2 := hb2.size
        clear hown hbl a0 a1 hb2
        generalize z.at = w2 at *
        go_wp2_with (at_builtin; refine wpList_append_own _ rfl _ _ 34 rfl w1.heap.size 42 i0 (.agg #[.int .i64 0, .int .i64 0]) 2 16 Try.underlying34 HI.out.1 HI.out.2.1 HI.out.2.2.1 HI.out.2.2.2 rfl (by decide) _ _ _ rfl (HR2.out.alloc _) ⟨_, 0, none⟩ 1 1 (enD y) rfl rfl ?d1 ?d2 ?d3 ?d4 ?d5 ?_)
        case d1 => exact new_cells _ (enD y) _
        case d2 => exact enD_one y
        case d3 => unfold maxLen; omega
        case d4 => omega
        case d5 => simp; omega
        intro v' w3 hown3 hgrow3 _
        have HO3 := Lib.hid (show w3.ownsRow w1.heap.size 42 2 v' (out ++ [y]).length ((out ++ [y]).flatMap enD) from by rw [List.length_append, List.flatMap_append, List.flatMap_singleton]; exact hown3)
        have HB3 := Lib.hid ((HB2.out.alloc (by omega) _).grown hgrow3 (by simp; omega) (fun j hj => (World.ownsRow.lt HR2.out j hj).1))
        clear hown3 hgrow3
        go_wp2_with fail
        go_roundw
        case rel => exact ⟨k + 1, by omega, by go_num, by rw [HPO.out]; exact HO3, HB3.out⟩
        case measure => simp [vInt]; omega
      · have HPO := Lib.hid (show ovr K (l.take (k + 1)) = out from by rw [HP.out, if_neg hc, List.append_nil])
        clear HP
        go_wp2_with fail
        refine wp_region_calm (by kernel_rfl) (by kernel_rfl) ?_
        repeat (go_big_quiet_step (first | (go_at_call 71; exact calm_same (get_lit m _ _ _ _ _ hm (Lst.below HK2.out (BW.below _)) (by omega)))))
        refine wpQuiet_nil ?_
        rintro _ ⟨z, rfl⟩
        have HR2 := Lib.hid (World.ownsRow.kept hown.out (row := none) ⟨z.below.os, z.below.tape, z.below.output, z.below.size, fun i hi _ => z.below.block i hi⟩ (by cases u3.ownBlock <;> simp))
        have HB2 := Lib.hid (below_then hbl (Nat.le_refl _) z.below)
        clear hown hbl a0 a1
        go_wp2_with fail
        go_roundw
        case rel => exact ⟨k + 1, by omega, by go_num, by rw [HPO.out]; exact HR2, HB2.out⟩
        case measure => simp [vInt]; omega
    · obtain rfl : k = l.length := by omega
      have hr := hown.out
      rw [List.take_length, ← HRS.out] at hr
      have HR := Lib.hid (Lst.of_owns (l := rs l) enD_len (by decide) hr)
      have HB := Lib.hid (HB1.out.trans (hbl.mono HB1.out.size))
      clear hr hown
      go_wp2_with fail
      go_ret
      exact ⟨_, rfl, HR.out, HB.out⟩

set_option maxHeartbeats 1000000 in
theorem refsame_any (ao bo : Option Addr) (ac bc : Nat) (a b : List P) (w : World) (ha : DRow w (.slice ao a.length ac) a) (hb : DRow w (.slice bo b.length bc) b) (h1 : a.length ≤ 100000) (h2 : b.length ≤ 100000) :
    Calls Try.prog 24 #[.slice ao a.length ac, .slice bo b.length bc] w fun e w' => e = .returned (.bool (sameD a b)) ∧ Below w.heap.size w w' := by
  have hsr : sameD a b = eqR a b := by
    unfold sameD
    cases e : eqR a b with
    | true => exact decide_eq_true ((eqR_iff a b).1 e)
    | false => exact decide_eq_false fun h => by rw [(eqR_iff a b).2 h] at e; cases e
  rw [hsr]
  have HA := Lib.hid ha
  have HB := Lib.hid hb
  clear ha hb hsr
  cases hl : ((a.length : Int) != (b.length : Int))
  · have hll : a.length = b.length := by simp at hl; omega
    have HLL := Lib.hid hll
    obtain ⟨r, hr⟩ : ∃ r, r = eqR a b := ⟨_, rfl⟩
    rw [← hr]
    have HR := Lib.hid hr
    clear hr hll
    go_enter Try.func24, Try.ntmps24
    go_wp2_with fail
    go_loopw [5] (fun iv wr => ∃ (k nq : Nat), k ≤ a.length ∧ iv = .int .i64 k ∧ wr = w.drewN nq ∧ Hid (eqR (a.drop k) (b.drop k) = r)) (fun iv _ => a.length - (vInt iv).toNat)
    case atStart => exact ⟨0, 0, by omega, rfl, rfl, Lib.hid (by rw [HR.out]; simp)⟩
    case round =>
      obtain ⟨k, nq0, hk, rfl, rfl, hq0⟩ := hrel
      by_cases hlt : k < a.length
      · have hlb : k < b.length := by have := HLL.out; omega
        obtain ⟨ab, aoff, rfl, _, a0, a1⟩ := dot_at HA.out (List.getElem?_eq_getElem hlt)
        obtain ⟨bb, boff, rfl, _, b0, b1⟩ := dot_at HB.out (List.getElem?_eq_getElem hlb)
        have hda := List.drop_eq_getElem_cons hlt
        have hdb := List.drop_eq_getElem_cons hlb
        generalize a[k] = x at *
        generalize b[k] = y at *
        have HDA := Lib.hid hda
        have HDB := Lib.hid hdb
        clear hda hdb
        have hg := guard_runR .neq
        cases hqq : eqD x y
        · have HQ := Lib.hid hqq
          have hn := neq_runR x y _ hqq
          clear hqq
          go_wp2_with fail
          go_quiet (fail)
          go_wp2_with fail
          go_ret
          exact ⟨by have := hq0.out; rw [HDA.out, HDB.out] at this; simp only [eqR, HQ.out, Bool.false_and] at this; rw [← this]; rfl, by repeat (first | exact Below.refl _ _ | apply below_drewN)⟩
        · have HQ := Lib.hid hqq
          have hn := neq_runR x y _ hqq
          clear hqq
          go_wp2_with fail
          go_quiet (fail)
          go_wp2_with fail
          go_roundw
          case rel => exact ⟨k + 1, _, by omega, by go_num, rfl, Lib.hid (by have := hq0.out; rw [HDA.out, HDB.out] at this; simpa only [eqR, HQ.out, Bool.true_and] using this)⟩
          case measure => simp [vInt]; omega
      · obtain rfl : k = a.length := by omega
        go_wp2_with fail
        go_ret
        exact ⟨by have := hq0.out; rw [List.drop_length, HLL.out, List.drop_length] at this; rw [← this]; rfl, by repeat (first | exact Below.refl _ _ | apply below_drewN)⟩
  · have hll : a.length ≠ b.length := by simp at hl; omega
    rw [eqR_len a b hll]
    clear hll
    go_enter Try.func24, Try.ntmps24
    go_wp2_with fail
    go_ret
    exact ⟨rfl, Below.refl _ _⟩
theorem refsame_lit (q : Bool) (ao bo : Option Addr) (ac bc : Nat) (a b : List P) (w : World) (h : sameD a b = q) (ha : DRow w (.slice ao a.length ac) a) (hb : DRow w (.slice bo b.length bc) b) (h1 : a.length ≤ 100000) (h2 : b.length ≤ 100000) :
    Calls Try.prog 24 #[.slice ao a.length ac, .slice bo b.length bc] w fun e w' => e = .returned (.bool q) ∧ Below w.heap.size w w' := by
  subst h; exact refsame_any ao bo ac bc a b w ha hb h1 h2

set_option maxRecDepth 100000 in
set_option maxHeartbeats 2000000 in
theorem rows_any (ao : Option Addr) (ac : Nat) (l : List P) (w : World) (ha : DRow w (.slice ao l.length ac) l) (h1 : l.length ≤ 300) :
    Calls Try.prog 13 #[.slice ao l.length ac] w (RowPost w l) := by
  have HA := Lib.hid ha
  clear ha
  obtain ⟨i0, hi, hz0, hz1, hz2⟩ := info_parts info_R
  have HI := Lib.hid (And.intro hi (And.intro hz0 (And.intro hz1 hz2)))
  clear hi hz0 hz1 hz2
  go_enter Try.func13, Try.ntmps13
  go_wp2_with fail
  go_loopw [3, 4] (fun ov iv wr => ∃ (k : Nat), k ≤ l.length ∧ iv = .int .i64 k ∧ Hid (wr.ownsRow w.heap.size 42 2 ov k ((l.take k).flatMap enD)) ∧ Below w.heap.size w wr) (fun _ iv _ => l.length - (vInt iv).toNat)
  case atStart => exact ⟨0, by omega, rfl, Lib.hid (World.ownsRow_nil _ _ _ _), Below.refl _ _⟩
  case round =>
    obtain ⟨k, hk, rfl, hown, hbl⟩ := hrel
    have hsz := hbl.size
    by_cases hlt : k < l.length
    · have HA' := Lib.hid (Lst.below HA.out hbl)
      obtain ⟨ab, aoff, rfl, hab, a0, a1⟩ := dot_at HA'.out (List.getElem?_eq_getElem hlt)
      have htk := List.take_succ_eq_append_getElem hlt
      obtain ⟨y, hy⟩ : ∃ y, y = l[k] := ⟨_, rfl⟩
      rw [← hy] at a0 a1 htk
      have HTK := Lib.hid htk
      clear hy htk
      go_wp2_with fail
      go_region_law (refine step_append_lies _ rfl (.tmp 11) (.tmp 23) 34 rfl w.heap.size 42 i0 (.agg #[.int .i64 0, .int .i64 0]) 2 16 Try.underlying34 HI.out.1 HI.out.2.1 HI.out.2.2.1 HI.out.2.2.2 rfl (by decide) _ _ _ rfl ((World.ownsRow.drew hown.out).alloc _) ⟨wr.heap.size, 0, none⟩ 1 1 (enD y) rfl rfl (new_cells _ (enD y) _) (enD_one y) (by decide) (by unfold maxLen; omega) (by omega) (by simp; omega) _ rfl (fun g cap w3 g1 g2 g3 g4 => ?_))
      all_goals
        have R := Lib.hid g1
        have hbl3 : Below w.heap.size w w3 := (hbl.drew.alloc (by simp; omega) _).grown g2 (by simp; omega) (fun k hk => (World.ownsRow.lt hown.out k hk).1)
        clear g1 g2 g3 g4
        try go_simp
        go_wp2
        go_roundw
        case rel => exact ⟨k + 1, by omega, by go_num, by rw [HTK.out, List.flatMap_append, List.flatMap_singleton]; exact R, hbl3⟩
        case measure => simp [vInt]; omega
    · obtain rfl : k = l.length := by omega
      have hr := hown.out
      rw [List.take_length] at hr
      have HR := Lib.hid (Lst.of_owns enD_len (by decide) hr)
      clear hr hown
      go_wp2_with fail
      go_ret
      exact ⟨_, rfl, HR.out, hbl⟩

theorem sameD_self (a : List P) : sameD a a = true := by unfold sameD; exact decide_eq_true rfl
set_option maxRecDepth 100000 in
set_option maxHeartbeats 2000000 in
theorem law_is_any (v : Value) (lo : Option Addr) (lc : Nat) (L : List P) (w : World) (hv : SAt w v L) (ha : DRow w (.slice lo L.length lc) L) (hL : Nice L) :
    Calls Try.prog 15 #[v, .slice lo L.length lc] w fun e w' => e = .returned (.bool true) ∧ Below w.heap.size w w' := by
  have HV := Lib.hid hv
  have HA := Lib.hid ha
  have HL := Lib.hid hL
  have hk := hL.kn.2.2
  have hr := hL.rs.2.2
  obtain ⟨o, so, n0, sc, rfl⟩ := hv.form
  clear hv ha hL
  go_enter Try.func15, Try.ntmps15
  go_wp2_with fail
  obtain ⟨W0, hW0⟩ : ∃ W0, W0 = w.alloc (.cells #[.map o, .slice so n0 sc] 40) := ⟨_, rfl⟩
  have e0 : W0.cell? ⟨w.heap.size, 0, none⟩ = some (.map o) := by rw [hW0]; go_simp
  have e1 : W0.cell? ⟨w.heap.size, 1, none⟩ = some (.slice so n0 sc) := by rw [hW0]; go_simp
  have hs0 : W0.heap.size = w.heap.size + 1 := by rw [hW0]; simp
  have hb0 : Below w.heap.size w W0 := by rw [hW0]; exact (Below.refl _ _).alloc (Nat.le_refl _) _
  rw [← hW0]
  have HE := Lib.hid (fun W' (h : Below W0.heap.size W0 W') => show W'.cell? ⟨w.heap.size, 0, none⟩ = some (.map o) ∧ W'.cell? ⟨w.heap.size, 1, none⟩ = some (.slice so n0 sc) from
    ⟨(h.cell (p := ⟨w.heap.size, 0, none⟩) (by simp; omega)).trans e0, (h.cell (p := ⟨w.heap.size, 1, none⟩) (by simp; omega)).trans e1⟩)
  have HW := Lib.hid (fun W' (h : Below W0.heap.size W0 W') => show Below w.heap.size w W' from below_then hb0 (by omega) h)
  clear hW0 e0 e1 hb0
  refine (refknown_any lo lc L W0 (Lst.below HA.out (HW.out _ (Below.refl _ _))) HL.out).mono ?_
  rintro e w1 ⟨vk, rfl, hk1, hb1⟩
  obtain ⟨ko, kc, rfl, -, -⟩ := Lst.form hk1
  have HK1 := Lib.hid hk1
  have HB1 := Lib.hid hb1
  clear hk1 hb1
  go_wp2_with fail
  refine (refrest_any lo lc L w1 (Lst.below HA.out (HW.out _ HB1.out)) HL.out).mono ?_
  rintro e w2 ⟨vr, rfl, hr2, hb2⟩
  obtain ⟨ro, rc, rfl, -, -⟩ := Lst.form hr2
  have HK2 := Lib.hid (Lst.below HK1.out hb2)
  have HR2 := Lib.hid hr2
  have HB2 := Lib.hid (below_then HB1.out (Nat.le_refl _) hb2)
  obtain ⟨c0, c1⟩ := HE.out w2 HB2.out
  clear hr2 hb2
  go_wp2_with fail
  refine (known_any _ L w2 (HV.out.below (HW.out _ HB2.out)) HL.out).mono ?_
  rintro e w3 ⟨b, rfl, hv3, hbb, hb3⟩
  have HV3 := Lib.hid hv3
  have HK3 := Lib.hid (Lst.below HK2.out hb3)
  have HR3 := Lib.hid (Lst.below HR2.out hb3)
  have HB3 := Lib.hid (below_then HB2.out (Nat.le_refl _) hb3)
  clear hv3 hb3 hbb c0 c1
  obtain ⟨c0, c1⟩ := HE.out w3 HB3.out
  go_wp2_with fail
  refine (Vec.is_any b ko kc (kn L) w3 HL.out.kn.1 HL.out.kn.2.1 HV3.out HK3.out (by omega)).mono ?_
  rintro e w4 ⟨rfl, hb4⟩
  have HR4 := Lib.hid (Lst.below HR3.out hb4)
  have HB4 := Lib.hid (below_then HB3.out (Nat.le_refl _) hb4)
  clear hb4 c0 c1
  obtain ⟨c0, c1⟩ := HE.out w4 HB4.out
  go_wp2_with fail
  refine (Dots.rest_any _ L w4 (HV.out.below (HW.out _ HB4.out)) HL.out).mono ?_
  rintro e w5 ⟨v5, rfl, hs5, hb5⟩
  have hrow5 := spD_row hs5
  obtain ⟨r5, k5, rfl, -, -⟩ := Lst.form hrow5
  have HROW5 := Lib.hid hrow5
  have HR5 := Lib.hid (Lst.below HR4.out hb5)
  have HB5 := Lib.hid (below_then HB4.out (Nat.le_refl _) hb5)
  clear hs5 hb5 hrow5 c0 c1
  go_wp2_with fail
  refine (rows_any r5 k5 (rs L) w5 HROW5.out (by omega)).mono ?_
  rintro e w6 ⟨v6, rfl, hr6, hb6⟩
  obtain ⟨r6, k6, rfl, -, -⟩ := Lst.form hr6
  have HROW6 := Lib.hid hr6
  have HR6 := Lib.hid (Lst.below HR5.out hb6)
  have HB6 := Lib.hid (below_then HB5.out (Nat.le_refl _) hb6)
  clear hr6 hb6
  go_wp2_with fail
  refine (refsame_lit true r6 ro k6 rc (rs L) (rs L) w6 (sameD_self _) HROW6.out HR6.out (by omega) (by omega)).mono ?_
  rintro e w7 ⟨rfl, hb7⟩
  have HB7 := Lib.hid (below_then HB6.out (Nat.le_refl _) hb7)
  clear hb7
  obtain ⟨c0, c1⟩ := HE.out w7 HB7.out
  go_wp2_with fail
  have hwd := words_any _ L w7 (HV.out.below (HW.out _ HB7.out)) HL.out
  generalize (kn L).length = x at *
  generalize (rs L).length = y at *
  refine hwd.mono ?_
  rintro e w8 ⟨rfl, hb8⟩
  have HB8 := Lib.hid (HW.out _ (below_then HB7.out (Nat.le_refl _) hb8))
  clear hb8 c0 c1 hwd
  have hq : ((2 * ((x + y : Nat) : Int)) == 2 * ((x : Int) + (y : Int))) = true := by simp
  have hq2 : (2 * ((x : Int) + (y : Int)) == 2 * ((x : Int) + (y : Int))) = true := by simp
  go_wp2_with fail
  go_ret
  exact ⟨by simp, HB8.out⟩

def exL : List P := [⟨1, 1⟩, ⟨1, 2⟩, ⟨1, 5⟩]
theorem exL_nice : Nice (setOf exL) := nice_setOf (fun x hx => by simp [exL] at hx; rcases hx with rfl | rfl | rfl <;> decide) (by decide)
theorem exL_kn : kn (setOf exL) = [⟨1, 2⟩] := by decide
theorem exL_rs : rs (setOf exL) = [⟨1, 5⟩] := by decide
theorem row_new (w : World) (l : List P) (t : TypeId) (hl : l.length ≤ 1000) : DRow (w.alloc (.cells ⟨l.flatMap enD⟩ t)) (.slice (some ⟨w.heap.size, 0, none⟩) l.length l.length) l := by
  refine ⟨_, _, rfl, Nat.le_refl _, by unfold maxLen; omega, Or.inr ⟨w.heap.size, 0, rfl, by simp, fun i x hi j hj => ?_⟩⟩
  have h := flatMap_get enD_len l i x hi j hj
  have hlt : j < (enD x).length := hj
  rw [List.getElem?_eq_getElem hlt] at h ⊢
  have := new_cells w (l.flatMap enD) t (i * 2 + j) _ h
  rw [addr_add] at this
  rw [show 0 + i * 2 + j = 0 + (i * 2 + j) by omega]
  exact this
set_option maxRecDepth 100000 in
set_option maxHeartbeats 2000000 in
theorem alive_any (w : World) : Calls Try.prog 19 #[] w fun e w' => e = .returned (.bool true) ∧ Below w.heap.size w w' := by
  go_enter Try.func19, Try.ntmps19
  go_wp2_with fail
  refine (of_any (some ⟨w.heap.size, 0, none⟩) 3 exL _ (row_new w exL _ (by decide)) (fun x hx => by simp [exL] at hx; rcases hx with rfl | rfl | rfl <;> decide) (by decide)).mono ?_
  rintro e w1 ⟨v, rfl, hv, hb1⟩
  obtain ⟨o, so, n0, sc, rfl⟩ := hv.form
  have HV := Lib.hid hv
  have HB1 := Lib.hid (below_then ((Below.refl w.heap.size w).alloc (Nat.le_refl _) (.cells ⟨exL.flatMap enD⟩ 33)) (Nat.le_refl _) hb1)
  have hz1 := HB1.out.size
  clear hv hb1
  go_upto_region 2 with fail
  obtain ⟨W0, hW0⟩ : ∃ W0, W0 = w1.alloc (.cells #[.map o, .slice so n0 sc] 40) := ⟨_, rfl⟩
  have e0 : W0.cell? ⟨w1.heap.size, 0, none⟩ = some (.map o) := by rw [hW0]; go_simp
  have e1 : W0.cell? ⟨w1.heap.size, 1, none⟩ = some (.slice so n0 sc) := by rw [hW0]; go_simp
  have hs0 : W0.heap.size = w1.heap.size + 1 := by rw [hW0]; simp
  have hb0 : Below w1.heap.size w1 W0 := by rw [hW0]; exact (Below.refl _ _).alloc (Nat.le_refl _) _
  rw [← hW0]
  have HE := Lib.hid (fun W' (h : Below W0.heap.size W0 W') => show W'.cell? ⟨w1.heap.size, 0, none⟩ = some (.map o) ∧ W'.cell? ⟨w1.heap.size, 1, none⟩ = some (.slice so n0 sc) from
    ⟨(h.cell (p := ⟨w1.heap.size, 0, none⟩) (by simp; omega)).trans e0, (h.cell (p := ⟨w1.heap.size, 1, none⟩) (by simp; omega)).trans e1⟩)
  have HW := Lib.hid (fun W' (h : Below W0.heap.size W0 W') => show Below w1.heap.size w1 W' from below_then hb0 (by omega) h)
  clear hW0 hb0
  have HN := Lib.hid exL_nice
  go_wp2_with fail
  refine (known_any _ (setOf exL) W0 (HV.out.below (HW.out _ (Below.refl _ _))) HN.out).mono ?_
  rintro e w2 ⟨b2, rfl, hv2, hbb2, hb2⟩
  rw [exL_kn] at hv2
  have hl2 := fun ty => hv2.len ty
  have HB2 := Lib.hid hb2
  clear hv2 hbb2 hb2 e0 e1
  obtain ⟨c0, c1⟩ := HE.out w2 HB2.out
  go_wp2_with fail
  clear hl2
  refine (known_any _ (setOf exL) w2 (HV.out.below (HW.out _ HB2.out)) HN.out).mono ?_
  rintro e w3 ⟨b3, rfl, hv3, hbb3, hb3⟩
  rw [exL_kn] at hv3
  have hq3 := hv3.at (x := 1) (by decide) (by decide)
  rw [show getF [⟨1, 2⟩] 1 = 2 from rfl] at hq3
  have HB3 := Lib.hid (below_then HB2.out (Nat.le_refl _) hb3)
  clear hv3 hbb3 hb3 c0 c1
  obtain ⟨c0, c1⟩ := HE.out w3 HB3.out
  go_wp2_with fail
  clear hq3
  refine (Dots.rest_any _ (setOf exL) w3 (HV.out.below (HW.out _ HB3.out)) HN.out).mono ?_
  rintro e w4 ⟨v4, rfl, hs4, hb4⟩
  rw [exL_rs] at hs4
  have hrow4 := spD_row hs4
  obtain ⟨r4, k4, rfl, -, -⟩ := Lst.form hrow4
  have HROW4 := Lib.hid hrow4
  have HB4 := Lib.hid (below_then HB3.out (Nat.le_refl _) hb4)
  clear hs4 hb4 hrow4 c0 c1
  go_wp2_with fail
  refine (equal_any r4 (some ⟨w4.heap.size, 0, none⟩) k4 1 [⟨1, 5⟩] [⟨1, 5⟩] _ (Lst.below HROW4.out ((Below.refl w4.heap.size w4).alloc (Nat.le_refl _) _)) (row_new w4 [⟨1, 5⟩] _ (by decide)) (by decide) (by decide)).mono ?_
  rintro e w5 ⟨rfl, hb5⟩
  rw [(eqR_iff [⟨1, 5⟩] [⟨1, 5⟩]).2 rfl]
  have HB5 := Lib.hid (below_then HB4.out (Nat.le_refl _) (below_then ((Below.refl w4.heap.size w4).alloc (Nat.le_refl _) (.cells ⟨([⟨1, 5⟩] : List P).flatMap enD⟩ 33)) (Nat.le_refl _) hb5))
  clear hb5
  obtain ⟨c0, c1⟩ := HE.out w5 HB5.out
  go_wp2_with fail
  have hwd := words_any _ (setOf exL) w5 (HV.out.below (HW.out _ HB5.out)) HN.out
  rw [exL_kn, exL_rs] at hwd
  refine hwd.mono ?_
  rintro e w6 ⟨rfl, hb6⟩
  have HB6 := Lib.hid (HW.out _ (below_then HB5.out (Nat.le_refl _) hb6))
  clear hb6 hwd c0 c1
  go_wp2_with fail
  go_ret
  exact ⟨rfl, HB1.out.trans (HB6.out.mono hz1)⟩
end Go.Proofs.Ytihfcohebgemdaa.Dots
