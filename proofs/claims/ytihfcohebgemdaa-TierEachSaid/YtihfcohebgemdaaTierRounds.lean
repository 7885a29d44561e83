/- Layer 18 (tier): Rounds. PRINTED by wip/gentierrounds.py. -/
import Derived.Test.YtihfcohebgemdaaTierPick
set_option linter.unusedSimpArgs false
set_option linter.unusedVariables false
namespace Go.Proofs.Ytihfcohebgemdaa.Tier
open Go.RowKit Go.Proofs.Ytihfcohebgemdaa.Ints Go.Proofs.Ytihfcohebgemdaa.Spare

theorem pick_small (l : List Int) : (pickF l).length ≤ l.length := by
  unfold pickF
  rcases pickOf_cases (groups l) with h | ⟨g, h1, h2, h3⟩
  · rw [h]; exact Nat.zero_le _
  · rw [h3, List.length_mergeSort]; exact group_small h1
theorem restG_step (p : List Int) {cur : List Int} {k : Nat} {x : Int} (h : cur[k]? = some x) : restG p k (cur.drop k) = if hasI p k then restG p (k + 1) (cur.drop (k + 1)) else x :: restG p (k + 1) (cur.drop (k + 1)) := by
  obtain ⟨hlt, e⟩ := List.getElem?_eq_some_iff.1 h
  rw [List.drop_eq_getElem_cons hlt, e, restG]
  rfl

set_option maxRecDepth 100000 in
set_option maxHeartbeats 8000000 in
theorem rounds_any (ao : Option Addr) (ac : Nat) (l : List Int) (w : World) (ha : IRow w (.slice ao l.length ac) l) (hl : l.length ≤ 60) (hx : ∀ x ∈ l, x ≤ 1099511627776) :
    Calls Try.prog 10 #[.slice ao l.length ac] w fun e w' => ∃ n : Nat, e = .returned (.int .i64 n) ∧ n ≤ l.length ∧ Below w.heap.size w w' := by
  obtain ⟨i0, hi, hz0, hz1, hz2⟩ := info_parts_I
  have HI := Lib.hid (And.intro hi (And.intro hz0 (And.intro hz1 hz2)))
  have HC0 := Lib.hid (clone_any ao ac l w ha (by omega))
  have HX := Lib.hid hx
  obtain ⟨m, hm⟩ : ∃ m, m = l.length := ⟨_, rfl⟩
  have HM := Lib.hid hm
  rw [← hm] at hl
  clear ha hx hi hz0 hz1 hz2
  go_enter Try.func10, Try.ntmps10
  go_wp2_with fail
  refine HC0.out.mono ?_
  rintro e W1 ⟨bo, bc, rfl, hr1, hb1⟩
  have HR1 := Lib.hid hr1
  have HB1 := Lib.hid hb1
  clear hr1 hb1
  go_wp2_with fail
  go_loopw [3, 4] (fun lv nv wr => ∃ (cur : List Int) (co : Option Addr) (cc c : Nat), lv = .slice co cur.length cc ∧ nv = .int .i64 c ∧ c + cur.length ≤ m ∧ Hid (IRow wr (.slice co cur.length cc) cur) ∧ Hid (∀ x ∈ cur, x ≤ 1099511627776) ∧ Hid (Below w.heap.size w wr)) (fun _ nv _ => m - (intOf nv).toNat)
  case atStart => exact ⟨l, bo, bc, 0, rfl, rfl, by omega, HR1, HX, HB1⟩
  case round =>
    obtain ⟨cur, co, cc, c, rfl, rfl, hcm, hrow, hcx, hbl⟩ := hrel
    have HPC := Lib.hid (pick_any co cc cur wr hrow.out (by omega) (fun x h => by have := hcx.out x h; omega))
    have HPI := Lib.hid (pickF_inv cur)
    have hpl := pick_small cur
    have HCX := Lib.hid hcx.out
    have HROW := Lib.hid hrow.out
    have HBL := Lib.hid hbl.out
    obtain ⟨n, hn⟩ : ∃ n, n = cur.length := ⟨_, rfl⟩
    have HN := Lib.hid hn
    rw [← hn] at hcm hpl HROW HPC ⊢
    clear hrow hcx hbl hn
    go_wp2_with fail
    refine HPC.out.mono ?_
    rintro e W2 ⟨po, pc, rfl, hp2, hb2⟩
    obtain ⟨p, hp⟩ : ∃ p, p = pickF cur := ⟨_, rfl⟩
    rw [← hp] at hp2 HPI hpl HPC ⊢
    have HP2 := Lib.hid hp2
    have HB2 := Lib.hid hb2
    have HROW2 := Lib.hid (HROW.out.below hb2)
    have hs2 := hb2.size
    have hpos := HPI.out.some
    have hsm := HBL.out.size
    clear hp hm
    by_cases h0 : p = []
    · subst h0
      have HB := Lib.hid (HBL.out.trans (hb2.mono hsm))
      clear hp2 hb2 hpos
      go_wp2_with fail
      go_ret
      exact ⟨c, rfl, by have := HM.out; omega, HB.out⟩
    · have h4 : 4 ≤ p.length := hpos.resolve_left h0
      have HLESS := Lib.hid (rest_less HPI.out h0)
      clear hp2 hb2 hpos h0
      obtain ⟨B0, hB0⟩ : ∃ b, b = wr.heap.size := ⟨_, rfl⟩
      rw [← hB0] at hs2 hsm HB2
      obtain ⟨S2, hS2⟩ : ∃ b, b = W2.heap.size := ⟨_, rfl⟩
      rw [← hS2] at hs2
      have HS2 := Lib.hid hS2
      clear hB0 hS2
      have hq0 : ((p.length : Int) == 0) = false := by rw [beq_eq_false_iff_ne]; omega
      go_wp2_with fail
      go_loopw [6, 24] (fun sv iv wz => ∃ (k : Nat) (s : Int), k ≤ p.length ∧ iv = .int .i64 k ∧ sv = .int .i64 s ∧ 0 ≤ s ∧ s ≤ k * 1099511627776 ∧ wz = W2) (fun _ iv _ => p.length - (intOf iv).toNat)
      case atStart => exact ⟨0, 0, by omega, rfl, rfl, by omega, by omega, rfl⟩
      case round =>
        obtain ⟨k, s, hk, rfl, rfl, hs0, hs1, rfl⟩ := hrel
        by_cases hlt : k < p.length
        · obtain ⟨y, hy⟩ : ∃ y, p[k]? = some y := ⟨_, List.getElem?_eq_getElem hlt⟩
          obtain ⟨pb, poff, rfl, hpb, p0⟩ := int_at HP2.out hy
          obtain ⟨y0, y1⟩ := HPI.out.mem y (List.mem_of_getElem? hy)
          obtain ⟨yn, rfl⟩ := Int.eq_ofNat_of_zero_le y0
          have hyn : yn < n := by have := HN.out; omega
          obtain ⟨x, hx⟩ : ∃ x, cur[yn]? = some x := ⟨_, List.getElem?_eq_getElem (by have := HN.out; omega)⟩
          obtain ⟨cb, coff, rfl, hcb, c0⟩ := int_at HROW2.out hx
          have hxm := HCX.out x (List.mem_of_getElem? hx)
          clear hy hx y0 y1
          go_wp2_with fail
          go_roundw
          case rel => exact ⟨k + 1, _, by omega, by go_num, rfl, by omega, by omega, trivial⟩
          case measure => simp [intOf]; omega
        · have hkn : k = p.length := by omega
          clear hkn
          go_wp2_with fail
          obtain ⟨W2, hW2⟩ : ∃ W, W = wr := ⟨_, rfl⟩
          subst hW2
          go_loopw [9, 39] (fun rv iv wz => ∃ (j : Nat) (r : List Int), j ≤ n ∧ iv = .int .i64 j ∧ Hid (wz.ownsRow S2 3 1 rv r.length (r.flatMap enI)) ∧ Hid (r ++ restG p j (cur.drop j) = restF cur p) ∧ Hid (Below S2 W2 wz)) (fun _ iv _ => n - (intOf iv).toNat)
          case atStart => exact ⟨0, [], by omega, rfl, Lib.hid (World.ownsRow_nil _ _ _ _), Lib.hid rfl, Lib.hid (Below.refl _ _)⟩
          case round =>
            obtain ⟨j, r, hj, rfl, hrr, hrest, hbz⟩ := hrel
            have hsz := hbz.out.size
            rw [← HS2.out] at hsz
            have hrl : r.length ≤ n := by
              have h := congrArg List.length hrest.out
              rw [List.length_append] at h
              have h2 := HLESS.out
              have := HN.out
              omega
            obtain ⟨wz, hwz⟩ : ∃ W, W = wr := ⟨_, rfl⟩
            have HRR := Lib.hid (show wz.ownsRow S2 3 1 _ r.length (r.flatMap enI) from by rw [hwz]; exact hrr.out)
            have HBZ := Lib.hid (show Below S2 W2 wz from by rw [hwz]; exact hbz.out)
            rw [← hwz] at hsz ⊢
            have HROWZ := Lib.hid (HROW2.out.below (by rw [← HS2.out]; exact HBZ.out))
            have HPZ := Lib.hid (HP2.out.below (by rw [← HS2.out]; exact HBZ.out))
            clear hrr hbz hwz
            by_cases hlt : j < n
            · obtain ⟨x, hx⟩ : ∃ x, cur[j]? = some x := ⟨_, List.getElem?_eq_getElem (by have := HN.out; omega)⟩
              obtain ⟨cb, coff, rfl, hcb, c0⟩ := int_at HROWZ.out hx
              have HST := Lib.hid (restG_step p hx)
              have hxm := HCX.out x (List.mem_of_getElem? hx)
              clear hx
              cases hq : hasI p j
              · have HCL := Lib.hid (contains_lit false po pc p j wz hq HPZ.out (by omega))
                have HNX := Lib.hid (show (r ++ [x]) ++ restG p (j + 1) (cur.drop (j + 1)) = restF cur p from by rw [← hrest.out, HST.out, hq]; simp)
                clear hq hrest
                go_wp2_with (first | (at_builtin; refine wpList_append_own _ rfl _ _ 22 rfl S2 3 i0 (.int .i64 0) 1 8 Try.underlying22 HI.out.1 HI.out.2.1 HI.out.2.2.1 HI.out.2.2.2 rfl (by decide) _ _ _ rfl (HRR.out.alloc _) ⟨_, 0, none⟩ 1 1 [.int .i64 x] rfl rfl ?p1 ?p2 ?p3 ?p4 ?p5 ?_) | (refine HCL.out.mono ?_; rintro e w' ⟨rfl, rfl⟩))
                case p1 => exact news_int (by have h := new_cells wz [.int .i64 x] 3 0 _ rfl; rw [addr_add] at h; exact h)
                case p2 => intro u hu; simp at hu; subst hu; rfl
                case p3 => unfold maxLen; omega
                case p4 => omega
                case p5 => simp; omega
                intro v6 w6 hr6 hg6 _
                have HR6 := Lib.hid (show w6.ownsRow S2 3 1 v6 (r ++ [x]).length ((r ++ [x]).flatMap enI) from by rw [List.length_append, List.flatMap_append]; exact hr6)
                have HB6 := Lib.hid (show Below S2 W2 w6 from (HBZ.out.alloc (by omega) _).grown hg6 (by simp; omega) (fun i hi => (World.ownsRow.lt HRR.out i hi).1))
                clear hr6 hg6
                go_wp2_with fail
                go_roundw
                case rel => exact ⟨j + 1, r ++ [x], by omega, by go_num, HR6, HNX, HB6⟩
                case measure => simp [intOf]; omega
              · have HCL := Lib.hid (contains_lit true po pc p j wz hq HPZ.out (by omega))
                have HNX := Lib.hid (show r ++ restG p (j + 1) (cur.drop (j + 1)) = restF cur p from by rw [← hrest.out, HST.out, hq]; simp)
                clear hq hrest
                go_wp2_with (refine HCL.out.mono ?_; rintro e w' ⟨rfl, rfl⟩)
                go_roundw
                case rel => exact ⟨j + 1, r, by omega, by go_num, HRR, HNX, HBZ⟩
                case measure => simp [intOf]; omega
            · have hjn : j = n := by omega
              have HE := Lib.hid (show r = restF cur p from by rw [← hrest.out, hjn, HN.out, List.drop_length]; simp [restG])
              clear hjn hrest
              go_wp2_with (at_builtin; refine wpList_append_own _ rfl _ _ 22 rfl S2 3 i0 (.int .i64 0) 1 8 Try.underlying22 HI.out.1 HI.out.2.1 HI.out.2.2.1 HI.out.2.2.2 rfl (by decide) _ _ _ rfl (HRR.out.alloc _) ⟨_, 0, none⟩ 1 1 [.int .i64 (min s 1099511627776)] rfl rfl ?p1 ?p2 ?p3 ?p4 ?p5 ?_)
              case p1 => exact news_int (by have h := new_cells wz [.int .i64 (min s 1099511627776)] 3 0 _ rfl; rw [addr_add] at h; exact h)
              case p2 => intro u hu; simp at hu; subst hu; rfl
              case p3 => unfold maxLen; omega
              case p4 => omega
              case p5 => simp; omega
              intro v6 w6 hr6 hg6 _
              have hr7 : w6.ownsRow S2 3 1 v6 (r ++ [min s 1099511627776]).length ((r ++ [min s 1099511627776]).flatMap enI) := by rw [List.length_append, List.flatMap_append]; exact hr6
              have hb6 : Below S2 W2 w6 := (HBZ.out.alloc (by omega) _).grown hg6 (by simp; omega) (fun i hi => (World.ownsRow.lt HRR.out i hi).1)
              have hi7 : IRow w6 v6 (r ++ [min s 1099511627776]) := Lst.of_owns (fun _ => rfl) (by decide) hr7
              obtain ⟨do_, dc, rfl, _, _⟩ := hi7.form
              have HR7 := Lib.hid hi7
              have HB7 := Lib.hid (show Below w.heap.size w w6 from HBL.out.trans ((HB2.out.trans (hb6.mono hs2)).mono hsm))
              have HX7 := Lib.hid (show ∀ z ∈ r ++ [min s 1099511627776], z ≤ 1099511627776 from fun z hz => by
                rcases List.mem_append.1 hz with q | q
                · rw [HE.out] at q
                  exact HCX.out z (restG_mem p cur 0 z q)
                · rw [List.mem_singleton.1 q]
                  exact Int.min_le_right _ _)
              have hlen : (r ++ [min s 1099511627776]).length + 1 ≤ n := by
                have h := HLESS.out
                rw [← HE.out, ← HN.out] at h
                simp
                omega
              clear hr6 hg6 hr7 hb6 hi7
              go_wp2_with fail
              go_roundw
              case rel => exact ⟨_, do_, dc, c + 1, rfl, by go_num, by omega, HR7, HX7, HB7⟩
              case measure => simp [intOf]; omega
end Go.Proofs.Ytihfcohebgemdaa.Tier
