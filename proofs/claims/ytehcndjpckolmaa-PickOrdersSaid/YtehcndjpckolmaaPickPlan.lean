/- The walks of layer 43 (pick): slices.Clone at ranges; Plan. -/
import Derived.Test.YtehcndjpckolmaaPickIter
import Derived.Test.YtehcndjpckolmaaLstMore
import Derived.Lib.SliceRun
namespace Go.Proofs.Ytehcndjpckolmaa.Pick
open Go.RowKit Go.Proofs.Ytehcndjpckolmaa.Ints

theorem info_N : (Try.prog.info? 37).map (fun i => (i.zero, i.size, i.bytes)) = some (some (.agg #[.int .i64 0, .int .i64 0, .int .i64 0]), 3, 24) := by kernel_rfl
theorem enN_one (x : Need) : ∀ u ∈ enN x, u.oneCell' = true := by
  intro u hu
  simp only [List.mem_cons, List.not_mem_nil, or_false] at hu
  rcases hu with rfl | rfl | rfl <;> rfl
theorem flatN_one (l : List Need) : ∀ u ∈ l.flatMap enN, u.oneCell' = true := by
  intro u hu
  obtain ⟨x, _, hx⟩ := List.mem_flatMap.1 hu
  exact enN_one x u hx

/-- A row of ranges of the call's own. -/
def OwnPost (w : World) (l : List Need) (e : Ending) (w' : World) : Prop := ∃ v, e = .returned v ∧ w'.ownsRow w.heap.size 37 3 v l.length (l.flatMap enN) ∧ Below w.heap.size w w'

set_option maxHeartbeats 1000000 in
theorem clone_any (ao : Option Addr) (ac : Nat) (l : List Need) (w : World) (ha : NRow w (.slice ao l.length ac) l) (hl : l.length ≤ 1000) :
    Calls Try.prog 71 #[.slice ao l.length ac] w (OwnPost w l) := by
  have q22 : ∀ (w : World) (a : Option Addr) (n c n' c' : Nat), (binOp .eql 35 (.slice a n c) (.slice none n' c')).run Try.prog w = .ok (.bool a.isNone) w := fun w a n c n' c' => Lib.run_eql_slice_nil w _ _ a n c n' c' Try.underlying35
  obtain ⟨i0, hi, hz0, hz1, hz2⟩ := info_parts info_N
  have HI := Lib.hid hi
  have HZ0 := Lib.hid hz0
  have HZ1 := Lib.hid hz1
  have HZ2 := Lib.hid hz2
  clear hi hz0 hz1 hz2
  cases ao with
  | none =>
    have h0 : l = [] := by
      cases l with
      | nil => rfl
      | cons x l => obtain ⟨b, off, e, _⟩ := Lst.get ha (show 0 < (x :: l).length by simp); cases e
    subst h0
    clear ha
    go_enter Try.func71, Try.ntmps71
    go_wp2
    go_ret
    exact ⟨_, rfl, World.ownsRow_nil _ _ _ _, Below.refl _ _⟩
  | some a =>
    have HN := Lib.hid (Lst.news enN_len (by decide) (ha.alloc (.cells #[] 37)))
    clear ha
    go_enter Try.func71, Try.ntmps71
    go_wp2_with (at_builtin; refine wpList_append_own _ rfl _ _ 35 rfl w.heap.size 37 i0 (.agg #[.int .i64 0, .int .i64 0, .int .i64 0]) 3 24 Try.underlying35 HI.out HZ0.out HZ1.out HZ2.out rfl (by decide) _ _ _ rfl (World.ownsRow_made w #[] 0 (Nat.le_refl _) (Nat.zero_le _) (by simp)) a l.length ac (l.flatMap enN) rfl ?qc1 ?qc2 ?qc3 ?qc4 ?qc5 ?qc6 ?_)
    case qc1 => exact flatMap_len enN_len l
    case qc2 => exact HN.out
    case qc3 => exact flatN_one l
    case qc4 => unfold maxLen; omega
    case qc5 => omega
    case qc6 => simp
    intro v' w1 hown hgrow _
    have HE := Lib.hid (show OwnPost w l (.returned v') w1 from ⟨v', rfl, by simpa using hown, ((Below.refl _ w).alloc (Nat.le_refl _) _).grown hgrow (by simp) (by intro k hk; simp [Value.ownBlock] at hk; omega)⟩)
    clear hown hgrow
    go_wp2
    go_ret
    exact HE.out

/-- One range of a row turned, cell by cell. -/
theorem set_own {W : World} {base g n cap : Nat} {own : List Need} (h : W.ownsRow base 37 3 (.slice (some ⟨g, 0, none⟩) n cap) n (own.flatMap enN)) (i : Nat) (x : Need) :
    (((W.setCell ⟨g, i * 3, none⟩ (.int .i64 x.last)).setCell ⟨g, i * 3 + 1, none⟩ (.int .i64 x.waste)).setCell ⟨g, i * 3 + 2, none⟩ (.int .i64 x.waiting)).ownsRow base 37 3 (.slice (some ⟨g, 0, none⟩) n cap) n ((own.set i x).flatMap enN) ∧
    W.grownBy (((W.setCell ⟨g, i * 3, none⟩ (.int .i64 x.last)).setCell ⟨g, i * 3 + 1, none⟩ (.int .i64 x.waste)).setCell ⟨g, i * 3 + 2, none⟩ (.int .i64 x.waiting)) (some g) := by
  obtain ⟨h1, g1⟩ := h.stored (i * 3) (.int .i64 x.last)
  obtain ⟨h2, g2⟩ := h1.stored (i * 3 + 1) (.int .i64 x.waste)
  obtain ⟨h3, g3⟩ := h2.stored (i * 3 + 2) (.int .i64 x.waiting)
  refine ⟨?_, grown_setCell (grown_setCell g1 (p := ⟨g, i * 3 + 1, none⟩) (Or.inl rfl) _) (p := ⟨g, i * 3 + 2, none⟩) (Or.inl rfl) _⟩
  have e := flat_set3 (fun y : Need => Value.int .i64 y.last) (fun y => Value.int .i64 y.waste) (fun y => Value.int .i64 y.waiting) own i x
  rw [e] at h3
  exact h3
theorem cells_own {W : World} {base g n cap : Nat} {own : List Need} (h : W.ownsRow base 37 3 (.slice (some ⟨g, 0, none⟩) n cap) n (own.flatMap enN)) (hn : own.length = n) {m : Nat} (hm : m < n) :
    ∃ x : Need, W.cell? ⟨g, m * 3, none⟩ = some (.int .i64 x.last) ∧ W.cell? ⟨g, m * 3 + 1, none⟩ = some (.int .i64 x.waste) ∧ W.cell? ⟨g, m * 3 + 2, none⟩ = some (.int .i64 x.waiting) := by
  have hl : m < own.length := by omega
  have hg := fun j (hj : j < 3) => flatMap_get enN_len own m _ (List.getElem?_eq_getElem hl) j hj
  exact ⟨own[m], (h.cellAt (m * 3) (by omega)).trans (hg 0 (by decide)), (h.cellAt (m * 3 + 1) (by omega)).trans (hg 1 (by decide)), (h.cellAt (m * 3 + 2) (by omega)).trans (hg 2 (by decide))⟩

set_option maxRecDepth 100000 in
set_option maxHeartbeats 4000000 in
theorem plan_any (fr tk each most : Int) (ao : Option Addr) (ac : Nat) (l : List Need) (w : World) (ha : NRow w (.slice ao l.length ac) l) (hl : l.length < 40) :
    Calls Try.prog 30 #[.int .i64 fr, .int .i64 tk, .int .i64 each, .int .i64 most, .slice ao l.length ac] w (IPost w (planS (cutM tk) (min (max each 1) 1099511627776) most 1000 (cutM fr) [] l)) := by
  have HA := Lib.hid ha
  clear ha
  obtain ⟨i0, hi, hz0, hz1, hz2⟩ := info_parts info_I
  have HI := Lib.hid hi
  have HZ0 := Lib.hid hz0
  have HZ1 := Lib.hid hz1
  have HZ2 := Lib.hid hz2
  clear hi hz0 hz1 hz2
  obtain ⟨f0, hf0⟩ : ∃ x, x = cutM fr := ⟨_, rfl⟩
  obtain ⟨t0, ht0⟩ : ∃ x, x = cutM tk := ⟨_, rfl⟩
  obtain ⟨e0, he0⟩ : ∃ x, x = min (max each 1) 1099511627776 := ⟨_, rfl⟩
  have fb := cutM_bd fr
  have tb := cutM_bd tk
  have eb : 1 ≤ e0 ∧ e0 ≤ 1099511627776 := by omega
  rw [← hf0] at fb
  rw [← ht0] at tb
  rw [← hf0, ← ht0, ← he0]
  have E1 : min (max fr 0) 1099511627776 = f0 := hf0.symm
  have E2 : min (max tk 0) 1099511627776 = t0 := ht0.symm
  have E3 : min (max each 1) 1099511627776 = e0 := he0.symm
  clear hf0 ht0 he0
  obtain ⟨fb1, fb2⟩ := fb
  obtain ⟨eb1, eb2⟩ := eb
  go_enter Try.func30, Try.ntmps30
  go_wp2_with fail
  refine (clone_any ao ac l w HA.out (by omega)).mono ?_
  rintro e w1 ⟨v, rfl, hv, hb1⟩
  obtain ⟨vo, vc, rfl⟩ := row_form hv
  have HV := Lib.hid hv
  have HB1 := Lib.hid hb1
  clear hv hb1
  go_wp2_with fail
  obtain ⟨res, hres⟩ : ∃ r, r = planS t0 e0 most 1000 f0 [] l := ⟨_, rfl⟩
  rw [← hres]
  have HRES := Lib.hid hres.symm
  clear hres
  go_loopw [0, 11, 12] (fun nv ov kv wr => ∃ (k : Nat) (now : Int) (oo : Option Addr) (oc : Nat) (out : List Int) (own : List Need), k ≤ 1000 ∧ kv = .int .i64 k ∧ nv = .int .i64 now ∧ 0 ≤ now ∧ now ≤ ((k : Int) + 1) * 1099511627776 ∧ ov = .slice oo out.length oc ∧ out.length ≤ k ∧
      Hid (planS t0 e0 most (1000 - k) now out own = res) ∧ Hid (own.length = l.length) ∧
      Hid (wr.ownsRow w.heap.size 3 1 ov out.length (out.flatMap enI) ∧ wr.ownsRow w.heap.size 37 3 (.slice vo l.length vc) l.length (own.flatMap enN)) ∧ Below w.heap.size w wr) (fun _ _ kv _ => 1000 - (intOf kv).toNat)
  case atStart => exact ⟨0, f0, none, 0, [], l, by omega, rfl, rfl, fb1, by omega, rfl, by simp, HRES, Lib.hid rfl, Lib.hid ⟨World.ownsRow_nil _ _ _ _, HV.out⟩, HB1.out⟩
  case round =>
    obtain ⟨k, now, oo, oc, out, own, hk, rfl, rfl, hn0, hn1, rfl, hol, hres, hlen, hrows, hbl⟩ := hrel
    have hsz := hbl.size
    have hfin : planS t0 e0 most (1000 - k) now out own = out → IPost w res (.returned (.slice oo out.length oc)) wr := fun h => ⟨_, rfl, by rw [← hres.out, h]; exact Lst.of_owns enI_len (by decide) hrows.out.1, hbl, own_fresh hrows.out.1⟩
    have HFIN := Lib.hid hfin
    clear hfin
    by_cases hk1 : k < 1000
    · by_cases hnow : now < t0
      · by_cases hm : (out.length : Int) < most
        · have HCOND := Lib.hid (And.intro hnow hm)
          have hrow : NRow wr (.slice vo own.length vc) own := Lst.owned enN_len (by decide) rfl (by rw [hlen.out]; exact hrows.out.2)
          have hnx := next_any vo vc own now wr hrow (by rw [hlen.out]; exact hl)
          rw [hlen.out] at hnx
          have HNX := Lib.hid hnx
          have hsub : 1000 - k = (1000 - (k + 1)) + 1 := by omega
          have HSUB := Lib.hid hsub
          have hnb : now + e0 ≤ ((k : Int) + 1 + 1) * 1099511627776 := by omega
          clear hrow hnx hsub
          cases ho : ordF now own with
          | nil =>
            have hst := planS_none (m := 1000 - (k + 1)) (each := e0) HCOND.out ho
            rw [← HSUB.out, hres.out] at hst
            have HST := Lib.hid hst.symm
            have hnx := HNX.out
            rw [ho] at hnx
            have HNX2 := Lib.hid hnx
            clear hst hnx ho HNX
            go_wp2_with fail
            refine HNX2.out.mono ?_
            rintro e w2 ⟨rfl, hb2⟩
            have HR2 := Lib.hid (And.intro (keep_row hrows.out.1 hb2) (keep_row hrows.out.2 hb2))
            have hbl2 := below_then hbl (Nat.le_refl _) hb2
            clear hb2
            simp only [List.headD_nil, List.isEmpty_nil, Bool.not_true]
            go_wp2_with fail
            go_roundw
            case rel => exact ⟨k + 1, now + e0, oo, oc, out, own, by omega, by go_num, rfl, by omega, by simpa using hnb, rfl, by omega, HST, hlen, HR2, hbl2⟩
            case measure => simp [intOf]; omega
          | cons i t =>
            have hst := planS_some (m := 1000 - (k + 1)) (each := e0) HCOND.out ho
            rw [← HSUB.out, hres.out] at hst
            have HST := Lib.hid hst.symm
            have hnx := HNX.out
            rw [ho] at hnx
            have HNX2 := Lib.hid hnx
            obtain ⟨hi0, hi1⟩ := ordF_head ho
            rw [hlen.out] at hi1
            clear hst hnx ho HNX
            go_wp2_with fail
            refine HNX2.out.mono ?_
            rintro e w2 ⟨rfl, hb2⟩
            have HR2 := Lib.hid (And.intro (keep_row hrows.out.1 hb2) (keep_row hrows.out.2 hb2))
            have hbl2 := below_then hbl (Nat.le_refl _) hb2
            have hs2 := hbl2.size
            clear hb2
            simp only [List.headD_cons, List.isEmpty_cons, Bool.not_false]
            go_wp2_with (at_builtin; refine wpList_append_own _ rfl _ _ 40 rfl w.heap.size 3 i0 (.int .i64 0) 1 8 Try.underlying40 HI.out HZ0.out HZ1.out HZ2.out rfl (by decide) (.slice oo out.length oc) _ _ rfl (HR2.out.1.alloc _) ⟨_, 0, none⟩ 1 1 (enI i) rfl rfl ?c1 ?c2 ?c3 ?c4 ?c5 ?_)
            case c1 => exact new_cells _ (enI i) _
            case c2 => intro u hu; simp at hu; subst hu; rfl
            case c3 => unfold maxLen; omega
            case c4 => omega
            case c5 => simp; omega
            intro v' w3 hown3 hgrow3 _
            obtain ⟨g3, cap3, rfl⟩ := ownsRow_succ hown3
            have hbl3 : Below w.heap.size w w3 := (hbl2.alloc hs2 _).grown hgrow3 (by simp; omega) (fun k hk => (World.ownsRow.lt HR2.out.1 k hk).1)
            have hown4 : w3.ownsRow w.heap.size 37 3 (.slice vo l.length vc) l.length (own.flatMap enN) := (HR2.out.2.alloc _).kept hgrow3 (rows_apart HR2.out.2 HR2.out.1 (by decide))
            have HO := Lib.hid (And.intro hown3 hown4)
            obtain ⟨gN, capN, hvN, -, hgN⟩ := World.ownsRow.form hown4 (by omega)
            cases hvN
            obtain ⟨m, rfl⟩ := Int.eq_ofNat_of_zero_le hi0
            have fN := fun j => World.ownsRow.frozenAt hown4 j
            obtain ⟨y, n0, n1, n2⟩ := cells_own hown4 hlen.out (m := m) (by omega)
            obtain ⟨hown5, hgrow5⟩ := set_own hown4 m ⟨now, 0, 0⟩
            have hown6 := hown3.kept hgrow5 (rows_apart hown3 hown4 (by decide))
            have hbl5 : Below w.heap.size w _ := hbl3.grown hgrow5 hbl3.size (by rintro k ⟨⟩; exact (World.ownsRow.lt hown4 gN rfl).1)
            have H5 := Lib.hid (And.intro hown5 (And.intro hown6 hbl5))
            have hlen5 : (out ++ [(m : Int)]).length = out.length + 1 := by simp
            have HL5 := Lib.hid (And.intro hlen5 (show (own.set m ⟨now, 0, 0⟩).length = l.length by rw [List.length_set]; exact hlen.out))
            rw [Int.toNat_natCast] at HST
            clear hown3 hgrow3 hown4 hown5 hgrow5 hown6 hbl5 hlen5
            go_wp2
            go_roundw
            case rel => exact ⟨k + 1, now + e0, some ⟨g3, 0, none⟩, cap3, out ++ [(m : Int)], own.set m ⟨now, 0, 0⟩, by omega, by go_num, rfl, by omega, by simpa using hnb, by rw [HL5.out.1], by rw [HL5.out.1]; omega, HST, Lib.hid HL5.out.2, Lib.hid ⟨by rw [HL5.out.1, List.flatMap_append, List.flatMap_singleton]; exact H5.out.2.1, H5.out.1⟩, H5.out.2.2⟩
            case measure => simp [intOf]; omega
        · have HE := Lib.hid (HFIN.out (planS_stop (by omega)))
          have hm' : most ≤ out.length := by omega
          go_wp2_with fail
          go_ret
          rw [HRES.out]; exact HE.out
      · have HE := Lib.hid (HFIN.out (planS_stop (by omega)))
        have hnow' : t0 ≤ now := by omega
        go_wp2_with fail
        go_ret
        rw [HRES.out]; exact HE.out
    · obtain rfl : k = 1000 := by omega
      have HE := Lib.hid (HFIN.out rfl)
      go_wp2_with fail
      go_ret
      rw [HRES.out]; exact HE.out
end Go.Proofs.Ytehcndjpckolmaa.Pick
