/- The walks of the laws of layer 43 (pick): alive, PickPlans. -/
import Derived.Test.YtehcndjpckolmaaPickPlan
import Derived.Laws.AppendOwnNone
namespace Go.Proofs.Ytehcndjpckolmaa.Pick
open Go.RowKit Go.Proofs.Ytehcndjpckolmaa.Ints

theorem alive_ord : ordF 9 [⟨8, 0, 0⟩, ⟨1, 0, 0⟩] = [1] := by
  refine (ordF_eq (by simp) fun v => ?_).symm
  have : wants 9 [⟨8, 0, 0⟩, ⟨1, 0, 0⟩] = [1] := by kernel_rfl
  rw [this]

theorem needs_new (w : World) (t : TypeId) (l : List Need) (vs : Array Value) (hv : vs = ⟨l.flatMap enN⟩) (hl : l.length ≤ maxLen) (H : Nat) (hH : w.heap.size = H) : NRow (w.alloc (.cells vs t)) (.slice (some ⟨H, 0, none⟩) l.length l.length) l := by
  subst hv
  subst hH
  refine ⟨_, _, rfl, Nat.le_refl _, hl, Or.inr ⟨w.heap.size, 0, rfl, by simp, fun i x hi j hj => ?_⟩⟩
  have hg := flatMap_get enN_len l i x hi j hj
  have hlt : j < (enN x).length := by rw [enN_len]; exact hj
  rw [List.getElem?_eq_getElem hlt] at hg ⊢
  have := new_cells w (l.flatMap enN) t (i * 3 + j) _ hg
  rw [addr_add] at this
  rw [Nat.zero_add]
  rwa [Nat.zero_add] at this

theorem alive_any (w : World) : Calls Try.prog 29 #[] w fun e w' => e = .returned (.bool true) ∧ Below w.heap.size w w' := by
  go_enter Try.func29, Try.ntmps29
  go_wp2_with fail
  refine (next_any _ 2 [⟨8, 0, 0⟩, ⟨1, 0, 0⟩] 9 _ ?r (by decide)).mono ?_
  case r => exact needs_new _ 37 [⟨8, 0, 0⟩, ⟨1, 0, 0⟩] _ rfl (by decide) _ (by simp)
  rintro e w2 ⟨rfl, hb2⟩
  rw [alive_ord]
  simp only [List.headD_cons, List.isEmpty_cons, Bool.not_false]
  go_wp2_with fail
  go_ret
  exact ⟨rfl, below_then ((Below.refl _ _).alloc (Nat.le_refl _) _) (Nat.le_refl _) hb2⟩

theorem planS_len (tk each most : Int) (m : Nat) : ∀ (now : Int) (out : List Int) (own : List Need), (planS tk each most m now out own).length ≤ out.length + m := by
  induction m with
  | zero => intro now out own; exact Nat.le_refl _
  | succ m ih =>
    intro now out own
    unfold planS
    split
    · split
      · have := ih (now + each) out own; omega
      · rename_i i t _
        have := ih (now + each) (out ++ [i]) (own.set i.toNat ⟨now, 0, 0⟩)
        simp at this; omega
    · omega

set_option maxRecDepth 100000 in
theorem plans_long (fr tk each most : Int) (ao : Option Addr) (n ac : Nat) (w : World) (hl : 10 < n) :
    Calls Try.prog 6 #[.agg #[.int .i64 fr, .int .i64 tk, .int .i64 each, .int .i64 most], .slice ao n ac] w fun e w' => e = .returned (.bool true) ∧ Below w.heap.size w w' := by
  have g1 : decide ((10 : Int) < n) = true := decide_eq_true (by omega)
  go_enter Try.func6, Try.ntmps6
  go_wp2
  go_ret
  exact ⟨rfl, (Below.refl _ _).alloc (Nat.le_refl _) _⟩

set_option maxRecDepth 100000 in
set_option maxHeartbeats 4000000 in
theorem plans_short (fr tk each most : Int) (ao : Option Addr) (ac : Nat) (l : List Need) (w : World) (ha : NRow w (.slice ao l.length ac) l) (hl : l.length ≤ 10) (hnil : ao = none → ac = 0) :
    Calls Try.prog 6 #[.agg #[.int .i64 fr, .int .i64 tk, .int .i64 each, .int .i64 most], .slice ao l.length ac] w fun e w' => e = .returned (.bool true) ∧ Below w.heap.size w w' := by
  have HA := Lib.hid ha
  clear ha
  have g1 : decide ((10 : Int) < l.length) = false := decide_eq_false (by omega)
  obtain ⟨i0, hi, hz0, hz1, hz2⟩ := info_parts info_I
  have HI := Lib.hid hi
  have HZ0 := Lib.hid hz0
  have HZ1 := Lib.hid hz1
  have HZ2 := Lib.hid hz2
  clear hi hz0 hz1 hz2
  obtain ⟨j0, hi, hz0, hz1, hz2⟩ := info_parts info_N
  have JI := Lib.hid hi
  have JZ0 := Lib.hid hz0
  have JZ1 := Lib.hid hz1
  have JZ2 := Lib.hid hz2
  clear hi hz0 hz1 hz2
  go_enter Try.func6, Try.ntmps6
  go_upto_region 4 with fail
  obtain ⟨W0, hW0⟩ : ∃ W0, W0 = w.alloc (.cells #[.int .i64 fr, .int .i64 tk, .int .i64 each, .int .i64 most] 50) := ⟨_, rfl⟩
  have x0 : W0.cell? ⟨w.heap.size, 0, none⟩ = some (.int .i64 fr) := by rw [hW0]; go_simp
  have x1 : W0.cell? ⟨w.heap.size, 1, none⟩ = some (.int .i64 tk) := by rw [hW0]; go_simp
  have x2 : W0.cell? ⟨w.heap.size, 2, none⟩ = some (.int .i64 each) := by rw [hW0]; go_simp
  have x3 : W0.cell? ⟨w.heap.size, 3, none⟩ = some (.int .i64 most) := by rw [hW0]; go_simp
  have hs0 : W0.heap.size = w.heap.size + 1 := by rw [hW0]; simp
  have hb0 : Below w.heap.size w W0 := by rw [hW0]; exact (Below.refl _ _).alloc (Nat.le_refl _) _
  rw [← hW0]
  have HA0 := Lib.hid (Lst.below HA.out hb0)
  have HB0 := Lib.hid hb0
  have HS0 := Lib.hid hs0
  clear hW0 hb0 hs0
  go_cut [6] (fun v wx => ∃ vo vc, v = .slice vo l.length vc ∧ Hid (wx.ownsRow (w.heap.size + 1) 37 3 v l.length (l.flatMap enN)) ∧ Below (w.heap.size + 1) W0 wx)
  case first =>
    have hmade := World.ownsRow_made (base := w.heap.size + 1) (e := 37) (size := 3) W0 #[] 0 (Nat.le_of_eq HS0.out.symm) (Nat.zero_le _) (by simp)
    have HM := Lib.hid hmade
    clear hmade
    cases ao with
    | none =>
      have h0 : l = [] := by
        cases l with
        | nil => rfl
        | cons x l => obtain ⟨b, off, e, _⟩ := Lst.get HA.out (show 0 < (x :: l).length by simp); cases e
      obtain rfl := hnil rfl
      subst h0
      go_wp2_with (at_builtin; refine wpList_append_own_none rfl _ _ 35 rfl (w.heap.size + 1) 37 j0 3 Try.underlying35 JI.out _ _ _ rfl HM.out rfl ?_)
      go_meet
      exact ⟨_, _, rfl, HM, (Below.refl _ _).alloc (Nat.le_of_eq HS0.out.symm) _⟩
    | some a =>
      have HN := Lib.hid (Lst.news enN_len (by decide) (HA0.out.alloc (.cells #[] 37)))
      go_wp2_with (at_builtin; refine wpList_append_own _ rfl _ _ 35 rfl (w.heap.size + 1) 37 j0 (.agg #[.int .i64 0, .int .i64 0, .int .i64 0]) 3 24 Try.underlying35 JI.out JZ0.out JZ1.out JZ2.out rfl (by decide) _ _ _ rfl HM.out a l.length ac (l.flatMap enN) rfl ?qc1 ?qc2 ?qc3 ?qc4 ?qc5 ?qc6 ?_)
      case qc1 => exact flatMap_len enN_len l
      case qc2 => exact HN.out
      case qc3 => exact flatN_one l
      case qc4 => unfold maxLen; omega
      case qc5 => omega
      case qc6 => simp; have := HS0.out; omega
      intro v' w1 hown hgrow _
      have hown' : w1.ownsRow (w.heap.size + 1) 37 3 v' l.length (l.flatMap enN) := by simpa using hown
      obtain ⟨vo, vc, rfl⟩ := row_form hown'
      have hb1 : Below (w.heap.size + 1) W0 w1 := ((Below.refl _ _).alloc (Nat.le_of_eq HS0.out.symm) _).grown hgrow (by simp; have := HS0.out; omega) (by intro k hk; simp [Value.ownBlock] at hk; have := HS0.out; omega)
      have H1 := Lib.hid (And.intro hown' hb1)
      clear hown hgrow hown' hb1
      go_wp2
      go_meet
      exact ⟨_, _, rfl, Lib.hid H1.out.1, H1.out.2⟩
  case rest =>
    obtain ⟨vo, vc, rfl, hv, hb1⟩ := hcut
    obtain ⟨f0, hf0⟩ : ∃ x, x = cutM fr := ⟨_, rfl⟩
    obtain ⟨t0, ht0⟩ : ∃ x, x = cutM tk := ⟨_, rfl⟩
    obtain ⟨e0, he0⟩ : ∃ x, x = min (max each 1) 1099511627776 := ⟨_, rfl⟩
    have fb := cutM_bd fr
    have tb := cutM_bd tk
    have eb : 1 ≤ e0 ∧ e0 ≤ 1099511627776 := by omega
    rw [← hf0] at fb
    rw [← ht0] at tb
    have E1 : min (max fr 0) 1099511627776 = f0 := hf0.symm
    have E2 : min (max tk 0) 1099511627776 = t0 := ht0.symm
    have E3 : min (max each 1) 1099511627776 = e0 := he0.symm
    obtain ⟨fb1, fb2⟩ := fb
    obtain ⟨eb1, eb2⟩ := eb
    have hsz1 : w.heap.size + 1 ≤ wc.heap.size := by have := hb1.size; have := HS0.out; omega
    have hg1 : w.heap.size < wc.heap.size := by omega
    have y0 := (hb1.cell (p := ⟨w.heap.size, 0, none⟩) (by simp)).trans x0
    have y1 := (hb1.cell (p := ⟨w.heap.size, 1, none⟩) (by simp)).trans x1
    have y2 := (hb1.cell (p := ⟨w.heap.size, 2, none⟩) (by simp)).trans x2
    have y3 := (hb1.cell (p := ⟨w.heap.size, 3, none⟩) (by simp)).trans x3
    have EQ := Lib.hid (And.intro E1 (And.intro E2 E3))
    have EQ2 := Lib.hid (And.intro hf0 (And.intro ht0 he0))
    clear E1 E2 E3 hf0 ht0 he0
    go_wp2_with fail
    go_quiet ((go_at_call 32; exact quiet_left (cut_any _ _ _ _)))
    rw [EQ.out.1, EQ.out.2.1, EQ.out.2.2]
    go_wp2_with fail
    have hbd : ∀ n, Below (w.heap.size + 1) W0 (wc.drewN n) := fun n => below_drewN hb1 n
    have hvd : ∀ n, Hid ((wc.drewN n).ownsRow (w.heap.size + 1) 37 3 (.slice vo l.length vc) l.length (l.flatMap enN)) := fun n => hv
    have HBD := Lib.hid hbd
    have HVD := Lib.hid hvd
    clear hbd hvd
    obtain ⟨res, hres⟩ : ∃ r, r = planS t0 e0 most 1000 f0 [] l := ⟨_, rfl⟩
    have HRES := Lib.hid hres.symm
    clear hres
    go_loopw [5, 7, 10] (fun ov nv kv wr => ∃ (k : Nat) (now : Int) (oo : Option Addr) (oc : Nat) (out : List Int) (own : List Need), k ≤ 1000 ∧ kv = .int .i64 k ∧ nv = .int .i64 now ∧ 0 ≤ now ∧ now ≤ ((k : Int) + 1) * 1099511627776 ∧ ov = .slice oo out.length oc ∧ out.length ≤ k ∧
        Hid (planS t0 e0 most (1000 - k) now out own = res) ∧ Hid (own.length = l.length) ∧
        Hid (wr.ownsRow (w.heap.size + 1) 3 1 ov out.length (out.flatMap enI) ∧ wr.ownsRow (w.heap.size + 1) 37 3 (.slice vo l.length vc) l.length (own.flatMap enN)) ∧ Below (w.heap.size + 1) W0 wr) (fun _ _ kv _ => 1000 - (intOf kv).toNat)
    case atStart => exact ⟨0, f0, none, 0, [], l, by omega, rfl, rfl, fb1, by omega, rfl, by simp, HRES, Lib.hid rfl, Lib.hid ⟨World.ownsRow_nil _ _ _ _, (HVD.out _).out⟩, HBD.out _⟩
    case round =>
      obtain ⟨k, now, oo, oc, out, own, hk, rfl, rfl, hn0, hn1, rfl, hol, hres, hlen, hrows, hbl⟩ := hrel
      have hsz : w.heap.size + 1 ≤ wr.heap.size := by have := hbl.size; have := HS0.out; omega
      have hgb : w.heap.size < wr.heap.size := by omega
      have z0 := (hbl.cell (p := ⟨w.heap.size, 0, none⟩) (by simp)).trans x0
      have z1 := (hbl.cell (p := ⟨w.heap.size, 1, none⟩) (by simp)).trans x1
      have z2 := (hbl.cell (p := ⟨w.heap.size, 2, none⟩) (by simp)).trans x2
      have z3 := (hbl.cell (p := ⟨w.heap.size, 3, none⟩) (by simp)).trans x3
      clear x0 x1 x2 x3 y0 y1 y2 y3
      by_cases hk1 : k < 1000
      · by_cases hnow : now < t0
        · by_cases hm : (out.length : Int) < most
          · have HCOND := Lib.hid (And.intro hnow hm)
            have hrow : NRow wr (.slice vo own.length vc) own := Lst.owned enN_len (by decide) rfl (by rw [hlen.out]; exact hrows.out.2)
            have hnx := order_any vo vc own now wr hrow (by rw [hlen.out]; omega)
            rw [hlen.out] at hnx
            have HNX := Lib.hid hnx
            have hsub : 1000 - k = (1000 - (k + 1)) + 1 := by omega
            have HSUB := Lib.hid hsub
            have hnb : now + e0 ≤ ((k : Int) + 1 + 1) * 1099511627776 := by omega
            clear hrow hnx hsub
            cases ho : ordF now own with
            | nil =>
              have hst := planS_none (m := 1000 - (k + 1)) (each := e0) HCOND.out ho
              rw [← HSUB.out, hres.out] at hst
              have HST := Lib.hid hst.symm
              have hnx := HNX.out
              rw [ho] at hnx
              have HNX2 := Lib.hid hnx
              clear hst hnx ho HNX
              go_wp2_with fail
              refine HNX2.out.mono ?_
              rintro e w2 ⟨ov, rfl, hov, hb2, hfr⟩
              obtain ⟨oo2, oc2, rfl, -, -⟩ := Lst.form hov
              have HR2 := Lib.hid (And.intro (keep_row hrows.out.1 hb2) (keep_row hrows.out.2 hb2))
              have hbl2 := hbl.trans (hb2.mono hsz)
              clear hb2 hov
              simp only [List.length_nil]
              go_wp2_with fail
              go_roundw
              case rel => exact ⟨k + 1, now + e0, oo, oc, out, own, by omega, by go_num, rfl, by omega, by simpa using hnb, rfl, by omega, HST, hlen, HR2, hbl2⟩
              case measure => simp [intOf]; omega
            | cons i t =>
              have hst := planS_some (m := 1000 - (k + 1)) (each := e0) HCOND.out ho
              rw [← HSUB.out, hres.out] at hst
              have HST := Lib.hid hst.symm
              have hnx := HNX.out
              rw [ho] at hnx
              have HNX2 := Lib.hid hnx
              obtain ⟨hi0, hi1⟩ := ordF_head ho
              rw [hlen.out] at hi1
              have htl : (i :: t).length ≤ 1000 := by rw [← ho, ordF_len]; exact Nat.le_trans (wants_len _ _) (by rw [hlen.out]; omega)
              clear hst hnx ho HNX
              go_wp2_with fail
              refine HNX2.out.mono ?_
              rintro e w2 ⟨ov, rfl, hov, hb2, hfr⟩
              obtain ⟨oo2, oc2, rfl, -, -⟩ := Lst.form hov
              obtain ⟨ob, ooff, rfl, hob, oc0⟩ := int_at hov (k := 0) rfl
              rw [Nat.add_zero] at oc0
              have HR2 := Lib.hid (And.intro (keep_row hrows.out.1 hb2) (keep_row hrows.out.2 hb2))
              have hbl2 := hbl.trans (hb2.mono hsz)
              have hs2 : w.heap.size + 1 ≤ w2.heap.size := by have := hbl2.size; have := HS0.out; omega
              have HOV := Lib.hid hov
              clear hb2 hov
              have hlc : (i :: t).length = t.length + 1 := rfl
              rw [hlc] at htl ⊢
              clear hlc
              go_wp2_with (at_builtin; refine wpList_append_own _ rfl _ _ 40 rfl (w.heap.size + 1) 3 i0 (.int .i64 0) 1 8 Try.underlying40 HI.out HZ0.out HZ1.out HZ2.out rfl (by decide) (.slice oo out.length oc) _ _ rfl (HR2.out.1.alloc _) ⟨_, 0, none⟩ 1 1 (enI i) rfl rfl ?c1 ?c2 ?c3 ?c4 ?c5 ?_)
              case c1 => exact new_cells _ (enI i) _
              case c2 => intro u hu; simp at hu; subst hu; rfl
              case c3 => unfold maxLen; omega
              case c4 => omega
              case c5 => simp; omega
              intro v' w3 hown3 hgrow3 _
              obtain ⟨g3, cap3, rfl⟩ := ownsRow_succ hown3
              have hbl3 : Below (w.heap.size + 1) W0 w3 := (hbl2.alloc hs2 _).grown hgrow3 (by simp; omega) (fun k hk => (World.ownsRow.lt HR2.out.1 k hk).1)
              have hown4 : w3.ownsRow (w.heap.size + 1) 37 3 (.slice vo l.length vc) l.length (own.flatMap enN) := (HR2.out.2.alloc _).kept hgrow3 (rows_apart HR2.out.2 HR2.out.1 (by decide))
              have hobne : some ob ≠ (Value.slice oo out.length oc).ownBlock := fun e => by
                have h1 := (World.ownsRow.lt hrows.out.1 ob e.symm).2
                have h2 : wr.heap.size ≤ ob := hfr _ _ _ rfl
                omega
              have oc3 : w3.cell? ⟨ob, ooff, none⟩ = some (.int .i64 i) := hgrow3.cell (a := ⟨ob, ooff, none⟩) (by rw [World.cell?_alloc_lt _ _ _ hob]; exact oc0) hobne
              obtain ⟨gN, capN, hvN, -, hgN⟩ := World.ownsRow.form hown4 (by omega)
              cases hvN
              obtain ⟨m, rfl⟩ := Int.eq_ofNat_of_zero_le hi0
              have fN := fun j => World.ownsRow.frozenAt hown4 j
              obtain ⟨y, n0, n1, n2⟩ := cells_own hown4 hlen.out (m := m) (by omega)
              obtain ⟨hown5, hgrow5⟩ := set_own hown4 m ⟨now, 0, 0⟩
              have hown6 := hown3.kept hgrow5 (rows_apart hown3 hown4 (by decide))
              have hbl5 : Below (w.heap.size + 1) W0 _ := hbl3.grown hgrow5 (by have := hbl3.size; have := HS0.out; omega) (by rintro k ⟨⟩; exact (World.ownsRow.lt hown4 gN rfl).1)
              have H5 := Lib.hid (And.intro hown5 (And.intro hown6 hbl5))
              have hlen5 : (out ++ [(m : Int)]).length = out.length + 1 := by simp
              have HL5 := Lib.hid (And.intro hlen5 (show (own.set m ⟨now, 0, 0⟩).length = l.length by rw [List.length_set]; exact hlen.out))
              rw [Int.toNat_natCast] at HST
              clear hown3 hgrow3 hown4 hown5 hgrow5 hown6 hbl5 hlen5 hobne hfr oc0
              go_wp2
              go_roundw
              case rel => exact ⟨k + 1, now + e0, some ⟨g3, 0, none⟩, cap3, out ++ [(m : Int)], own.set m ⟨now, 0, 0⟩, by omega, by go_num, rfl, by omega, by simpa using hnb, by rw [HL5.out.1], by rw [HL5.out.1]; omega, HST, Lib.hid HL5.out.2, Lib.hid ⟨by rw [HL5.out.1, List.flatMap_append, List.flatMap_singleton]; exact H5.out.2.1, H5.out.1⟩, H5.out.2.2⟩
              case measure => simp [intOf]; omega
          · have hm' : most ≤ out.length := by omega
            have hrow := Lst.of_owns (v := .slice oo out.length oc) enI_len (by decide) hrows.out.1
            have HROW := Lib.hid hrow
            have hla : out.length ≤ 1000 := by omega
            have heq : planS t0 e0 most 1000 f0 [] l = out := HRES.out.trans (hres.out.symm.trans (planS_stop (by omega)))
            have HEQ := Lib.hid heq
            have HBW := Lib.hid (HB0.out.trans (hbl.mono (by omega)))
            have HAw := Lib.hid (Lst.below HA0.out (by rw [HS0.out]; exact hbl))
            clear hrow heq
            go_wp2_with fail
            refine (plan_any fr tk each most ao ac l _ HAw.out (by omega)).mono ?_
            rintro e w2 ⟨pv, rfl, hp, hb2, -⟩
            rw [← EQ2.out.1, ← EQ2.out.2.1, ← EQ2.out.2.2, HEQ.out] at hp
            obtain ⟨po, pc, rfl, -, -⟩ := Lst.form hp
            have HP := Lib.hid (And.intro hp (Lst.below HROW.out hb2))
            have HB2 := Lib.hid (below_then HBW.out (Nat.le_refl _) hb2)
            clear hp hb2
            go_wp2_with fail
            refine (equal_lit true po oo pc oc out out _ (eqI_self out) HP.out.1 HP.out.2 (by omega) (by omega)).mono ?_
            rintro e w3 ⟨rfl, hb3⟩
            have HB3 := Lib.hid (below_then HB2.out (Nat.le_refl _) hb3)
            clear hb3
            go_wp2_with fail
            refine (alive_any _).mono ?_
            rintro e w4 ⟨rfl, hb4⟩
            have HB4 := Lib.hid (below_then HB3.out (Nat.le_refl _) hb4)
            clear hb4
            go_wp2_with fail
            go_ret
            exact ⟨rfl, HB4.out⟩
        · have hnow' : t0 ≤ now := by omega
          have hrow := Lst.of_owns (v := .slice oo out.length oc) enI_len (by decide) hrows.out.1
          have HROW := Lib.hid hrow
          have hla : out.length ≤ 1000 := by omega
          have heq : planS t0 e0 most 1000 f0 [] l = out := HRES.out.trans (hres.out.symm.trans (planS_stop (by omega)))
          have HEQ := Lib.hid heq
          have HBW := Lib.hid (HB0.out.trans (hbl.mono (by omega)))
          have HAw := Lib.hid (Lst.below HA0.out (by rw [HS0.out]; exact hbl))
          clear hrow heq
          go_wp2_with fail
          refine (plan_any fr tk each most ao ac l _ HAw.out (by omega)).mono ?_
          rintro e w2 ⟨pv, rfl, hp, hb2, -⟩
          rw [← EQ2.out.1, ← EQ2.out.2.1, ← EQ2.out.2.2, HEQ.out] at hp
          obtain ⟨po, pc, rfl, -, -⟩ := Lst.form hp
          have HP := Lib.hid (And.intro hp (Lst.below HROW.out hb2))
          have HB2 := Lib.hid (below_then HBW.out (Nat.le_refl _) hb2)
          clear hp hb2
          go_wp2_with fail
          refine (equal_lit true po oo pc oc out out _ (eqI_self out) HP.out.1 HP.out.2 (by omega) (by omega)).mono ?_
          rintro e w3 ⟨rfl, hb3⟩
          have HB3 := Lib.hid (below_then HB2.out (Nat.le_refl _) hb3)
          clear hb3
          go_wp2_with fail
          refine (alive_any _).mono ?_
          rintro e w4 ⟨rfl, hb4⟩
          have HB4 := Lib.hid (below_then HB3.out (Nat.le_refl _) hb4)
          clear hb4
          go_wp2_with fail
          go_ret
          exact ⟨rfl, HB4.out⟩
      · obtain rfl : k = 1000 := by omega
        have hrow := Lst.of_owns (v := .slice oo out.length oc) enI_len (by decide) hrows.out.1
        have HROW := Lib.hid hrow
        have hla : out.length ≤ 1000 := by omega
        have heq : planS t0 e0 most 1000 f0 [] l = out := HRES.out.trans (hres.out.symm.trans rfl)
        have HEQ := Lib.hid heq
        have HBW := Lib.hid (HB0.out.trans (hbl.mono (by omega)))
        have HAw := Lib.hid (Lst.below HA0.out (by rw [HS0.out]; exact hbl))
        clear hrow heq
        go_wp2_with fail
        refine (plan_any fr tk each most ao ac l _ HAw.out (by omega)).mono ?_
        rintro e w2 ⟨pv, rfl, hp, hb2, -⟩
        rw [← EQ2.out.1, ← EQ2.out.2.1, ← EQ2.out.2.2, HEQ.out] at hp
        obtain ⟨po, pc, rfl, -, -⟩ := Lst.form hp
        have HP := Lib.hid (And.intro hp (Lst.below HROW.out hb2))
        have HB2 := Lib.hid (below_then HBW.out (Nat.le_refl _) hb2)
        clear hp hb2
        go_wp2_with fail
        refine (equal_lit true po oo pc oc out out _ (eqI_self out) HP.out.1 HP.out.2 (by omega) (by omega)).mono ?_
        rintro e w3 ⟨rfl, hb3⟩
        have HB3 := Lib.hid (below_then HB2.out (Nat.le_refl _) hb3)
        clear hb3
        go_wp2_with fail
        refine (alive_any _).mono ?_
        rintro e w4 ⟨rfl, hb4⟩
        have HB4 := Lib.hid (below_then HB3.out (Nat.le_refl _) hb4)
        clear hb4
        go_wp2_with fail
        go_ret
        exact ⟨rfl, HB4.out⟩
end Go.Proofs.Ytehcndjpckolmaa.Pick
