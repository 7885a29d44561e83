/- Layer 6 (dots), the document's side: less, put, Of, Has, Covers, Known, Rest; Same of layer 5. -/
import Derived.Test.YtihfcohebgemdaaDotCov2
import Derived.Test.YtihfcohebgemdaaVecRef2
set_option linter.unusedSimpArgs false
set_option linter.unusedVariables false
namespace Go.Proofs.Ytihfcohebgemdaa.Dots
open Go.RowKit Go.Proofs.Ytihfcohebgemdaa.Vec

theorem held_R : Try.prog.stoodInHeld 42 = false := by kernel_rfl
theorem guard_R : Try.prog.eqGuardType Try.prog.depth 42 = false := by kernel_rfl
theorem fields_R : Try.prog.underlying 42 = some (.struct (Try.prog.fieldsOf 42)) := by unfold Program.fieldsOf; rw [Try.underlying42]
theorem eqR_run (x y : P) (w : World) : (Op.equalIn 10000 42 (vD x) (vD y)).run Try.prog w = .ok (eqD x y) w := by
  rw [run_equalIn_agg w 9999 _ _ _ fields_R held_R]
  unfold Program.fieldsOf
  rw [Try.underlying42]
  unfold eqD
  go_simp
  by_cases h1 : x.who = y.who <;> by_cases h2 : x.n = y.n <;> simp [h1, h2]
theorem neq_runR (x y : P) (q : Bool) (h : eqD x y = q) (w : World) : (binOp .neq 42 (.agg #[.int .i64 x.who, .int .i64 x.n]) (.agg #[.int .i64 y.who, .int .i64 y.n])).run Try.prog w = .ok (.bool (!q)) w := by
  rw [run_neq_struct, eqR_run, h]; rfl
theorem eql_runR (x y : P) (q : Bool) (h : eqD x y = q) (w : World) : (binOp .eql 42 (.agg #[.int .i64 x.who, .int .i64 x.n]) (.agg #[.int .i64 y.who, .int .i64 y.n])).run Try.prog w = .ok (.bool q) w := by
  rw [run_eql_struct, eqR_run, h]; rfl
theorem guard_runR (op : BinOp) (a b : Operand) (xs ys : Array Value) (w : World) : (eqGuard op 42 a b (.agg xs) (.agg ys)).run Try.prog w = .ok () w := run_eqGuard_agg w op _ a b xs ys guard_R

theorem refless_any (a b : P) (w : World) : Calls Try.prog 70 #[vD a, vD b] w fun e w' => e = .returned (.bool (lessB a b)) ∧ Below w.heap.size w w' := by
  unfold lessB
  by_cases h1 : a.who < b.who
  · go_enter Try.func70, Try.ntmps70
    go_wp2
    go_ret
    exact ⟨ret_bool (by simp [h1]), ((Below.refl _ _).alloc (Nat.le_refl _) _).alloc (by simp) _⟩
  · cases h2 : (a.who == b.who)
    all_goals
      go_enter Try.func70, Try.ntmps70
      go_wp2
      go_ret
      exact ⟨ret_bool (by first | (simp [h1, h2]; done) | (simp [h1, h2]; omega)), ((Below.refl _ _).alloc (Nat.le_refl _) _).alloc (by simp) _⟩
theorem refless_lit (q : Bool) (a b : P) (w : World) (h : lessB a b = q) : Calls Try.prog 70 #[vD a, vD b] w fun e w' => e = .returned (.bool q) ∧ Below w.heap.size w w' := by
  subst h; exact refless_any a b w

set_option maxRecDepth 100000 in
set_option maxHeartbeats 4000000 in
theorem refput_any (ao : Option Addr) (ac : Nat) (l : List P) (x : P) (w : World) (ha : DRow w (.slice ao l.length ac) l) (h1 : l.length ≤ 1000) :
    Calls Try.prog 35 #[.slice ao l.length ac, .agg #[.int .i64 x.who, .int .i64 x.n]] w (RowPost w (putF l x)) := by
  have HA := Lib.hid ha
  clear ha
  obtain ⟨i0, hi, hz0, hz1, hz2⟩ := info_parts info_R
  have HI := Lib.hid hi
  have HZ0 := Lib.hid hz0
  have HZ1 := Lib.hid hz1
  have HZ2 := Lib.hid hz2
  clear hi hz0 hz1 hz2
  go_enter Try.func35, Try.ntmps35
  go_wp2_with fail
  obtain ⟨W0, hW0⟩ : ∃ W0, W0 = w.alloc (.cells #[.int .i64 x.who, .int .i64 x.n] 42) := ⟨_, rfl⟩
  have e0 : W0.cell? ⟨w.heap.size, 0, none⟩ = some (.int .i64 x.who) := by rw [hW0]; go_simp
  have e1 : W0.cell? ⟨w.heap.size, 1, none⟩ = some (.int .i64 x.n) := by rw [hW0]; go_simp
  have hs0 : W0.heap.size = w.heap.size + 1 := by rw [hW0]; simp
  have hb0 : Below w.heap.size w W0 := by rw [hW0]; exact (Below.refl _ _).alloc (Nat.le_refl _) _
  have HA0 := Lib.hid (Lst.below HA.out hb0)
  rw [← hW0]
  have HS0 := Lib.hid hs0
  have HB0 := Lib.hid hb0
  have E := Lib.hid (And.intro e0 e1)
  clear hW0 hs0 hb0 e0 e1
  go_loopw [5, 6, 7] (fun ov nv iv wr => ∃ (k : Nat) (inn : Bool) (out : List P), k ≤ l.length ∧ iv = .int .i64 k ∧ nv = .bool inn ∧ Hid (out ++ putG x inn (l.drop k) = putF l x) ∧ out.length ≤ 2 * k ∧ Hid (wr.ownsRow (w.heap.size + 1) 42 2 ov out.length (out.flatMap enD)) ∧ Below (w.heap.size + 1) W0 wr) (fun _ _ iv _ => l.length - (vInt iv).toNat)
  case atStart => exact ⟨0, false, [], by omega, rfl, rfl, Lib.hid (by simp [putF]), by simp, Lib.hid (World.ownsRow_nil _ _ _ _), Below.refl _ _⟩
  case round =>
    obtain ⟨k, inn, out, hk, rfl, rfl, hput, hol, hown, hbl⟩ := hrel
    have hsz : w.heap.size + 1 ≤ wr.heap.size := by have := hbl.size; have := HS0.out; omega
    by_cases hlt : k < l.length
    · have HA' := Lib.hid (Lst.below HA0.out (by rw [HS0.out]; exact hbl))
      obtain ⟨ab, aoff, rfl, hab, a0, a1⟩ := dot_at HA'.out (List.getElem?_eq_getElem hlt)
      have hdl := List.drop_eq_getElem_cons hlt
      obtain ⟨y, hy⟩ : ∃ y, y = l[k] := ⟨_, rfl⟩
      rw [← hy] at a0 a1 hdl
      have hpl := hput.out
      rw [hdl] at hpl
      have HY := Lib.hid hy
      have HP := Lib.hid hpl
      clear hy hdl hpl hput
      have x0 := (hbl.cell (p := ⟨w.heap.size, 0, none⟩) (by simp)).trans E.out.1
      have x1 := (hbl.cell (p := ⟨w.heap.size, 1, none⟩) (by simp)).trans E.out.2
      have hs1 : w.heap.size < wr.heap.size := by omega
      go_upto_region 6 with fail
      go_cut [24] (fun c wx => c = .bool (!inn && !lessB y x) ∧ Below wr.heap.size wr wx)
      case first =>
        cases inn
        · have HLS := Lib.hid (fun w' => refless_lit _ y x w' rfl)
          refine wp_region_calm (by kernel_rfl) (by kernel_rfl) ?_
          repeat (go_big_quiet_step (first | (go_at_call 70; exact calm (HLS.out _))))
          refine wpQuiet_nil ?_
          rintro _ ⟨z, rfl⟩
          go_wp2_with fail
          go_meet
          exact ⟨by simp, z.below⟩
        · go_quiet (fail)
          go_wp2_with fail
          go_meet
          exact ⟨by simp, below_drewN (Below.refl _ _) _⟩
      case rest =>
        obtain ⟨rfl, hbx⟩ := hcut
        have HO := Lib.hid (World.ownsRow.kept hown.out (row := none) ⟨hbx.os, hbx.tape, hbx.output, hbx.size, fun i hi _ => hbx.block i hi⟩ (by cases u5.ownBlock <;> simp))
        have hb2 := below_then hbl (Nat.le_of_eq HS0.out.symm) hbx
        have y0 := (hbx.cell (p := ⟨w.heap.size, 0, none⟩) (by simp; omega)).trans x0
        have y1 := (hbx.cell (p := ⟨w.heap.size, 1, none⟩) (by simp; omega)).trans x1
        have hsz2 := hbx.size
        clear x0 x1 a0 a1 hab hown hbl
        go_upto_if 24 with fail
        go_cut [5, 6] (fun ov nv wx => ∃ inn' out', nv = .bool inn' ∧ Hid (out' ++ ((if y != x then [y] else []) ++ putG x inn' (l.drop (k + 1))) = putF l x) ∧ out'.length ≤ 2 * k + 1 ∧ Hid (wx.ownsRow (w.heap.size + 1) 42 2 ov out'.length (out'.flatMap enD)) ∧ Below (w.heap.size + 1) W0 wx)
        case first =>
          cases hc : (!inn && !lessB y x)
          · go_wp2_with fail
            go_meet
            exact ⟨inn, out, rfl, by have := HP.out; simp only [putG, hc] at this; simpa using Lib.hid this, by omega, HO, hb2⟩
          · go_wp2_with (at_builtin; refine wpList_append_own _ rfl _ _ 34 rfl (w.heap.size + 1) 42 i0 (.agg #[.int .i64 0, .int .i64 0]) 2 16 Try.underlying34 HI.out HZ0.out HZ1.out HZ2.out rfl (by decide) _ _ _ rfl (HO.out.alloc _) ⟨wc.heap.size, 0, none⟩ 1 1 (enD x) rfl rfl ?c1 ?c2 ?c3 ?c4 ?c5 ?_)
            case c1 => exact new_cells _ (enD x) _
            case c2 => exact enD_one x
            case c3 => unfold maxLen; omega
            case c4 => omega
            case c5 => simp; omega
            intro v' w3 hown3 hgrow3 _
            have R := Lib.hid hown3
            have hbl3 : Below (w.heap.size + 1) W0 w3 := (hb2.alloc (by omega) _).grown hgrow3 (by simp; omega) (fun k hk => (World.ownsRow.lt HO.out k hk).1)
            clear hown3 hgrow3
            go_wp2
            go_meet
            have h5 : inn = false := by cases inn <;> simp_all
            exact ⟨true, out ++ [x], rfl, Lib.hid (by have := HP.out; simp only [putG, hc] at this; rw [h5] at this; simpa using this), by simp; omega, by rw [List.length_append, List.flatMap_append, List.flatMap_singleton]; exact R, hbl3⟩
        case rest =>
          obtain ⟨inn', out', rfl, hpl, hol', hown', hb3⟩ := hcut
          have HA3 := Lib.hid (Lst.below HA0.out (by rw [HS0.out]; exact hb3))
          obtain ⟨ab', aoff', hae, hab, a0, a1⟩ := dot_at HA3.out (List.getElem?_eq_getElem hlt)
          cases hae
          rw [← HY.out] at a0 a1
          have x0 := (hb3.cell (p := ⟨w.heap.size, 0, none⟩) (by simp)).trans E.out.1
          have x1 := (hb3.cell (p := ⟨w.heap.size, 1, none⟩) (by simp)).trans E.out.2
          have hs3 := hb3.size
          have hs4 : w.heap.size < wc.heap.size := by have := HS0.out; omega
          have hgd := guard_runR
          by_cases hqq : y = x
          · have HQ := Lib.hid hqq
            have hnq := neq_runR y x true ((eqD_iff y x).2 hqq)
            clear hqq
            go_wp2_with fail
            go_quiet (fail)
            go_wp2_with fail
            go_roundw
            case rel => exact ⟨k + 1, inn', out', by omega, by go_num, rfl, Lib.hid (by have := hpl.out; simpa [HQ.out] using this), by omega, hown', below_drewN hb3 _⟩
            case measure => simp [vInt]; omega
          · have HQ := Lib.hid hqq
            have hnq := neq_runR y x false (by cases h : eqD y x with | false => rfl | true => exact absurd ((eqD_iff y x).1 h) hqq)
            clear hqq
            have HOd : ∀ q, Hid ((wc.drewN q).ownsRow (w.heap.size + 1) 42 2 u5 out'.length (out'.flatMap enD)) := fun q => hown'
            go_wp2_with fail
            go_quiet (fail)
            go_wp2_with (at_builtin; refine wpList_append_own _ rfl _ _ 34 rfl (w.heap.size + 1) 42 i0 (.agg #[.int .i64 0, .int .i64 0]) 2 16 Try.underlying34 HI.out HZ0.out HZ1.out HZ2.out rfl (by decide) _ _ _ rfl ((HOd _).out.alloc _) ⟨_, 0, none⟩ 1 1 (enD y) rfl rfl ?d1 ?d2 ?d3 ?d4 ?d5 ?_)
            case d1 => exact new_cells _ (enD y) _
            case d2 => exact enD_one y
            case d3 => unfold maxLen; omega
            case d4 => omega
            case d5 => simp; omega
            intro v' w3 hown3 hgrow3 _
            have R := Lib.hid hown3
            have hbl3 : Below (w.heap.size + 1) W0 w3 := ((below_drewN hb3 _).alloc (by simp; omega) _).grown hgrow3 (by simp; omega) (fun k hk => (World.ownsRow.lt hown'.out k hk).1)
            clear hown3 hgrow3
            go_wp2
            go_roundw
            case rel => exact ⟨k + 1, inn', out' ++ [y], by omega, by go_num, rfl, Lib.hid (by have := hpl.out; simpa [HQ.out] using this), by simp; omega, by rw [List.length_append, List.flatMap_append, List.flatMap_singleton]; exact R, hbl3⟩
            case measure => simp [vInt]; omega
    · obtain rfl : k = l.length := by omega
      have hpl := hput.out
      rw [List.drop_length] at hpl
      have HP := Lib.hid hpl
      clear hpl hput
      have x0 := (hbl.cell (p := ⟨w.heap.size, 0, none⟩) (by simp)).trans E.out.1
      have x1 := (hbl.cell (p := ⟨w.heap.size, 1, none⟩) (by simp)).trans E.out.2
      have hs1 : w.heap.size < wr.heap.size := by omega
      have hwb : ∀ {u : World}, Below (w.heap.size + 1) W0 u → Below w.heap.size w u := fun h => HB0.out.trans (h.mono (by omega))
      cases inn
      · have hp2 : out ++ [x] = putF l x := by have := HP.out; simpa [putG] using this
        have HP2 := Lib.hid hp2
        clear hp2
        go_wp2_with (at_builtin; refine wpList_append_own _ rfl _ _ 34 rfl (w.heap.size + 1) 42 i0 (.agg #[.int .i64 0, .int .i64 0]) 2 16 Try.underlying34 HI.out HZ0.out HZ1.out HZ2.out rfl (by decide) _ _ _ rfl (hown.out.alloc _) ⟨_, 0, none⟩ 1 1 (enD x) rfl rfl ?e1 ?e2 ?e3 ?e4 ?e5 ?_)
        case e1 => exact new_cells _ (enD x) _
        case e2 => exact enD_one x
        case e3 => unfold maxLen; omega
        case e4 => omega
        case e5 => simp; omega
        intro v' w3 hown3 hgrow3 _
        have hown4 : w3.ownsRow (w.heap.size + 1) 42 2 v' (out ++ [x]).length ((out ++ [x]).flatMap enD) := by rw [List.length_append, List.flatMap_append, List.flatMap_singleton]; exact hown3
        rw [HP2.out] at hown4
        have HL := Lib.hid (Lst.of_owns enD_len (by omega) hown4)
        have hbl3 : Below (w.heap.size + 1) W0 w3 := (hbl.alloc (by omega) _).grown hgrow3 (by simp; omega) (fun k hk => (World.ownsRow.lt hown.out k hk).1)
        clear hown3 hown4 hgrow3
        go_wp2
        go_ret
        exact ⟨_, rfl, HL.out, hwb hbl3⟩
      · have hp2 : out = putF l x := by have := HP.out; simpa [putG] using this
        have hown4 := hown.out
        rw [hp2] at hown4
        have HL := Lib.hid (Lst.of_owns enD_len (by omega) hown4)
        clear hp2 hown4
        go_wp2
        go_ret
        exact ⟨_, rfl, HL.out, hwb hbl⟩


set_option maxRecDepth 100000 in
set_option maxHeartbeats 2000000 in
theorem refsetof_any (ao : Option Addr) (ac : Nat) (l : List P) (w : World) (ha : DRow w (.slice ao l.length ac) l) (h1 : l.length ≤ 900) :
    Calls Try.prog 12 #[.slice ao l.length ac] w (RowPost w (setOf l)) := by
  have HA := Lib.hid ha
  clear ha
  go_enter Try.func12, Try.ntmps12
  go_wp2_with fail
  go_loopw [3, 4] (fun ov iv wr => ∃ (k : Nat), k ≤ l.length ∧ iv = .int .i64 k ∧ Hid (DRow wr ov (setOf (l.take k))) ∧ Below w.heap.size w wr) (fun _ iv _ => l.length - (vInt iv).toNat)
  case atStart => exact ⟨0, by omega, rfl, Lib.hid (Lst.nil _), Below.refl _ _⟩
  case round =>
    obtain ⟨k, hk, rfl, hrow, hbl⟩ := hrel
    have hsz := hbl.size
    by_cases hlt : k < l.length
    · have HA' := Lib.hid (Lst.below HA.out hbl)
      obtain ⟨ab, aoff, rfl, hab, a0, a1⟩ := dot_at HA'.out (List.getElem?_eq_getElem hlt)
      have htk := List.take_succ_eq_append_getElem hlt
      obtain ⟨y, hy⟩ : ∃ y, y = l[k] := ⟨_, rfl⟩
      rw [← hy] at a0 a1 htk
      have HP := Lib.hid (show addF (setOf (l.take k)) y = setOf (l.take (k + 1)) from by rw [htk, setOf_snoc])
      have hle : (setOf (l.take k)).length ≤ 900 := by have := setOf_len (l.take k); have h3 := List.length_take_le k l; omega
      clear hy htk
      generalize setOf (l.take k) = out at *
      obtain ⟨oo, oc, rfl, -, -⟩ := Lst.form hrow.out
      cases hr : right y
      · have HPO := Lib.hid (show out = setOf (l.take (k + 1)) from by rw [← HP.out]; unfold addF; rw [hr]; rfl)
        go_wp2_with fail
        refine (refright_lit false y _ hr).mono ?_
        rintro e w2 ⟨rfl, hb2⟩
        have HR2 := Lib.hid (Lst.below hrow.out hb2)
        have HB2 := Lib.hid (below_then hbl (Nat.le_refl _) hb2)
        clear hb2
        go_wp2_with fail
        go_roundw
        case rel => exact ⟨k + 1, by omega, by go_num, by rw [← HPO.out]; exact HR2, HB2.out⟩
        case measure => simp [vInt]; omega
      · have HPO := Lib.hid (show putF out y = setOf (l.take (k + 1)) from by rw [← HP.out]; unfold addF; rw [hr]; rfl)
        go_wp2_with fail
        refine (refright_lit true y _ hr).mono ?_
        rintro e w2 ⟨rfl, hb2⟩
        have HR2 := Lib.hid (Lst.below hrow.out hb2)
        have HB2 := Lib.hid (below_then hbl (Nat.le_refl _) hb2)
        have c0 := (hb2.cell (p := ⟨ab, aoff + k * 2, none⟩) hab).trans a0
        have c1 := (hb2.cell (p := ⟨ab, aoff + k * 2 + 1, none⟩) hab).trans a1
        have hab2 : ab < w2.heap.size := Nat.lt_of_lt_of_le hab hb2.size
        clear hb2 a0 a1 hrow
        go_wp2_with fail
        refine (refput_any oo oc out y _ HR2.out (by omega)).mono ?_
        rintro e w3 ⟨v3, rfl, hr3, hb3⟩
        rw [HPO.out] at hr3
        have HR3 := Lib.hid hr3
        have HB3 := Lib.hid (below_then HB2.out (Nat.le_refl _) hb3)
        clear hr3 hb3
        go_wp2_with fail
        go_roundw
        case rel => exact ⟨k + 1, by omega, by go_num, HR3, HB3.out⟩
        case measure => simp [vInt]; omega
    · obtain rfl : k = l.length := by omega
      have hr := hrow.out
      rw [List.take_length] at hr
      have HR := Lib.hid hr
      clear hr hrow
      go_wp2_with fail
      go_ret
      exact ⟨_, rfl, HR.out, hbl⟩

set_option maxHeartbeats 1000000 in
theorem refhas_any (ao : Option Addr) (ac : Nat) (l : List P) (x : P) (w : World) (ha : DRow w (.slice ao l.length ac) l) (h1 : l.length ≤ 100000) :
    Calls Try.prog 17 #[.slice ao l.length ac, vD x] w fun e w' => e = .returned (.bool (hasD l x)) ∧ Below w.heap.size w w' := by
  have HA := Lib.hid ha
  obtain ⟨Q, hQ⟩ : ∃ Q, Q = hasD l x := ⟨_, rfl⟩
  rw [← hQ]
  have HQ := Lib.hid hQ
  clear ha hQ
  go_enter Try.func17, Try.ntmps17
  go_wp2_with fail
  obtain ⟨W0, hW0⟩ : ∃ W0, W0 = w.alloc (.cells #[.int .i64 x.who, .int .i64 x.n] 42) := ⟨_, rfl⟩
  have e0 : W0.cell? ⟨w.heap.size, 0, none⟩ = some (.int .i64 x.who) := by rw [hW0]; go_simp
  have e1 : W0.cell? ⟨w.heap.size, 1, none⟩ = some (.int .i64 x.n) := by rw [hW0]; go_simp
  have hs0 : W0.heap.size = w.heap.size + 1 := by rw [hW0]; simp
  have hb0 : Below w.heap.size w W0 := by rw [hW0]; exact (Below.refl _ _).alloc (Nat.le_refl _) _
  rw [← hW0]
  have HB0 := Lib.hid hb0
  have E := Lib.hid (And.intro e0 e1)
  clear hW0 hb0 e0 e1
  go_loopw [5] (fun iv wr => ∃ (k : Nat), k ≤ l.length ∧ iv = .int .i64 k ∧ Hid (hasD (l.drop k) x = Q) ∧ Below W0.heap.size W0 wr) (fun iv _ => l.length - (vInt iv).toNat)
  case atStart => exact ⟨0, by omega, rfl, Lib.hid (by rw [HQ.out]; rfl), Below.refl _ _⟩
  case round =>
    obtain ⟨k, hk, rfl, hd, hb⟩ := hrel
    have x0 := (hb.cell (p := ⟨w.heap.size, 0, none⟩) (by simp; omega)).trans E.out.1
    have x1 := (hb.cell (p := ⟨w.heap.size, 1, none⟩) (by simp; omega)).trans E.out.2
    have hsz := hb.size
    have hs1 : w.heap.size < wr.heap.size := by omega
    by_cases hlt : k < l.length
    · obtain ⟨ab, aoff, rfl, hab, a0, a1⟩ := dot_at (Lst.below HA.out (HB0.out.trans (hb.mono (by omega)))) (List.getElem?_eq_getElem hlt)
      have hdl := List.drop_eq_getElem_cons hlt
      obtain ⟨y, hy⟩ : ∃ y, y = l[k] := ⟨_, rfl⟩
      rw [← hy] at a0 a1 hdl
      have hd' := hd.out
      rw [hdl] at hd'
      obtain ⟨q, hq⟩ : ∃ q, eqD y x = q := ⟨_, rfl⟩
      have hq1 := fun w => eql_runR y x q hq w
      have hgd := guard_runR
      have hqe : (y == x) = q := by
        rw [← hq]
        cases e : eqD y x with
        | true => rw [(eqD_iff y x).1 e]; simp
        | false =>
          have : ¬ y = x := fun h => by rw [(eqD_iff y x).2 h] at e; cases e
          simpa using this
      have hd2 : (q || hasD (l.drop (k + 1)) x) = Q := by rw [← hqe]; exact hd'
      have HD := Lib.hid hd2
      clear hy hdl hd' hd hqe hd2 hq
      cases q
      · go_wp2_with fail
        go_quiet (fail)
        go_wp2_with fail
        go_roundw
        case rel => exact ⟨k + 1, by omega, by go_num, Lib.hid (by have := HD.out; simpa using this), below_drewN hb _⟩
        case measure => simp [vInt]; omega
      · go_wp2_with fail
        go_quiet (fail)
        go_wp2_with fail
        go_ret
        exact ⟨ret_bool (by have := HD.out; simpa using this), HB0.out.trans ((below_drewN hb _).mono (by omega))⟩
    · obtain rfl : k = l.length := by omega
      have hd' := hd.out
      rw [List.drop_length] at hd'
      have HD := Lib.hid hd'
      clear hd hd'
      go_wp2_with fail
      go_ret
      exact ⟨ret_bool HD.out, HB0.out.trans (hb.mono (by omega))⟩
theorem refhas_lit (q : Bool) (ao : Option Addr) (ac : Nat) (l : List P) (x : P) (w : World) (h : hasD l x = q) (ha : DRow w (.slice ao l.length ac) l) (h1 : l.length ≤ 100000) :
    Calls Try.prog 17 #[.slice ao l.length ac, vD x] w fun e w' => e = .returned (.bool q) ∧ Below w.heap.size w w' := by
  subst h; exact refhas_any ao ac l x w ha h1

set_option maxHeartbeats 1000000 in
theorem refcovers_any (ao bo : Option Addr) (ac bc : Nat) (a b : List P) (w : World) (ha : DRow w (.slice ao a.length ac) a) (hb : DRow w (.slice bo b.length bc) b) (h1 : a.length ≤ 100000) (h2 : b.length ≤ 100000) :
    Calls Try.prog 22 #[.slice ao a.length ac, .slice bo b.length bc] w fun e w' => e = .returned (.bool (coversD a b)) ∧ Below w.heap.size w w' := by
  have HA := Lib.hid ha
  have HB := Lib.hid hb
  obtain ⟨Q, hQ⟩ : ∃ Q, Q = coversD a b := ⟨_, rfl⟩
  rw [← hQ]
  have HQ := Lib.hid hQ
  clear ha hb hQ
  go_enter Try.func22, Try.ntmps22
  go_wp2_with fail
  go_loopw [5] (fun iv wr => ∃ (k : Nat), k ≤ b.length ∧ iv = .int .i64 k ∧ Hid (coversD a (b.drop k) = Q) ∧ Below w.heap.size w wr) (fun iv _ => b.length - (vInt iv).toNat)
  case atStart => exact ⟨0, by omega, rfl, Lib.hid (by rw [HQ.out]; rfl), Below.refl _ _⟩
  case round =>
    obtain ⟨k, hk, rfl, hd, hbl⟩ := hrel
    by_cases hlt : k < b.length
    · obtain ⟨bb, boff, rfl, hab, a0, a1⟩ := dot_at (Lst.below HB.out hbl) (List.getElem?_eq_getElem hlt)
      have hdl := List.drop_eq_getElem_cons hlt
      obtain ⟨y, hy⟩ : ∃ y, y = b[k] := ⟨_, rfl⟩
      rw [← hy] at a0 a1 hdl
      have hd' := hd.out
      rw [hdl] at hd'
      obtain ⟨q, hq⟩ : ∃ q, hasD a y = q := ⟨_, rfl⟩
      have HH := Lib.hid (refhas_lit q ao ac a y wr hq (Lst.below HA.out hbl) h1)
      have hd2 : (q && coversD a (b.drop (k + 1))) = Q := by rw [← hq]; exact hd'
      have HD := Lib.hid hd2
      clear hy hdl hd' hd hd2 hq
      cases q
      · go_wp2_with fail
        refine HH.out.mono ?_
        rintro e w2 ⟨rfl, hb2⟩
        have HB2 := Lib.hid (below_then hbl (Nat.le_refl _) hb2)
        clear hb2
        go_wp2_with fail
        go_ret
        exact ⟨ret_bool (by have := HD.out; simpa using this), HB2.out⟩
      · go_wp2_with fail
        refine HH.out.mono ?_
        rintro e w2 ⟨rfl, hb2⟩
        have HB2 := Lib.hid (below_then hbl (Nat.le_refl _) hb2)
        clear hb2
        go_wp2_with fail
        go_roundw
        case rel => exact ⟨k + 1, by omega, by go_num, Lib.hid (by have := HD.out; simpa using this), HB2.out⟩
        case measure => simp [vInt]; omega
    · obtain rfl : k = b.length := by omega
      have hd' := hd.out
      rw [List.drop_length] at hd'
      have HD := Lib.hid hd'
      clear hd hd'
      go_wp2_with fail
      go_ret
      exact ⟨ret_bool HD.out, hbl⟩
theorem refcovers_lit (q : Bool) (ao bo : Option Addr) (ac bc : Nat) (a b : List P) (w : World) (h : coversD a b = q) (ha : DRow w (.slice ao a.length ac) a) (hb : DRow w (.slice bo b.length bc) b) (h1 : a.length ≤ 100000) (h2 : b.length ≤ 100000) :
    Calls Try.prog 22 #[.slice ao a.length ac, .slice bo b.length bc] w fun e w' => e = .returned (.bool q) ∧ Below w.heap.size w w' := by
  subst h; exact refcovers_any ao bo ac bc a b w ha hb h1 h2

theorem kn_snoc (l : List P) (x : P) : kn (l ++ [x]) = knS (kn l) x := by unfold kn; rw [List.foldl_append]; rfl
set_option maxRecDepth 100000 in
set_option maxHeartbeats 2000000 in
theorem refknown_any (ao : Option Addr) (ac : Nat) (l : List P) (w : World) (ha : DRow w (.slice ao l.length ac) l) (hl : Nice l) :
    Calls Try.prog 36 #[.slice ao l.length ac] w (RowPost w (kn l)) := by
  have HA := Lib.hid ha
  have HL := Lib.hid hl
  have h1 := hl.len
  clear ha hl
  go_enter Try.func36, Try.ntmps36
  go_wp2_with fail
  go_loopw [3, 4] (fun ov iv wr => ∃ (k : Nat), k ≤ l.length ∧ iv = .int .i64 k ∧ Hid (DRow wr ov (kn (l.take k))) ∧ Below w.heap.size w wr) (fun _ iv _ => l.length - (vInt iv).toNat)
  case atStart => exact ⟨0, by omega, rfl, Lib.hid (Lst.nil _), Below.refl _ _⟩
  case round =>
    obtain ⟨k, hk, rfl, hrow, hbl⟩ := hrel
    have hsz := hbl.size
    by_cases hlt : k < l.length
    · have HA' := Lib.hid (Lst.below HA.out hbl)
      obtain ⟨ab, aoff, rfl, hab, a0, a1⟩ := dot_at HA'.out (List.getElem?_eq_getElem hlt)
      have htk := List.take_succ_eq_append_getElem hlt
      have hg : Vec.Good (kn (l.take k)) := kn_good ⟨HL.out.fine.str.sublist (List.take_sublist _ _), fun x hx => HL.out.fine.ok x (List.mem_of_mem_take hx)⟩
      obtain ⟨y, hy⟩ : ∃ y, y = l[k] := ⟨_, rfl⟩
      rw [← hy] at a0 a1 htk
      have HP := Lib.hid (show knS (kn (l.take k)) y = kn (l.take (k + 1)) from by rw [htk, kn_snoc])
      have hle : (kn (l.take k)).length ≤ 900 := by have := kn_len (l.take k); have h3 := List.length_take_le k l; omega
      clear hy htk
      generalize kn (l.take k) = out at *
      have hnn := hg.nonneg y.who
      obtain ⟨oo, oc, rfl, -, -⟩ := Lst.form hrow.out
      obtain ⟨m, hm⟩ : ∃ m, getF out y.who = m := ⟨_, rfl⟩
      rw [hm] at hnn
      have hpo : out.length ≤ 100000 := by omega
      by_cases hc : y.n = m + 1
      · have hcb : (y.n == m + 1) = true := by simpa using hc
        have HPO := Lib.hid (show setF out y = kn (l.take (k + 1)) from by rw [← HP.out]; unfold knS; rw [hm, if_pos hc])
        clear hc HP
        go_wp2_with fail
        refine wp_region_calm (by kernel_rfl) (by kernel_rfl) ?_
        repeat (go_big_quiet_step (first | (go_at_call 71; exact calm_same (get_lit m _ _ _ _ _ hm (Lst.below hrow.out (BW.below _)) hpo))))
        refine wpQuiet_nil ?_
        rintro _ ⟨z, rfl⟩
        have c0 := (z.below.cell (p := ⟨ab, aoff + k * 2, none⟩) hab).trans a0
        have c1 := (z.below.cell (p := ⟨ab, aoff + k * 2 + 1, none⟩) hab).trans a1
        have hab2 : ab < z.at.heap.size := Nat.lt_of_lt_of_le hab z.below.size
        have HR2 := Lib.hid (Lst.below hrow.out z.below)
        have HB2 := Lib.hid (below_then hbl (Nat.le_refl _) z.below)
        clear hrow hbl a0 a1
        generalize z.at = w2 at *
        go_wp2_with fail
        refine (Vec.set_any oo oc out y _ HR2.out (by omega)).mono ?_
        rintro e w3 ⟨v3, rfl, hr3, hb3⟩
        rw [HPO.out] at hr3
        have HR3 := Lib.hid hr3
        clear hr3
        go_wp2_with fail
        go_roundw
        case rel => exact ⟨k + 1, by omega, by go_num, HR3, below_then HB2.out (Nat.le_refl _) hb3⟩
        case measure => simp [vInt]; omega
      · have hcb : (y.n == m + 1) = false := by simpa using hc
        have HPO := Lib.hid (show out = kn (l.take (k + 1)) from by rw [← HP.out]; unfold knS; rw [hm, if_neg hc])
        clear hc HP
        go_wp2_with fail
        refine wp_region_calm (by kernel_rfl) (by kernel_rfl) ?_
        repeat (go_big_quiet_step (first | (go_at_call 71; exact calm_same (get_lit m _ _ _ _ _ hm (Lst.below hrow.out (BW.below _)) hpo))))
        refine wpQuiet_nil ?_
        rintro _ ⟨z, rfl⟩
        have HR2 := Lib.hid (Lst.below hrow.out z.below)
        have HB2 := Lib.hid (below_then hbl (Nat.le_refl _) z.below)
        clear hrow hbl a0 a1
        go_wp2_with fail
        go_roundw
        case rel => exact ⟨k + 1, by omega, by go_num, by rw [← HPO.out]; exact HR2, HB2.out⟩
        case measure => simp [vInt]; omega
    · obtain rfl : k = l.length := by omega
      have hr := hrow.out
      rw [List.take_length] at hr
      have HR := Lib.hid hr
      clear hr hrow
      go_wp2_with fail
      go_ret
      exact ⟨_, rfl, HR.out, hbl⟩
end Go.Proofs.Ytihfcohebgemdaa.Dots
