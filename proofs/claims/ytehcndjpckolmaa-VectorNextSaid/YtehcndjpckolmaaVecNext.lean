/- The walks of layer 5 (vector): Next; the law VectorNext. -/
import Derived.Test.YtehcndjpckolmaaVecJoins
import Derived.Deep.RegionHeld3
namespace Go.Proofs.Ytehcndjpckolmaa.Vec
open Go.RowKit Go.Maps Go.Proofs.Ytehcndjpckolmaa.Kit

theorem join_one {L : List P} {d : P} (hd : right d = true) (hn : getF L d.who ≤ d.n) : joinF L [d] = setF L d := by
  show up L d = _
  unfold up
  rw [if_pos hd]
  have : max (getF L d.who) d.n = d.n := by omega
  rw [this]
theorem good_one {d : P} (hd : right d = true) : Good [d] := ⟨List.pairwise_singleton _ _, fun x hx => by simp at hx; subst hx; exact hd⟩
theorem sm_one {d : P} (hd : d.who ≤ 9223372036854775807) : Sm [d] := fun x hx => by simp at hx; subst hx; exact hd

/-- A map is no cell: two cells set leave it. -/
theorem vmap_ne {w : World} {b g o : Nat} {l : List P} {v : Value} (h : VMap w b l) (hc : w.cell? ⟨g, o, none⟩ = some v) : b ≠ g := by
  rintro rfl
  obtain ⟨es, clock, hb, _⟩ := h
  unfold World.cell? at hc
  simp only [hb] at hc
  cases hc
theorem vmap_set2 {w : World} {b g : Nat} {l : List P} {v0 v1 u0 u1 : Value} (h : VMap w b l) (c0 : w.cell? ⟨g, 0, none⟩ = some u0) (_c1 : w.cell? ⟨g, 1, none⟩ = some u1) : VMap ((w.setCell ⟨g, 0, none⟩ v0).setCell ⟨g, 1, none⟩ v1) b l := by
  have hne := vmap_ne h c0
  obtain ⟨es, clock, hb, F, hs, hD⟩ := h
  have hlt : b < w.heap.size := (Array.getElem?_eq_some_iff.1 hb).1
  refine ⟨es, clock, ?_, F, hs, hD⟩
  rw [Below.heap_setCell _ _ _ b (by exact hne), Below.heap_setCell _ _ _ b (by exact hne)]
  exact hb

set_option maxRecDepth 100000 in
set_option maxHeartbeats 2000000 in
theorem next_no (b : Nat) (L : List P) (who m : Int) (w : World) (gL : Good L) (ha : VMap w b L) (hm : getF L who = m) (h1 : -9223372036854775808 ≤ who) (h2 : who ≤ 9223372036854775807) (hr : right ⟨who, m + 1⟩ = false) :
    Calls Try.prog 52 #[.map (some b), .int .i64 who] w fun e w' => e = .returned (.tuple #[.agg #[.int .i64 0, .int .i64 0], .map none, .bool false]) ∧ Below w.heap.size w w' := by
  have hb := gL.nonneg who
  rw [hm] at hb
  obtain ⟨b1, b2⟩ := hb
  have q1 := (ha.below ((Below.refl w.heap.size w).alloc (Nat.le_refl _) (.cells #[.int .i64 0, .int .i64 0] 83))).at h1 h2
  rw [hm] at q1
  clear ha hm
  go_enter Try.func52, Try.ntmps52
  go_wp2_with fail
  refine (right_lit false ⟨who, m + 1⟩ _ hr).mono ?_
  rintro e w2 ⟨rfl, hb2⟩
  obtain ⟨hc, hf⟩ := bcell hb2
  have hs := hb2.size
  simp only [World.size_alloc] at hs
  have c0 : w2.cell? ⟨w.heap.size, 0, none⟩ = some (.int .i64 0) := (hc _ _ (by simp <;> omega)).trans (by go_simp)
  have c1 : w2.cell? ⟨w.heap.size, 1, none⟩ = some (.int .i64 0) := (hc _ _ (by simp <;> omega)).trans (by go_simp)
  have f0 : w2.frozen? ⟨w.heap.size, 0, none⟩ = false := (hf _ _ (by simp <;> omega)).trans (by go_simp)
  have f1 : w2.frozen? ⟨w.heap.size, 1, none⟩ = false := (hf _ _ (by simp <;> omega)).trans (by go_simp)
  have HB := Lib.hid (below_then (((Below.refl w.heap.size w).alloc (Nat.le_refl _) (.cells #[.int .i64 0, .int .i64 0] 83)).alloc (by simp) (.cells #[.int .i64 who, .int .i64 (m + 1)] 83)) (Nat.le_refl _) hb2)
  clear hb2 hc hf q1
  go_wp2_with fail
  have e0 : ((w2.setCell ⟨w.heap.size, 0, none⟩ (.int .i64 0)).setCell ⟨w.heap.size, 1, none⟩ (.int .i64 0)).cell? ⟨w.heap.size, 0, none⟩ = some (.int .i64 0) := by go_simp
  have e1 : ((w2.setCell ⟨w.heap.size, 0, none⟩ (.int .i64 0)).setCell ⟨w.heap.size, 1, none⟩ (.int .i64 0)).cell? ⟨w.heap.size, 1, none⟩ = some (.int .i64 0) := by go_simp
  refine bodyPost_ret (v := .tuple #[.agg #[.int .i64 0, .int .i64 0], .map none, .bool false]) (by simp [results, Try.f52, go_sem, e0, e1]) rfl ?_
  exact ⟨rfl, (HB.out.setCell (p := ⟨w.heap.size, 0, none⟩) (Nat.le_refl _) _).setCell (p := ⟨w.heap.size, 1, none⟩) (Nat.le_refl _) _⟩

set_option maxRecDepth 100000 in
set_option maxHeartbeats 4000000 in
theorem next_yes (b : Nat) (L : List P) (who m : Int) (w : World) (gL : Good L) (sL : Sm L) (lL : L.length ≤ 400) (ha : VMap w b L) (hm : getF L who = m) (h1 : -9223372036854775808 ≤ who) (h2 : who ≤ 9223372036854775807) (hr : right ⟨who, m + 1⟩ = true) :
    Calls Try.prog 52 #[.map (some b), .int .i64 who] w fun e w' => ∃ b', e = .returned (.tuple #[.agg #[.int .i64 who, .int .i64 (m + 1)], .map (some b'), .bool true]) ∧ VMap w' b' (setF L ⟨who, m + 1⟩) ∧ Below w.heap.size w w' := by
  have hb := gL.nonneg who
  rw [hm] at hb
  obtain ⟨b1, b2⟩ := hb
  have hj : joinF L [⟨who, m + 1⟩] = setF L ⟨who, m + 1⟩ := join_one hr (by show getF L who ≤ m + 1; omega)
  have HJ := Lib.hid hj
  have q1 := (ha.below ((Below.refl w.heap.size w).alloc (Nat.le_refl _) (.cells #[.int .i64 0, .int .i64 0] 83))).at h1 h2
  rw [hm] at q1
  have HA := Lib.hid ha
  clear ha hm hj
  have gd := good_one hr
  have sd := sm_one (d := ⟨who, m + 1⟩) h2
  go_enter Try.func52, Try.ntmps52
  go_wp2_with fail
  refine (right_lit true ⟨who, m + 1⟩ _ hr).mono ?_
  rintro e w2 ⟨rfl, hb2⟩
  obtain ⟨hc, hf⟩ := bcell hb2
  have hs := hb2.size
  simp only [World.size_alloc] at hs
  have c0 : w2.cell? ⟨w.heap.size, 0, none⟩ = some (.int .i64 0) := (hc _ _ (by simp <;> omega)).trans (by go_simp)
  have c1 : w2.cell? ⟨w.heap.size, 1, none⟩ = some (.int .i64 0) := (hc _ _ (by simp <;> omega)).trans (by go_simp)
  have d0 : w2.cell? ⟨w.heap.size + 1, 0, none⟩ = some (.int .i64 who) := (hc _ _ (by simp <;> omega)).trans (by go_simp)
  have d1 : w2.cell? ⟨w.heap.size + 1, 1, none⟩ = some (.int .i64 (m + 1)) := (hc _ _ (by simp <;> omega)).trans (by go_simp)
  have f0 : w2.frozen? ⟨w.heap.size, 0, none⟩ = false := (hf _ _ (by simp <;> omega)).trans (by go_simp)
  have f1 : w2.frozen? ⟨w.heap.size, 1, none⟩ = false := (hf _ _ (by simp <;> omega)).trans (by go_simp)
  have hb2' := below_then (((Below.refl w.heap.size w).alloc (Nat.le_refl _) (.cells #[.int .i64 0, .int .i64 0] 83)).alloc (by simp) (.cells #[.int .i64 who, .int .i64 (m + 1)] 83)) (Nat.le_refl _) hb2
  have HV2 := Lib.hid (HA.out.below hb2')
  have HB2 := Lib.hid hb2'
  clear hb2 hb2' hc hf q1
  go_wp2_with fail
  go_region_held3 (fun w' => w'.cell? ⟨w.heap.size + 1, 0, none⟩ = some (.int .i64 who) ∧ w'.cell? ⟨w.heap.size + 1, 1, none⟩ = some (.int .i64 (m + 1))) (go_keep) (first
    | (go_at_call 61; refine (of_any (some ⟨w2.heap.size, 0, none⟩) 1 [⟨who, m + 1⟩] _ (Lst.below (row_new w2 [⟨who, m + 1⟩] 83 (by simp)) (Below.refl _ _).drew) (by simp) sd).mono ?_; rintro e w3 ⟨b3, rfl, hv3, -, hb3⟩; rw [ofF_self gd] at hv3; have B3 := below_then (((Below.refl w2.heap.size w2).alloc (Nat.le_refl _) (.cells #[.int .i64 who, .int .i64 (m + 1)] 83)).drew) (Nat.le_refl _) hb3; have hs3 := B3.size; obtain ⟨hc3, hf3⟩ := bcell B3; have hd0 := (hc3 (w.heap.size + 1) 0 (by omega)).trans d0; have hd1 := (hc3 (w.heap.size + 1) 1 (by omega)).trans d1)
    | (go_at_call 55; refine (join_any b b3 L [⟨who, m + 1⟩] _ gL sL gd sd (HV2.out.below B3) hv3 lL (by simp)).mono ?_; rintro e w4 ⟨b4, rfl, hv4, -, hb4⟩; have B4 := below_then B3 (Nat.le_refl _) hb4; have hs4 := B4.size; obtain ⟨hc4, hf4⟩ := bcell B4; have gd0 := (hc4 (w.heap.size + 1) 0 (by omega)).trans d0; have gd1 := (hc4 (w.heap.size + 1) 1 (by omega)).trans d1; have gc0 := (hc4 w.heap.size 0 (by omega)).trans c0; have gc1 := (hc4 w.heap.size 1 (by omega)).trans c1; have gf0 := (hf4 w.heap.size 0 (by omega)).trans f0; have gf1 := (hf4 w.heap.size 1 (by omega)).trans f1))
  all_goals
    clear hc3 hf3 hc4 hf4 hd0 hd1 hb3 hb4
    go_wp2_with fail
    have e0 : ((w4.setCell ⟨w.heap.size, 0, none⟩ (.int .i64 who)).setCell ⟨w.heap.size, 1, none⟩ (.int .i64 (m + 1))).cell? ⟨w.heap.size, 0, none⟩ = some (.int .i64 who) := by go_simp
    have e1 : ((w4.setCell ⟨w.heap.size, 0, none⟩ (.int .i64 who)).setCell ⟨w.heap.size, 1, none⟩ (.int .i64 (m + 1))).cell? ⟨w.heap.size, 1, none⟩ = some (.int .i64 (m + 1)) := by go_simp
    refine bodyPost_ret (v := .tuple #[.agg #[.int .i64 who, .int .i64 (m + 1)], .map (some b4), .bool true]) (by simp [results, Try.f52, go_sem, e0, e1]) rfl ?_
    refine ⟨b4, rfl, ?_, ((below_then HB2.out (by omega) B4).setCell (p := ⟨w.heap.size, 0, none⟩) (Nat.le_refl _) _).setCell (p := ⟨w.heap.size, 1, none⟩) (Nat.le_refl _) _⟩
    rw [HJ.out] at hv4
    exact vmap_set2 hv4 gc0 gc1

theorem held_V : Try.prog.stoodInHeld 83 = false := by kernel_rfl
theorem guard_V : Try.prog.eqGuardType Try.prog.depth 83 = false := by kernel_rfl
theorem fields_V : Try.prog.underlying 83 = some (.struct (Try.prog.fieldsOf 83)) := by unfold Program.fieldsOf; rw [Try.underlying83]
theorem zero_same (w : World) : (Op.equalIn 10000 83 (.agg #[.int .i64 0, .int .i64 0]) (.agg #[.int .i64 0, .int .i64 0])).run Try.prog w = .ok true w := by
  rw [run_equalIn_agg w 9999 _ _ _ fields_V held_V]
  unfold Program.fieldsOf
  rw [Try.underlying83]
  go_simp
theorem zero_eql (w : World) : (binOp .eql 83 (.agg #[.int .i64 0, .int .i64 0]) (.agg #[.int .i64 0, .int .i64 0])).run Try.prog w = .ok (.bool true) w := by
  rw [run_eql_struct, zero_same]; rfl
theorem guard_run (op : BinOp) (a b : Operand) (xs ys : Array Value) (w : World) : (eqGuard op 83 a b (.agg xs) (.agg ys)).run Try.prog w = .ok () w := run_eqGuard_agg w op _ a b xs ys guard_V

theorem vnext_out (ao : Option Addr) (n ac : Nat) (who : Int) (w : World) (h : 100 < n) :
    Calls Try.prog 10 #[.slice ao n ac, .int .i64 who] w fun e w' => e = .returned (.bool true) ∧ Below w.heap.size w w' := by
  have g1 : decide ((100 : Int) < n) = true := decide_eq_true (by omega)
  go_enter Try.func10, Try.ntmps10
  go_wp2
  go_ret
  exact ⟨rfl, Below.refl _ _⟩

set_option maxRecDepth 100000 in
set_option maxHeartbeats 8000000 in
theorem vnext_in (ao : Option Addr) (ac : Nat) (l : List P) (who : Int) (w : World) (ha : DRow w (.slice ao l.length ac) l) (sa : Sm l) (hl : l.length ≤ 100) (h1 : -9223372036854775808 ≤ who) (h2 : who ≤ 9223372036854775807) :
    Calls Try.prog 10 #[.slice ao l.length ac, .int .i64 who] w fun e w' => e = .returned (.bool true) ∧ Below w.heap.size w w' := by
  have HA := Lib.hid ha
  clear ha
  have g1 : decide ((100 : Int) < l.length) = false := decide_eq_false (by omega)
  have gL := ofF_good l
  have sL := Sm.of sa
  have lL := ofF_len l
  have hlaw := fun w ha => lawof_any ao ac l w ha hl sa
  unfold OfPost at hlaw
  obtain ⟨L, hL⟩ : ∃ L, L = ofF l := ⟨_, rfl⟩
  rw [← hL] at gL sL lL hlaw
  clear hL
  have HLAW := Lib.hid hlaw
  clear hlaw
  obtain ⟨m, hm⟩ : ∃ m, getF L who = m := ⟨_, rfl⟩
  have hmb := gL.nonneg who
  rw [hm] at hmb
  obtain ⟨b1, b2⟩ := hmb
  have HM := Lib.hid hm
  clear hm
  go_enter Try.func10, Try.ntmps10
  go_wp2_with fail
  refine (HLAW.out _ HA.out).mono ?_
  rintro e w1 ⟨b, so, sc, rfl, hv, hrow, hb1⟩
  have HV := Lib.hid hv
  have HR := Lib.hid hrow
  have HB1 := Lib.hid hb1
  clear hv hrow hb1
  go_wp2_with fail
  refine (get_lit m so sc L who _ HM.out HR.out (by omega)).mono ?_
  rintro e w' ⟨rfl, rfl⟩
  have ba : Below w1.heap.size w1 (w1.alloc (.cells #[.int .i64 who, .int .i64 (m + 1)] 92)) := (Below.refl _ _).alloc (Nat.le_refl _) _
  have k0 : (w1.alloc (.cells #[.int .i64 who, .int .i64 (m + 1)] 92)).cell? ⟨w1.heap.size, 0, none⟩ = some (.int .i64 who) := by go_simp
  have k1 : (w1.alloc (.cells #[.int .i64 who, .int .i64 (m + 1)] 92)).cell? ⟨w1.heap.size, 1, none⟩ = some (.int .i64 (m + 1)) := by go_simp
  have HV2 := Lib.hid (HV.out.below ba)
  have HR2 := Lib.hid (Lst.below HR.out ba)
  have HB2 := Lib.hid (below_then HB1.out (Nat.le_refl _) ba)
  have K := Lib.hid (And.intro k0 k1)
  clear ba k0 k1 HV HR HB1
  cases hr : right ⟨who, m + 1⟩
  · go_wp2_with fail
    refine (next_no b L who m _ gL HV2.out HM.out h1 h2 hr).mono ?_
    rintro e w3 ⟨rfl, hb3⟩
    have hs3 := hb3.size
    rw [World.size_alloc] at hs3
    have e0 := (hb3.cell (p := ⟨w1.heap.size, 0, none⟩) (by simp)).trans K.out.1
    have e1 := (hb3.cell (p := ⟨w1.heap.size, 1, none⟩) (by simp)).trans K.out.2
    have HB3 := Lib.hid (below_then HB2.out (Nat.le_refl _) hb3)
    have ba : Below w3.heap.size w3 (w3.alloc (.cells #[.int .i64 0, .int .i64 0] 83)) := (Below.refl _ _).alloc (Nat.le_refl _) _
    have E0 := (ba.cell (p := ⟨w1.heap.size, 0, none⟩) (by show w1.heap.size < _; omega)).trans e0
    have E1 := (ba.cell (p := ⟨w1.heap.size, 1, none⟩) (by show w1.heap.size < _; omega)).trans e1
    clear hb3 ba
    go_wp2_with fail
    refine (refright_lit false ⟨who, m + 1⟩ _ hr).mono ?_
    rintro e w4 ⟨rfl, hb4⟩
    have hs4 := hb4.size
    rw [World.size_alloc] at hs4
    have z0 := (hb4.cell (p := ⟨w3.heap.size, 0, none⟩) (by simp)).trans (show (w3.alloc (.cells #[.int .i64 0, .int .i64 0] 83)).cell? ⟨w3.heap.size, 0, none⟩ = some (.int .i64 0) by go_simp)
    have z1 := (hb4.cell (p := ⟨w3.heap.size, 1, none⟩) (by simp)).trans (show (w3.alloc (.cells #[.int .i64 0, .int .i64 0] 83)).cell? ⟨w3.heap.size, 1, none⟩ = some (.int .i64 0) by go_simp)
    have HB4 := Lib.hid (below_then (below_then HB3.out (Nat.le_refl _) ((Below.refl w3.heap.size w3).alloc (Nat.le_refl _) (.cells #[.int .i64 0, .int .i64 0] 83))) (Nat.le_refl _) hb4)
    clear hb4 e0 e1 E0 E1
    have hlen := fun ty => Maps.len_nil (w := w4) Try.underlying85 ty
    have heq := zero_eql w4
    have hgu := guard_run .eql
    go_wp2_with fail
    refine (alive_any _).mono ?_
    rintro e w5 ⟨rfl, hb5⟩
    have HB5 := Lib.hid (below_then HB4.out (Nat.le_refl _) hb5)
    clear hb5
    go_wp2_with fail
    go_ret
    exact ⟨rfl, HB5.out⟩
  · have gS := Good.set gL hr
    have sS := Sm.set (d := ⟨who, m + 1⟩) sL h2
    have lS := setF_len L ⟨who, m + 1⟩
    go_wp2_with fail
    refine (next_yes b L who m _ gL sL (by omega) HV2.out HM.out h1 h2 hr).mono ?_
    rintro e w3 ⟨b3, rfl, hv3, hb3⟩
    have hs3 := hb3.size
    rw [World.size_alloc] at hs3
    have e0 := (hb3.cell (p := ⟨w1.heap.size, 0, none⟩) (by simp)).trans K.out.1
    have e1 := (hb3.cell (p := ⟨w1.heap.size, 1, none⟩) (by simp)).trans K.out.2
    have ba : Below w3.heap.size w3 (w3.alloc (.cells #[.int .i64 who, .int .i64 (m + 1)] 83)) := (Below.refl _ _).alloc (Nat.le_refl _) _
    have HX3 := Lib.hid (hv3.below ba)
    have HV3 := Lib.hid ((HV2.out.below hb3).below ba)
    have HR3 := Lib.hid (Lst.below (Lst.below HR2.out hb3) ba)
    have HB3 := Lib.hid (below_then (below_then HB2.out (Nat.le_refl _) hb3) (Nat.le_refl _) ba)
    have E0 := (ba.cell (p := ⟨w1.heap.size, 0, none⟩) (by show w1.heap.size < _; omega)).trans e0
    have E1 := (ba.cell (p := ⟨w1.heap.size, 1, none⟩) (by show w1.heap.size < _; omega)).trans e1
    clear hb3 hv3 ba HV2 HR2
    go_wp2_with fail
    refine (refright_lit true ⟨who, m + 1⟩ _ hr).mono ?_
    rintro e w4 ⟨rfl, hb4⟩
    have hs4 := hb4.size
    rw [World.size_alloc] at hs4
    have z0 := (hb4.cell (p := ⟨w3.heap.size, 0, none⟩) (by simp)).trans (show (w3.alloc (.cells #[.int .i64 who, .int .i64 (m + 1)] 83)).cell? ⟨w3.heap.size, 0, none⟩ = some (.int .i64 who) by go_simp)
    have z1 := (hb4.cell (p := ⟨w3.heap.size, 1, none⟩) (by simp)).trans (show (w3.alloc (.cells #[.int .i64 who, .int .i64 (m + 1)] 83)).cell? ⟨w3.heap.size, 1, none⟩ = some (.int .i64 (m + 1)) by go_simp)
    have y0 := (hb4.cell (p := ⟨w1.heap.size, 0, none⟩) (by simp; omega)).trans E0
    have y1 := (hb4.cell (p := ⟨w1.heap.size, 1, none⟩) (by simp; omega)).trans E1
    have HX4 := Lib.hid (HX3.out.below hb4)
    have HV4 := Lib.hid (HV3.out.below hb4)
    have HR4 := Lib.hid (Lst.below HR3.out hb4)
    have HB4 := Lib.hid (below_then HB3.out (Nat.le_refl _) hb4)
    clear hb4 e0 e1 E0 E1 HX3 HV3 HR3
    go_wp2_with fail
    refine (set_any so sc L ⟨who, m + 1⟩ _ HR4.out (by omega)).mono ?_
    rintro e w5 ⟨v5, rfl, hr5, hb5⟩
    obtain ⟨po, pc, rfl, -, -⟩ := Lst.form hr5
    have HP5 := Lib.hid hr5
    have HX5 := Lib.hid (HX4.out.below hb5)
    have HV5 := Lib.hid (HV4.out.below hb5)
    have HR5 := Lib.hid (Lst.below HR4.out hb5)
    have HB5 := Lib.hid (below_then HB4.out (Nat.le_refl _) hb5)
    clear hb5 hr5 HX4 HV4 HR4
    go_wp2_with fail
    refine (is_any b3 po pc (setF L ⟨who, m + 1⟩) _ gS sS HX5.out HP5.out (by omega)).mono ?_
    rintro e w6 ⟨rfl, hb6⟩
    have HV6 := Lib.hid (HV5.out.below hb6)
    have HR6 := Lib.hid (Lst.below HR5.out hb6)
    have HB6 := Lib.hid (below_then HB5.out (Nat.le_refl _) hb6)
    clear hb6 HX5 HV5 HR5 HP5
    go_wp2_with fail
    refine (is_any b so sc L _ gL sL HV6.out HR6.out (by omega)).mono ?_
    rintro e w7 ⟨rfl, hb7⟩
    have HB7 := Lib.hid (below_then HB6.out (Nat.le_refl _) hb7)
    clear hb7
    go_wp2_with fail
    refine (alive_any _).mono ?_
    rintro e w8 ⟨rfl, hb8⟩
    have HB8 := Lib.hid (below_then HB7.out (Nat.le_refl _) hb8)
    clear hb8
    go_wp2_with fail
    go_ret
    exact ⟨rfl, HB8.out⟩

theorem vectorNext_any (ao : Option Addr) (ac : Nat) (l : List P) (who : Int) (w : World) (ha : DRow w (.slice ao l.length ac) l) (sa : Sm l) (h1 : -9223372036854775808 ≤ who) (h2 : who ≤ 9223372036854775807) :
    Calls Try.prog 10 #[.slice ao l.length ac, .int .i64 who] w fun e w' => e = .returned (.bool true) ∧ Below w.heap.size w w' := by
  by_cases h : 100 < l.length
  · exact vnext_out ao _ ac who w h
  · exact vnext_in ao ac l who w ha sa (by omega) h1 h2
end Go.Proofs.Ytehcndjpckolmaa.Vec
