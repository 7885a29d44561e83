/- The walks of rows of entries (layer 36): slices.Equal, slices.Index, slices.Contains at entries. -/
import Derived.Test.YtmfhmcegmeinnaaGreatDoorEntWalks
import Derived.Test.YtmfhmcegmeinnaaGreatDoorLst
set_option linter.unusedSimpArgs false
set_option linter.unusedVariables false
namespace Go.Proofs.YtmfhmcegmeinnaaGreatDoor.Diffs
open Go.RowKit Go.Proofs.YtmfhmcegmeinnaaGreatDoor.Cmp

abbrev ERow (w : World) (v : Value) (l : List Ent) : Prop := Lst 4 enE w v l

/-- Are two entries the same? -/
def eqE (x y : Ent) : Bool := (x.k.toList == y.k.toList) && ((x.p == y.p) && ((x.l == y.l) && (x.h == y.h)))
theorem held_S : Tryz.prog.stoodInHeld 43 = false := by kernel_rfl
theorem held_E : Tryz.prog.stoodInHeld 72 = false := by kernel_rfl
theorem guard_E : Tryz.prog.eqGuardType Tryz.prog.depth 72 = false := by kernel_rfl
theorem fields_S : Tryz.prog.underlying 43 = some (.struct (Tryz.prog.fieldsOf 43)) := by unfold Program.fieldsOf; rw [Tryz.underlying43]
theorem fields_E : Tryz.prog.underlying 72 = some (.struct (Tryz.prog.fieldsOf 72)) := by unfold Program.fieldsOf; rw [Tryz.underlying72]
theorem eqE_run (x y : Ent) (w : World) : (Op.equalIn 10000 72 (.agg #[.string x.k, .int .i64 x.p, .int .i64 x.l, .int .i64 x.h]) (.agg #[.string y.k, .int .i64 y.p, .int .i64 y.l, .int .i64 y.h])).run Tryz.prog w = .ok (eqE x y) w := by
  rw [run_equalIn_agg w 9999 _ _ _ fields_E held_E]
  unfold Program.fieldsOf
  rw [Tryz.underlying72]
  unfold eqE
  go_simp
  by_cases h1 : x.k.toList = y.k.toList <;> by_cases h2 : x.p = y.p <;> by_cases h3 : x.l = y.l <;> by_cases h4 : x.h = y.h <;> simp [h1, h2, h3, h4]
theorem neq_run (x y : Ent) (q : Bool) (h : eqE x y = q) (w : World) : (binOp .neq 72 (.agg #[.string x.k, .int .i64 x.p, .int .i64 x.l, .int .i64 x.h]) (.agg #[.string y.k, .int .i64 y.p, .int .i64 y.l, .int .i64 y.h])).run Tryz.prog w = .ok (.bool (!q)) w := by
  rw [run_neq_struct, eqE_run, h]; rfl
theorem eql_run (x y : Ent) (q : Bool) (h : eqE x y = q) (w : World) : (binOp .eql 72 (.agg #[.string x.k, .int .i64 x.p, .int .i64 x.l, .int .i64 x.h]) (.agg #[.string y.k, .int .i64 y.p, .int .i64 y.l, .int .i64 y.h])).run Tryz.prog w = .ok (.bool q) w := by
  rw [run_eql_struct, eqE_run, h]; rfl
theorem guard_run (op : BinOp) (a b : Operand) (xs ys : Array Value) (w : World) : (eqGuard op 72 a b (.agg xs) (.agg ys)).run Tryz.prog w = .ok () w := run_eqGuard_agg w op _ a b xs ys guard_E
theorem eqE_iff (x y : Ent) : eqE x y = true ↔ x = y := by
  unfold eqE
  constructor
  · intro h
    simp at h
    obtain ⟨h1, h2, h3, h4⟩ := h
    obtain ⟨xk, xp, xl, xh⟩ := x
    obtain ⟨yk, yp, yl, yh⟩ := y
    simp only at h1 h2 h3 h4
    rw [bytes_ext h1, h2, h3, h4]
  · rintro rfl; simp

/-- Are two rows the same? -/
def eqR : List Ent → List Ent → Bool
  | [], [] => true
  | x :: a, y :: b => eqE x y && eqR a b
  | [], _ :: _ => false
  | _ :: _, [] => false
theorem eqR_iff : ∀ (a b : List Ent), eqR a b = true ↔ a = b
  | [], [] => by simp [eqR]
  | x :: a, y :: b => by simp [eqR, eqE_iff, eqR_iff a b]
  | [], _ :: _ => by simp [eqR]
  | _ :: _, [] => by simp [eqR]
theorem eqR_len : ∀ (a b : List Ent), a.length ≠ b.length → eqR a b = false
  | [], [], h => absurd rfl h
  | x :: a, y :: b, h => by simp only [eqR]; rw [eqR_len a b (by simpa using h), Bool.and_false]
  | [], _ :: _, _ => rfl
  | _ :: _, [], _ => rfl

/-- Element k of a row, its cells. -/
theorem ERow.cells {w : World} {ao : Option Addr} {n cap : Nat} {l : List Ent} (h : ERow w (.slice ao n cap) l) {k : Nat} (hk : k < l.length) :
    ∃ b off, ao = some ⟨b, off, none⟩ ∧ b < w.heap.size ∧ w.cell? ⟨b, off + k * 4, none⟩ = some (.string l[k].k) ∧ w.cell? ⟨b, off + k * 4 + 1, none⟩ = some (.int .i64 l[k].p) ∧ w.cell? ⟨b, off + k * 4 + 2, none⟩ = some (.int .i64 l[k].l) ∧ w.cell? ⟨b, off + k * 4 + 3, none⟩ = some (.int .i64 l[k].h) := by
  obtain ⟨b, off, ha, hb, hc⟩ := Lst.get h hk
  exact ⟨b, off, ha, hb, hc 0 (by omega), hc 1 (by omega), hc 2 (by omega), hc 3 (by omega)⟩

set_option maxHeartbeats 400000 in
theorem equal_any (ao bo : Option Addr) (ac bc : Nat) (a b : List Ent) (w : World) (ha : ERow w (.slice ao a.length ac) a) (hb : ERow w (.slice bo b.length bc) b) (h1 : a.length ≤ 100000) (h2 : b.length ≤ 100000) :
    Calls Tryz.prog 32 #[.slice ao a.length ac, .slice bo b.length bc] w fun e w' => e = .returned (.bool (eqR a b)) ∧ Below w.heap.size w w' := by
  have HA := Lib.hid ha
  have HB := Lib.hid hb
  clear ha hb
  cases hl : ((a.length : Int) != (b.length : Int))
  · have hll : a.length = b.length := by simp at hl; omega
    have HLL := Lib.hid hll
    obtain ⟨r, hr⟩ : ∃ r, r = eqR a b := ⟨_, rfl⟩
    rw [← hr]
    have HR := Lib.hid hr
    clear hr hll
    go_enter Tryz.func32, Tryz.ntmps32
    go_wp2_with fail
    go_loopw [13] (fun iv wr => ∃ (k nq : Nat), k ≤ a.length ∧ iv = .int .i64 k ∧ wr = w.drewN nq ∧ Hid (eqR (a.drop k) (b.drop k) = r)) (fun iv _ => a.length - (intOf iv).toNat)
    case atStart => exact ⟨0, 0, by omega, rfl, rfl, Lib.hid (by rw [HR.out]; simp)⟩
    case round =>
      obtain ⟨k, nq0, hk, rfl, rfl, hq0⟩ := hrel
      by_cases hlt : k < a.length
      · have hlb : k < b.length := by have := HLL.out; omega
        obtain ⟨ab, aoff, rfl, _, a0, a1, a2, a3⟩ := ERow.cells HA.out hlt
        obtain ⟨bb, boff, rfl, _, b0, b1, b2, b3⟩ := ERow.cells HB.out hlb
        have hda := List.drop_eq_getElem_cons hlt
        have hdb := List.drop_eq_getElem_cons hlb
        generalize a[k] = x at *
        generalize b[k] = y at *
        have HDA := Lib.hid hda
        have HDB := Lib.hid hdb
        clear hda hdb
        cases hqq : eqE x y
        · have HQ := Lib.hid hqq
          have hn := neq_run x y _ hqq
          have hg := guard_run .neq
          clear hqq
          go_wp2_with fail
          go_quiet (fail)
          go_wp2_with fail
          go_ret
          exact ⟨by have := hq0.out; rw [HDA.out, HDB.out] at this; simp only [eqR, HQ.out, Bool.false_and] at this; rw [← this]; rfl, by repeat (first | exact Below.refl _ _ | apply below_drewN)⟩
        · have HQ := Lib.hid hqq
          have hn := neq_run x y _ hqq
          have hg := guard_run .neq
          clear hqq
          go_wp2_with fail
          go_quiet (fail)
          go_wp2_with fail
          go_roundw
          case rel => exact ⟨k + 1, _, by omega, by go_num, rfl, Lib.hid (by have := hq0.out; rw [HDA.out, HDB.out] at this; simpa only [eqR, HQ.out, Bool.true_and] using this)⟩
          case measure => simp [intOf]; omega
      · obtain rfl : k = a.length := by omega
        go_wp2_with fail
        go_ret
        exact ⟨by have := hq0.out; rw [List.drop_length, HLL.out, List.drop_length] at this; rw [← this]; rfl, by repeat (first | exact Below.refl _ _ | apply below_drewN)⟩
  · have hll : a.length ≠ b.length := by simp at hl; omega
    rw [eqR_len a b hll]
    clear hll
    go_enter Tryz.func32, Tryz.ntmps32
    go_wp2_with fail
    go_ret
    exact ⟨rfl, Below.refl _ _⟩

/-- Is an entry among some? -/
def hasE (l : List Ent) (x : Ent) : Bool := l.any (eqE x)
def idxE (l : List Ent) (x : Ent) : Int := if hasE l x then 0 else -1

set_option maxHeartbeats 400000 in
theorem index_any (ao : Option Addr) (ac : Nat) (a : List Ent) (x : Ent) (w : World) (ha : ERow w (.slice ao a.length ac) a) (h1 : a.length ≤ 100000) :
    Calls Tryz.prog 77 #[.slice ao a.length ac, .agg #[.string x.k, .int .i64 x.p, .int .i64 x.l, .int .i64 x.h]] w fun e w' => ∃ i : Int, e = .returned (.int .i64 i) ∧ decide (0 ≤ i) = hasE a x ∧ Below w.heap.size w w' := by
  have HA := Lib.hid ha
  clear ha
  go_enter Tryz.func77, Tryz.ntmps77
  go_wp2_with fail
  go_loopw [8] (fun iv wr => ∃ (k nq : Nat), k ≤ a.length ∧ iv = .int .i64 k ∧ wr = (w.alloc (.cells #[.string x.k, .int .i64 x.p, .int .i64 x.l, .int .i64 x.h] 72)).drewN nq ∧ Hid (hasE (a.drop k) x = hasE a x)) (fun iv _ => a.length - (intOf iv).toNat)
  case atStart => exact ⟨0, 0, by omega, rfl, rfl, Lib.hid (by simp)⟩
  case round =>
    obtain ⟨k, nq0, hk, rfl, rfl, hq0⟩ := hrel
    by_cases hlt : k < a.length
    · obtain ⟨ab, aoff, rfl, hbl, a0, a1, a2, a3⟩ := ERow.cells HA.out hlt
      have hda := List.drop_eq_getElem_cons hlt
      generalize a[k] = y at *
      have HDA := Lib.hid hda
      clear hda
      cases hqq : eqE x y
      all_goals
        have HQ := Lib.hid hqq
        have hn := eql_run x y _ hqq
        have hg := guard_run .eql
        clear hqq
        go_wp2_with fail
        go_quiet (fail)
        go_wp2_with fail
      · go_roundw
        case rel => exact ⟨k + 1, _, by omega, by go_num, rfl, Lib.hid (by have := hq0.out; rw [HDA.out] at this; simpa only [hasE, List.any_cons, HQ.out, Bool.false_or] using this)⟩
        case measure => simp [intOf]; omega
      · go_ret
        exact ⟨k, rfl, by rw [← hq0.out, HDA.out]; simp [hasE, HQ.out], by repeat (first | exact (Below.refl _ _).alloc (Nat.le_refl _) _ | apply below_drewN)⟩
    · obtain rfl : k = a.length := by omega
      go_wp2_with fail
      go_ret
      exact ⟨-1, rfl, by rw [← hq0.out, List.drop_length]; rfl, by repeat (first | exact (Below.refl _ _).alloc (Nat.le_refl _) _ | apply below_drewN)⟩

theorem contains_any (ao : Option Addr) (ac : Nat) (a : List Ent) (x : Ent) (w : World) (ha : ERow w (.slice ao a.length ac) a) (h1 : a.length ≤ 100000) :
    Calls Tryz.prog 31 #[.slice ao a.length ac, .agg #[.string x.k, .int .i64 x.p, .int .i64 x.l, .int .i64 x.h]] w fun e w' => e = .returned (.bool (hasE a x)) ∧ Below w.heap.size w w' := by
  have HA := Lib.hid (Lst.alloc ha (.cells #[.string x.k, .int .i64 x.p, .int .i64 x.l, .int .i64 x.h] 72))
  clear ha
  go_enter Tryz.func31, Tryz.ntmps31
  go_wp2_with fail
  refine (index_any ao ac a x _ HA.out h1).mono ?_
  rintro e w2 ⟨i, rfl, hi, hb2⟩
  have HI := Lib.hid hi
  clear hi
  go_wp2_with fail
  go_ret
  exact ⟨ret_bool HI.out, below_then ((Below.refl _ _).alloc (Nat.le_refl _) _) (Nat.le_refl _) hb2⟩
end Go.Proofs.YtmfhmcegmeinnaaGreatDoor.Diffs
