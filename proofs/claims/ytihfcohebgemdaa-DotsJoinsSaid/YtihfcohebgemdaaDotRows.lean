/- Layer 6 (dots): slices.Equal, slices.BinarySearchFunc at writes. PRINTED by wip/gendotrows.py. -/
import Derived.Test.YtihfcohebgemdaaDotCmp
set_option linter.unusedSimpArgs false
set_option linter.unusedVariables false
namespace Go.Proofs.Ytihfcohebgemdaa.Dots
open Go.RowKit Go.Sort Go.Proofs.Ytihfcohebgemdaa.Vec

/-- Are two writes the same? -/
def eqD (x y : P) : Bool := (x.who == y.who) && (x.n == y.n)
theorem held_D : Try.prog.stoodInHeld 33 = false := by kernel_rfl
theorem guard_D : Try.prog.eqGuardType Try.prog.depth 33 = false := by kernel_rfl
theorem fields_D : Try.prog.underlying 33 = some (.struct (Try.prog.fieldsOf 33)) := by unfold Program.fieldsOf; rw [Try.underlying33]
theorem eqD_run (x y : P) (w : World) : (Op.equalIn 10000 33 (vD x) (vD y)).run Try.prog w = .ok (eqD x y) w := by
  rw [run_equalIn_agg w 9999 _ _ _ fields_D held_D]
  unfold Program.fieldsOf
  rw [Try.underlying33]
  unfold eqD
  go_simp
  by_cases h1 : x.who = y.who <;> by_cases h2 : x.n = y.n <;> simp [h1, h2]
theorem neq_run (x y : P) (q : Bool) (h : eqD x y = q) (w : World) : (binOp .neq 33 (.agg #[.int .i64 x.who, .int .i64 x.n]) (.agg #[.int .i64 y.who, .int .i64 y.n])).run Try.prog w = .ok (.bool (!q)) w := by
  rw [run_neq_struct, eqD_run, h]; rfl
theorem eql_run (x y : P) (q : Bool) (h : eqD x y = q) (w : World) : (binOp .eql 33 (.agg #[.int .i64 x.who, .int .i64 x.n]) (.agg #[.int .i64 y.who, .int .i64 y.n])).run Try.prog w = .ok (.bool q) w := by
  rw [run_eql_struct, eqD_run, h]; rfl
theorem guard_run (op : BinOp) (a b : Operand) (xs ys : Array Value) (w : World) : (eqGuard op 33 a b (.agg xs) (.agg ys)).run Try.prog w = .ok () w := run_eqGuard_agg w op _ a b xs ys guard_D
theorem eqD_iff (x y : P) : eqD x y = true ↔ x = y := by
  unfold eqD
  cases x; cases y; simp
theorem eqD_self (x : P) : eqD x x = true := (eqD_iff x x).2 rfl

/-- Are two rows the same? -/
def eqR : List P → List P → Bool
  | [], [] => true
  | x :: a, y :: b => eqD x y && eqR a b
  | [], _ :: _ => false
  | _ :: _, [] => false
theorem eqR_iff : ∀ (a b : List P), eqR a b = true ↔ a = b
  | [], [] => by simp [eqR]
  | x :: a, y :: b => by simp [eqR, eqD_iff, eqR_iff a b]
  | [], _ :: _ => by simp [eqR]
  | _ :: _, [] => by simp [eqR]
theorem eqR_len : ∀ (a b : List P), a.length ≠ b.length → eqR a b = false
  | [], [], h => absurd rfl h
  | x :: a, y :: b, h => by simp only [eqR]; rw [eqR_len a b (by simpa using h), Bool.and_false]
  | [], _ :: _, _ => rfl
  | _ :: _, [], _ => rfl

/-- Element k of a row, its cells. -/
theorem DRow.cells {w : World} {ao : Option Addr} {n cap : Nat} {l : List P} (h : DRow w (.slice ao n cap) l) {k : Nat} (hk : k < l.length) :
    ∃ b off, ao = some ⟨b, off, none⟩ ∧ b < w.heap.size ∧ w.cell? ⟨b, off + k * 2, none⟩ = some (.int .i64 l[k].who) ∧ w.cell? ⟨b, off + k * 2 + 1, none⟩ = some (.int .i64 l[k].n) := by
  obtain ⟨b, off, ha, hb, hc⟩ := Lst.get h hk
  exact ⟨b, off, ha, hb, hc 0 (by omega), hc 1 (by omega)⟩

set_option maxHeartbeats 400000 in
theorem equal_any (ao bo : Option Addr) (ac bc : Nat) (a b : List P) (w : World) (ha : DRow w (.slice ao a.length ac) a) (hb : DRow w (.slice bo b.length bc) b) (h1 : a.length ≤ 100000) (h2 : b.length ≤ 100000) :
    Calls Try.prog 49 #[.slice ao a.length ac, .slice bo b.length bc] w fun e w' => e = .returned (.bool (eqR a b)) ∧ Below w.heap.size w w' := by
  have HA := Lib.hid ha
  have HB := Lib.hid hb
  clear ha hb
  cases hl : ((a.length : Int) != (b.length : Int))
  · have hll : a.length = b.length := by simp at hl; omega
    have HLL := Lib.hid hll
    obtain ⟨r, hr⟩ : ∃ r, r = eqR a b := ⟨_, rfl⟩
    rw [← hr]
    have HR := Lib.hid hr
    clear hr hll
    go_enter Try.func49, Try.ntmps49
    go_wp2_with fail
    go_loopw [13] (fun iv wr => ∃ (k nq : Nat), k ≤ a.length ∧ iv = .int .i64 k ∧ wr = w.drewN nq ∧ Hid (eqR (a.drop k) (b.drop k) = r)) (fun iv _ => a.length - (intOf iv).toNat)
    case atStart => exact ⟨0, 0, by omega, rfl, rfl, Lib.hid (by rw [HR.out]; simp)⟩
    case round =>
      obtain ⟨k, nq0, hk, rfl, rfl, hq0⟩ := hrel
      by_cases hlt : k < a.length
      · have hlb : k < b.length := by have := HLL.out; omega
        obtain ⟨ab, aoff, rfl, _, a0, a1⟩ := Dots.DRow.cells HA.out hlt
        obtain ⟨bb, boff, rfl, _, b0, b1⟩ := Dots.DRow.cells HB.out hlb
        have hda := List.drop_eq_getElem_cons hlt
        have hdb := List.drop_eq_getElem_cons hlb
        generalize a[k] = x at *
        generalize b[k] = y at *
        have HDA := Lib.hid hda
        have HDB := Lib.hid hdb
        clear hda hdb
        cases hqq : eqD x y
        · have HQ := Lib.hid hqq
          have hn := neq_run x y _ hqq
          have hg := guard_run .neq
          clear hqq
          go_wp2_with fail
          go_quiet (fail)
          go_wp2_with fail
          go_ret
          exact ⟨by have := hq0.out; rw [HDA.out, HDB.out] at this; simp only [eqR, HQ.out, Bool.false_and] at this; rw [← this]; rfl, by repeat (first | exact Below.refl _ _ | apply below_drewN)⟩
        · have HQ := Lib.hid hqq
          have hn := neq_run x y _ hqq
          have hg := guard_run .neq
          clear hqq
          go_wp2_with fail
          go_quiet (fail)
          go_wp2_with fail
          go_roundw
          case rel => exact ⟨k + 1, _, by omega, by go_num, rfl, Lib.hid (by have := hq0.out; rw [HDA.out, HDB.out] at this; simpa only [eqR, HQ.out, Bool.true_and] using this)⟩
          case measure => simp [intOf]; omega
      · obtain rfl : k = a.length := by omega
        go_wp2_with fail
        go_ret
        exact ⟨by have := hq0.out; rw [List.drop_length, HLL.out, List.drop_length] at this; rw [← this]; rfl, by repeat (first | exact Below.refl _ _ | apply below_drewN)⟩
  · have hll : a.length ≠ b.length := by simp at hl; omega
    rw [eqR_len a b hll]
    clear hll
    go_enter Try.func49, Try.ntmps49
    go_wp2_with fail
    go_ret
    exact ⟨rfl, Below.refl _ _⟩

theorem dC_self (x : P) : dC x x = 0 := (dC_zero x x).2 rfl
theorem has_at {l : List P} {t : P} {i : Nat} (hl : Str l) (h1 : ∀ k x, k < i → l[k]? = some x → dC x t < 0) (h2 : ∀ k x, i ≤ k → l[k]? = some x → 0 ≤ dC x t) :
    hasD l t = match l[i]? with | some x => decide (dC x t = 0) | none => false := by
  have hmem : ∀ q : Bool, (q = true ↔ t ∈ l) → hasD l t = q := by
    intro q hq
    have := hasD_iff l t
    cases q
    · cases h : hasD l t with
      | false => rfl
      | true => exact absurd (hq.2 (this.1 h)) (by decide)
    · exact this.2 (hq.1 rfl)
  apply hmem
  cases hi : l[i]? with
  | none =>
    simp only [Bool.false_eq_true, false_iff]
    intro hm
    obtain ⟨k, hk, e⟩ := List.getElem_of_mem hm
    have hki : k < i := by
      have := List.getElem?_eq_none_iff.1 hi
      omega
    have := h1 k t hki (by rw [List.getElem?_eq_getElem hk, e])
    rw [dC_self] at this
    omega
  | some x =>
    simp only [decide_eq_true_eq]
    constructor
    · intro h
      rw [(dC_zero x t).1 h] at hi
      exact List.mem_of_getElem? hi
    · intro hm
      obtain ⟨k, hk, e⟩ := List.getElem_of_mem hm
      have hkt : l[k]? = some t := by rw [List.getElem?_eq_getElem hk, e]
      have hik : i ≤ k := by
        rcases Nat.lt_or_ge k i with g | g
        · have := h1 k t g hkt
          rw [dC_self] at this
          omega
        · exact g
      rcases Nat.lt_or_ge i k with g | g
      · have hx0 := h2 i x (Nat.le_refl _) hi
        obtain ⟨hil, hie⟩ := List.getElem?_eq_some_iff.1 hi
        have := List.pairwise_iff_getElem.1 hl i k hil hk g
        rw [hie, e] at this
        have := (dC_lt x t).2 this
        omega
      · have : k = i := by omega
        subst this
        rw [hi] at hkt
        cases hkt
        exact dC_self _

set_option maxHeartbeats 8000000 in
set_option maxRecDepth 100000 in
theorem bs_any (v : Value) (R : List P) (t : P) (w : World) (hv : DRow w v R) (hs : Str R) (hn : R.length ≤ 1000000) :
    Calls Try.prog 42 #[v, .agg #[.int .i64 t.who, .int .i64 t.n], .func (.func 43) #[] #[]] w fun e w' => ∃ i : Nat, e = .returned (.tuple #[.int .i64 i, .bool (hasD R t)]) ∧ RowKit.Below w.heap.size w w' := by
  obtain ⟨ao, cap, rfl, -, -⟩ := Lst.form hv
  obtain ⟨n, hnn⟩ : ∃ n, n = R.length := ⟨_, rfl⟩
  rw [← hnn] at hv hn ⊢
  have hm : ∀ (a b : Nat) (x y : P), a < b → R[a]? = some x → R[b]? = some y → dC y t < 0 → dC x t < 0 := fun a b x y hab hx hy h => by
    obtain ⟨ha, ea⟩ := List.getElem?_eq_some_iff.1 hx
    obtain ⟨hb, eb⟩ := List.getElem?_eq_some_iff.1 hy
    have := List.pairwise_iff_getElem.1 hs a b ha hb hab
    rw [ea, eb] at this
    exact (dC_lt _ _).2 (lt_trans this ((dC_lt _ _).1 h))
  obtain ⟨Q, hQ⟩ : ∃ Q, Q = hasD R t := ⟨_, rfl⟩
  rw [← hQ]
  have HQQ := Lib.hid hQ
  have HV := Lib.hid hv
  have HM := Lib.hid hm
  have HN := Lib.hid hnn
  have HS := Lib.hid hs
  clear hv hm hnn hs hQ
  go_enter Try.func42, Try.ntmps42
  go_upto_region 1 with fail
  obtain ⟨W, hW⟩ : ∃ W, W = w.alloc (.cells #[.int .i64 t.who, .int .i64 t.n] 33) := ⟨_, rfl⟩
  have hbx : RowKit.Below w.heap.size w W := by rw [hW]; exact (Below.refl _ _).alloc (Nat.le_refl _) _
  have e0 : W.cell? ⟨w.heap.size, 0, none⟩ = some (.int .i64 t.who) := by rw [hW]; go_simp
  have e1 : W.cell? ⟨w.heap.size, 1, none⟩ = some (.int .i64 t.n) := by rw [hW]; go_simp
  have htb2 : w.heap.size < W.heap.size := by rw [hW]; simp
  rw [← hW]
  obtain ⟨tb, htb⟩ : ∃ g, g = w.heap.size := ⟨_, rfl⟩
  rw [← htb] at e0 e1 htb2 ⊢
  have HT := Lib.hid (fun W' (h : RowKit.Below W.heap.size W W') => show W'.cell? ⟨tb, 0, none⟩ = some (.int .i64 t.who) ∧ W'.cell? ⟨tb, 1, none⟩ = some (.int .i64 t.n) from
    ⟨(h.cell (p := ⟨tb, 0, none⟩) htb2).trans e0, (h.cell (p := ⟨tb, 1, none⟩) htb2).trans e1⟩)
  have HBX := Lib.hid hbx
  have HTB := Lib.hid htb
  clear hW e0 e1 hbx htb
  go_wp2_with fail
  go_loopw [9, 10] (fun iv jv wr => ∃ (i j : Nat), iv = .int .i64 i ∧ jv = .int .i64 j ∧ i ≤ j ∧ j ≤ n ∧ Hid ((∀ (k : Nat) (x : P), k < i → R[k]? = some x → dC x t < 0) ∧ ∀ (k : Nat) (x : P), j ≤ k → R[k]? = some x → 0 ≤ dC x t) ∧ RowKit.Below W.heap.size W wr) (fun iv jv _ => (intOf jv).toNat - (intOf iv).toNat)
  case atStart => exact ⟨0, n, rfl, rfl, by omega, by omega, Lib.hid ⟨fun k x h => (by omega), fun k x h h2 => absurd ((List.getElem?_eq_some_iff.1 h2).1) (by have := HN.out; omega)⟩, Below.refl _ _⟩
  case round =>
    obtain ⟨i, j, rfl, rfl, hij, hjn, hp, hb⟩ := hrel
    have hbw : RowKit.Below w.heap.size w wr := HBX.out.trans (hb.mono HBX.out.size)
    obtain ⟨d0, d1⟩ := HT.out wr hb
    have htb3 : tb < wr.heap.size := Nat.lt_of_lt_of_le htb2 hb.size
    by_cases hlt : i < j
    · obtain ⟨h, hh⟩ : ∃ h, h = (i + j) / 2 := ⟨_, rfl⟩
      have hhr : h < R.length := by have := HN.out; omega
      obtain ⟨x, hx⟩ : ∃ x, R[h]? = some x := ⟨_, List.getElem?_eq_getElem hhr⟩
      have hxe : R[h] = x := (List.getElem?_eq_some_iff.1 hx).2
      obtain ⟨xb, xoff, hao, hblt, a0, a1⟩ := Dots.DRow.cells (HV.out.below hbw) hhr
      subst hao
      rw [hxe] at a0 a1
      obtain ⟨q, hq⟩ : ∃ q, q = dC x t := ⟨_, rfl⟩
      have hcall := fun z => (less_any x t z).mono fun e z' h => And.intro h.1 h.2.below
      rw [← hq] at hcall
      have e1 : IntKind.i64.wrap ((i : Int) + (j : Int)) = (i : Int) + (j : Int) := IntWalk.i64_in _ (by omega)
      have e2 : IntKind.u64.wrap ((i : Int) + (j : Int)) = (i : Int) + (j : Int) := by simp [IntKind.wrap, IntKind.bits, IntKind.signed]; omega
      have e3 : ((i : Int) + (j : Int)) / 2 = (h : Int) := by omega
      have e4 : IntKind.i64.wrap (h : Int) = (h : Int) := IntWalk.i64_in _ (by omega)
      have e5 : IntKind.i64.wrap ((h : Int) + 1) = (h : Int) + 1 := IntWalk.i64_in _ (by omega)
      have hih : i ≤ h ∧ h < j := by omega
      have hhn : h < n := by omega
      have HCALL := Lib.hid hcall
      have HLH := Lib.hid hx
      have HQ := Lib.hid hq
      clear hcall hq hx hxe hh
      by_cases hneg : q < 0
      · have hnegd : decide (q < 0) = true := decide_eq_true hneg
        go_wp2_with fail
        refine wp_region_calm (by kernel_rfl) (by kernel_rfl) ?_
        repeat (go_big_quiet_step ((go_at_call 43; exact calm (HCALL.out _))))
        refine wpQuiet_nil ?_
        rintro _ ⟨y, rfl⟩
        go_wp2_with fail
        go_roundw
        case rel => exact ⟨h + 1, j, by first | rfl | go_num, rfl, by omega, by omega, Lib.hid ⟨fun k z hk hz => by
          by_cases hkh : k = h
          · subst hkh
            have := HLH.out.symm.trans hz
            cases this
            rw [← HQ.out]; exact hneg
          · exact HM.out k h z x (by omega) hz HLH.out (by rw [← HQ.out]; exact hneg), hp.out.2⟩, hb.trans (y.below.mono hb.size)⟩
        case measure => simp [intOf]; omega
      · have hnegd : decide (q < 0) = false := decide_eq_false hneg
        have hge : 0 ≤ q := by omega
        clear hneg
        go_wp2_with fail
        refine wp_region_calm (by kernel_rfl) (by kernel_rfl) ?_
        repeat (go_big_quiet_step ((go_at_call 43; exact calm (HCALL.out _))))
        refine wpQuiet_nil ?_
        rintro _ ⟨y, rfl⟩
        go_wp2_with fail
        go_roundw
        case rel => exact ⟨i, h, rfl, by first | rfl | go_num, by omega, by omega, Lib.hid ⟨hp.out.1, fun k z hk hz => by
          by_cases hkh : k = h
          · subst hkh
            have := HLH.out.symm.trans hz
            cases this
            rw [← HQ.out]; exact hge
          · refine Int.not_lt.1 fun hz0 => ?_
            have hx0 := HM.out h k x z (by omega) HLH.out hz hz0
            rw [← HQ.out] at hx0
            omega⟩, hb.trans (y.below.mono hb.size)⟩
        case measure => simp [intOf]; omega
    · obtain rfl : i = j := by omega
      have HH := Lib.hid (has_at HS.out hp.out.1 hp.out.2)
      by_cases hin : i < n
      · have hhr : i < R.length := by have := HN.out; omega
        obtain ⟨x, hx⟩ : ∃ x, R[i]? = some x := ⟨_, List.getElem?_eq_getElem hhr⟩
        have hxe : R[i] = x := (List.getElem?_eq_some_iff.1 hx).2
        obtain ⟨xb, xoff, hao, hblt, a0, a1⟩ := Dots.DRow.cells (HV.out.below hbw) hhr
        subst hao
        rw [hxe] at a0 a1
        have hat := HH.out
        rw [hx] at hat
        simp only [] at hat
        obtain ⟨q, hq⟩ : ∃ q, q = dC x t := ⟨_, rfl⟩
        have hcall := fun z => (less_any x t z).mono fun e z' h => And.intro h.1 h.2.below
        rw [← hq] at hcall hat
        have HCALL := Lib.hid hcall
        have HAT := Lib.hid hat
        clear hcall hat hq hx hxe HH
        have hqe : (q == 0) = decide (q = 0) := by by_cases h : q = 0 <;> simp [h]
        have i0' : (0 : Int) ≤ (i : Int) := by omega
        have i1' : (i : Int) < (n : Int) := by omega
        go_wp2_with fail
        refine wp_region_calm (by kernel_rfl) (by kernel_rfl) ?_
        repeat (go_big_quiet_step ((go_at_call 43; exact calm (HCALL.out _))))
        refine wpQuiet_nil ?_
        rintro _ ⟨y, rfl⟩
        have hyb := y.below
        go_wp2_with fail
        go_ret2
        exact ⟨i, by rw [HQQ.out, HAT.out, ← hqe]; rfl, hbw.trans (hyb.mono hbw.size)⟩
      · have hat := HH.out
        rw [List.getElem?_eq_none (by have := HN.out; omega)] at hat
        simp only [] at hat
        have HAT := Lib.hid hat
        clear hat HH
        have i1' : ¬ ((i : Int) < (n : Int)) := by omega
        go_wp2_with fail
        refine wp_region_calm (by kernel_rfl) (by kernel_rfl) ?_
        repeat (go_big_quiet_step (fail))
        refine wpQuiet_nil ?_
        rintro _ ⟨y, rfl⟩
        have hyb := y.below
        go_wp2_with fail
        go_ret2
        exact ⟨i, by rw [HQQ.out, HAT.out]; rfl, hbw.trans (hyb.mono hbw.size)⟩
end Go.Proofs.Ytihfcohebgemdaa.Dots
