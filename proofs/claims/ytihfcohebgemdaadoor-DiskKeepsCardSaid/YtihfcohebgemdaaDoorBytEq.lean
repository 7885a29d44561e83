/- Rows of bytes: slices.Equal, slices.Clone; wire.Put behind the one byte of a literal (layers 3, 8). -/
import Derived.Test.YtihfcohebgemdaaDoorMrkOnto
import Derived.Test.YtihfcohebgemdaaDoorSpareAny
import Derived.Test.YtihfcohebgemdaaDoorMutCopies
set_option linter.unusedSimpArgs false
set_option linter.unusedVariables false
namespace Go.Proofs.YtihfcohebgemdaaDoor.Mrk
open Go.RowKit Go.Proofs.YtihfcohebgemdaaDoor.Spare

def eqB (a b : List Nat) : Bool := decide (a = b)
theorem eqB_iff (a b : List Nat) : eqB a b = true ↔ a = b := by unfold eqB; simp
theorem eqB_self (a : List Nat) : eqB a a = true := (eqB_iff a a).2 rfl

set_option maxHeartbeats 400000 in
theorem equalB_any (ao bo : Option Addr) (ac bc : Nat) (a b : List Nat) (w : World) (ha : BRow w (.slice ao a.length ac) a) (hb : BRow w (.slice bo b.length bc) b) (h1 : a.length ≤ 100000) (h2 : b.length ≤ 100000) :
    Calls Tryd.prog 12 #[.slice ao a.length ac, .slice bo b.length bc] w fun e w' => e = .returned (.bool (eqB a b)) ∧ Below w.heap.size w w' := by
  have HA := Lib.hid ha
  have HB := Lib.hid hb
  clear ha hb
  cases hl : ((a.length : Int) != (b.length : Int))
  · have hll : a.length = b.length := by simp at hl; omega
    have HLL := Lib.hid hll
    obtain ⟨r, hr⟩ : ∃ r, r = eqB a b := ⟨_, rfl⟩
    rw [← hr]
    have HR := Lib.hid hr
    clear hr hll
    go_enter Tryd.func12, Tryd.ntmps12
    go_wp2_with fail
    go_loopw [13] (fun iv wr => ∃ (k nq : Nat), k ≤ a.length ∧ iv = .int .i64 k ∧ wr = w.drewN nq ∧ Hid (eqB (a.drop k) (b.drop k) = r)) (fun iv _ => a.length - (intOf iv).toNat)
    case atStart => exact ⟨0, 0, by omega, rfl, rfl, Lib.hid (by rw [HR.out]; simp)⟩
    case round =>
      obtain ⟨k, nq0, hk, rfl, rfl, hq0⟩ := hrel
      by_cases hlt : k < a.length
      · have hlb : k < b.length := by have := HLL.out; omega
        obtain ⟨ab, aoff, rfl, _, a0⟩ := byte_at HA.out (List.getElem?_eq_getElem hlt)
        obtain ⟨bb, boff, rfl, _, b0⟩ := byte_at HB.out (List.getElem?_eq_getElem hlb)
        have hda := List.drop_eq_getElem_cons hlt
        have hdb := List.drop_eq_getElem_cons hlb
        generalize a[k] = x at *
        generalize b[k] = y at *
        have HDA := Lib.hid hda
        have HDB := Lib.hid hdb
        clear hda hdb
        cases hqq : ((x : Int) != (y : Int))
        · have HQ := Lib.hid hqq
          go_wp2_with fail
          go_quiet (fail)
          go_wp2_with fail
          go_roundw
          case rel => exact ⟨k + 1, _, by omega, by go_num, rfl, Lib.hid (by have h1 := hq0.out; rw [HDA.out, HDB.out] at h1; have h2 : x = y := (by have h3 := HQ.out; simp at h3; omega); rw [← h1]; unfold eqB; simp [h2])⟩
          case measure => simp [intOf]; omega
        · have HQ := Lib.hid hqq
          go_wp2_with fail
          go_quiet (fail)
          go_wp2_with fail
          go_ret
          exact ⟨by have h1 := hq0.out; rw [HDA.out, HDB.out] at h1; have h2 : ¬ x = y := (by have h3 := HQ.out; simp at h3; omega); rw [← h1]; unfold eqB; simp [h2], by repeat (first | exact Below.refl _ _ | apply below_drewN)⟩
      · obtain rfl : k = a.length := by omega
        go_wp2_with fail
        go_ret
        exact ⟨by have := hq0.out; rw [List.drop_length, HLL.out, List.drop_length] at this; rw [← this]; rfl, by repeat (first | exact Below.refl _ _ | apply below_drewN)⟩
  · have hll : a.length ≠ b.length := by simp at hl; omega
    have : eqB a b = false := by
      cases h : eqB a b with
      | false => rfl
      | true => rw [eqB_iff] at h; exact (hll (by rw [h])).elim
    rw [this]
    clear hll this
    go_enter Tryd.func12, Tryd.ntmps12
    go_wp2_with fail
    go_ret
    exact ⟨rfl, Below.refl _ _⟩

theorem equalB_lit (q : Bool) (ao bo : Option Addr) (ac bc : Nat) (a b : List Nat) (w : World) (hq : eqB a b = q) (ha : BRow w (.slice ao a.length ac) a) (hb : BRow w (.slice bo b.length bc) b) (h1 : a.length ≤ 100000) (h2 : b.length ≤ 100000) :
    Calls Tryd.prog 12 #[.slice ao a.length ac, .slice bo b.length bc] w fun e w' => e = .returned (.bool q) ∧ Below w.heap.size w w' := by
  rw [← hq]; exact equalB_any ao bo ac bc a b w ha hb h1 h2


/-- These bytes, in a row of the call's own with spare zero cells. -/
abbrev SpB (w : World) (base : Nat) (v : Value) (l : List Nat) : Prop := Spare w base 5 [.int .u8 0] v l.length (l.flatMap enB)
theorem spB_own {w : World} {base : Nat} {v : Value} {l : List Nat} (h : SpB w base v l) : OwnB w base v l := by have h1 := Spare.own h; unfold OwnB; simpa using h1
theorem bytes_one (l : List Nat) : ∀ u ∈ l.flatMap enB, u.oneCell' = true := by
  intro u hu
  rw [flat_enB] at hu
  obtain ⟨c, _, rfl⟩ := List.mem_map.1 hu
  rfl

set_option maxHeartbeats 2000000 in
set_option maxRecDepth 100000 in
theorem cloneB_any (v : Value) (l : List Nat) (w : World) (ha : BRow w v l) (hl : l.length ≤ 1000000) :
    Calls Tryd.prog 10 #[v] w fun e w' => ∃ v', e = .returned v' ∧ SpB w' w.heap.size v' l ∧ Below w.heap.size w w' := by
  have q22 : ∀ (w : World) (a : Option Addr) (n c n' c' : Nat), (binOp .eql 22 (.slice a n c) (.slice none n' c')).run Tryd.prog w = .ok (.bool a.isNone) w := fun w a n c n' c' => Lib.run_eql_slice_nil w _ _ a n c n' c' Tryd.underlying22
  obtain ⟨i0, hi, hz0, hz1, hz2⟩ := info_parts_B
  have HI := Lib.hid (And.intro hi (And.intro hz0 (And.intro hz1 hz2)))
  clear hi hz0 hz1 hz2
  obtain ⟨ao, ac, rfl, -, -⟩ := Lst.form ha
  cases ao with
  | none =>
    have h0 : l = [] := by
      cases l with
      | nil => rfl
      | cons x l => obtain ⟨b, off, e, _⟩ := Lst.get ha (show 0 < (x :: l).length by simp); cases e
    subst h0
    clear ha
    go_enter Tryd.func10, Tryd.ntmps10
    go_wp2_with fail
    go_ret
    exact ⟨_, rfl, Spare.nil _ _ _ _, Below.refl _ _⟩
  | some a =>
    have HN := Lib.hid (Mut.lst_src enB_len (by decide) (ha.alloc (.cells #[] 5)))
    obtain ⟨n, hn⟩ : ∃ n, n = l.length := ⟨_, rfl⟩
    rw [← hn] at HN ha hl ⊢
    have HLN := Lib.hid hn
    have HSP := Lib.hid (Mut.spare_lit w w.heap.size 5 [.int .u8 0] (by decide) (Nat.le_refl _))
    clear ha hn
    go_enter Tryd.func10, Tryd.ntmps10
    go_wp2_with (at_builtin; refine wpList_append_spareAny rfl _ _ 22 rfl w.heap.size 5 i0 (.int .u8 0) [.int .u8 0] 1 Tryd.underlying22 HI.out.1 HI.out.2.1 rfl HI.out.2.2.1 HI.out.2.2.2 (by decide) (.slice (some ⟨w.heap.size, 0, none⟩) 0 0) 0 [] rfl HSP.out (some a) n ac (l.flatMap enB) rfl ?qc1 ?qc2 ?qc3 ?qc4 ?qc5 ?qc6 ?_)
    case qc1 => rw [flat_enB, List.length_map, ← HLN.out]; exact (Nat.mul_one _).symm
    case qc2 => exact HN.out
    case qc3 => exact bytes_one l
    case qc4 => unfold maxLen; omega
    case qc5 => omega
    case qc6 => simp
    intro v' w1 hown hgrow _ _
    have HE := Lib.hid (show SpB w1 w.heap.size v' l ∧ Below w.heap.size w w1 from ⟨by unfold SpB; rw [← HLN.out]; simpa using hown, ((Below.refl _ w).alloc (Nat.le_refl _) _).grown hgrow (by simp) (by intro k hk; simp [Value.ownBlock] at hk; omega)⟩)
    clear hown hgrow
    go_wp2_with fail
    go_ret
    exact ⟨_, rfl, HE.out.1, HE.out.2⟩
end Go.Proofs.YtihfcohebgemdaaDoor.Mrk
