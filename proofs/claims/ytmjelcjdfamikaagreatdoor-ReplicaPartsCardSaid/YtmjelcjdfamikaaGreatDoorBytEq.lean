/- Rows of bytes: slices.Equal, slices.Clone; wire.Put behind the one byte of a literal (layers 3, 8). -/
import Derived.Test.YtmjelcjdfamikaaGreatDoorMrkOnto
import Derived.Test.YtmjelcjdfamikaaGreatDoorSpareAny
import Derived.Test.YtmjelcjdfamikaaGreatDoorAppFull
import Derived.Test.YtmjelcjdfamikaaGreatDoorMutCopies
set_option linter.unusedSimpArgs false
set_option linter.unusedVariables false
namespace Go.Proofs.YtmjelcjdfamikaaGreatDoor.Mrk
open Go.RowKit Go.Proofs.YtmjelcjdfamikaaGreatDoor.Spare

def eqB (a b : List Nat) : Bool := decide (a = b)
theorem eqB_iff (a b : List Nat) : eqB a b = true ↔ a = b := by unfold eqB; simp
theorem eqB_self (a : List Nat) : eqB a a = true := (eqB_iff a a).2 rfl

/-- These bytes, in a row of the call's own with spare zero cells. -/
abbrev SpB (w : World) (base : Nat) (v : Value) (l : List Nat) : Prop := Spare w base 5 [.int .u8 0] v l.length (l.flatMap enB)
theorem spB_own {w : World} {base : Nat} {v : Value} {l : List Nat} (h : SpB w base v l) : OwnB w base v l := by have h1 := Spare.own h; unfold OwnB; simpa using h1
theorem bytes_one (l : List Nat) : ∀ u ∈ l.flatMap enB, u.oneCell' = true := by
  intro u hu
  rw [flat_enB] at hu
  obtain ⟨c, _, rfl⟩ := List.mem_map.1 hu
  rfl

set_option maxHeartbeats 2000000 in
set_option maxRecDepth 100000 in
theorem cloneB_any (v : Value) (l : List Nat) (w : World) (ha : BRow w v l) (hl : l.length ≤ 1000000) :
    Calls Tryz.prog 175 #[v] w fun e w' => ∃ v', e = .returned v' ∧ SpB w' w.heap.size v' l ∧ Below w.heap.size w w' := by
  have q22 : ∀ (w : World) (a : Option Addr) (n c n' c' : Nat), (binOp .eql 110 (.slice a n c) (.slice none n' c')).run Tryz.prog w = .ok (.bool a.isNone) w := fun w a n c n' c' => Lib.run_eql_slice_nil w _ _ a n c n' c' Tryz.underlying110
  obtain ⟨i0, hi, hz0, hz1, hz2⟩ := info_parts_B
  have HI := Lib.hid (And.intro hi (And.intro hz0 (And.intro hz1 hz2)))
  clear hi hz0 hz1 hz2
  obtain ⟨ao, ac, rfl, -, -⟩ := Lst.form ha
  cases ao with
  | none =>
    have h0 : l = [] := by
      cases l with
      | nil => rfl
      | cons x l => obtain ⟨b, off, e, _⟩ := Lst.get ha (show 0 < (x :: l).length by simp); cases e
    subst h0
    clear ha
    go_enter Tryz.func175, Tryz.ntmps175
    go_wp2_with fail
    go_ret
    exact ⟨_, rfl, Spare.nil _ _ _ _, Below.refl _ _⟩
  | some a =>
    have HN := Lib.hid (Mut.lst_src enB_len (by decide) (ha.alloc (.cells #[] 5)))
    obtain ⟨n, hn⟩ : ∃ n, n = l.length := ⟨_, rfl⟩
    rw [← hn] at HN ha hl ⊢
    have HLN := Lib.hid hn
    have HSP := Lib.hid (Mut.spare_lit w w.heap.size 5 [.int .u8 0] (by decide) (Nat.le_refl _))
    clear ha hn
    go_enter Tryz.func175, Tryz.ntmps175
    go_wp2_with (at_builtin; refine wpList_append_spareAny rfl _ _ 110 rfl w.heap.size 5 i0 (.int .u8 0) [.int .u8 0] 1 Tryz.underlying110 HI.out.1 HI.out.2.1 rfl HI.out.2.2.1 HI.out.2.2.2 (by decide) (.slice (some ⟨w.heap.size, 0, none⟩) 0 0) 0 [] rfl HSP.out (some a) n ac (l.flatMap enB) rfl ?qc1 ?qc2 ?qc3 ?qc4 ?qc5 ?qc6 ?_)
    case qc1 => rw [flat_enB, List.length_map, ← HLN.out]; exact (Nat.mul_one _).symm
    case qc2 => exact HN.out
    case qc3 => exact bytes_one l
    case qc4 => unfold maxLen; omega
    case qc5 => omega
    case qc6 => simp
    intro v' w1 hown hgrow _ _
    have HE := Lib.hid (show SpB w1 w.heap.size v' l ∧ Below w.heap.size w w1 from ⟨by unfold SpB; rw [← HLN.out]; simpa using hown, ((Below.refl _ w).alloc (Nat.le_refl _) _).grown hgrow (by simp) (by intro k hk; simp [Value.ownBlock] at hk; omega)⟩)
    clear hown hgrow
    go_wp2_with fail
    go_ret
    exact ⟨_, rfl, HE.out.1, HE.out.2⟩
end Go.Proofs.YtmjelcjdfamikaaGreatDoor.Mrk
