/- The walks of the sum of bytes (layer 24): merkle.sum, the document's 'on'. -/
import Derived.Test.YtmjelcjdfamikaaGreatDoorMrkPlain
import Derived.Test.YtmjelcjdfamikaaGreatDoorLstMore
import Derived.Laws.BitsAllLaws
import Derived.Laws.Bits64
import Derived.Laws.Bits128
set_option linter.unusedSimpArgs false
set_option linter.unusedVariables false
namespace Go.Proofs.YtmjelcjdfamikaaGreatDoor.Mrk
open Go.RowKit

abbrev enB (n : Nat) : List Value := [.int .u8 n]
theorem enB_len (n : Nat) : (enB n).length = 1 := rfl
abbrev BRow (w : World) (v : Value) (l : List Nat) : Prop := Lst 1 enB w v l
theorem info_B : (Tryz.prog.info? 5).map (fun i => (i.zero, i.size, i.bytes)) = some (some (.int .u8 0), 1, 1) := by kernel_rfl
theorem flat_enB (l : List Nat) : l.flatMap enB = l.map (fun c : Nat => Value.int .u8 c) := by induction l <;> simp_all
theorem byte_at {w : World} {ao : Option Addr} {n cap : Nat} {l : List Nat} {k : Nat} {x : Nat} (h : BRow w (.slice ao n cap) l) (hk : l[k]? = some x) :
    ∃ b off, ao = some ⟨b, off, none⟩ ∧ b < w.heap.size ∧ w.cell? ⟨b, off + k, none⟩ = some (.int .u8 x) := by
  obtain ⟨hlt, he⟩ := List.getElem?_eq_some_iff.1 hk
  obtain ⟨b, off, ha, hb, hc⟩ := Lst.get h hlt
  have := hc 0 (by decide)
  rw [he, Nat.mul_one] at this
  exact ⟨b, off, ha, hb, this⟩

theorem u64_nat (n : Nat) (h : n < 18446744073709551616) : IntKind.u64.wrap (n : Int) = n := by rw [IntKind.wrap_u64]; omega
theorem step_eq (x c : Nat) (hx : x < 18446744073709551616) (hc : c < 256) : IntKind.u64.wrap (bits .xor .u64 (x : Int) (c : Int) * 1099511628211) = ((on1 x c : Nat) : Int) := by
  rw [u64_xor_nat x c hx (by omega), IntKind.wrap_u64]
  unfold on1
  omega
theorem fold_eq (y : Nat) (hy : y < 18446744073709551616) : bits .xor .u64 (y : Int) ((y : Int) / 536870912) = ((y ^^^ (y / 536870912) : Nat) : Int) := by
  rw [show ((y : Int) / 536870912) = ((y / 536870912 : Nat) : Int) by omega, u64_xor_nat y _ hy (by omega)]

end Go.Proofs.YtmjelcjdfamikaaGreatDoor.Mrk
