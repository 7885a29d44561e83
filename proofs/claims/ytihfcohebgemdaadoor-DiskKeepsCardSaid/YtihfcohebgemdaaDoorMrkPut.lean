/- The walks of a number's bytes: wire.Put onto nothing, the document's Put (layer 3). -/
import Derived.Test.YtihfcohebgemdaaDoorMrkSum
set_option linter.unusedSimpArgs false
set_option linter.unusedVariables false
namespace Go.Proofs.YtihfcohebgemdaaDoor.Mrk
open Go.RowKit

/-- A row of bytes comes back, which the call has made. -/
def BPost (w : World) (l : List Nat) (e : Ending) (w' : World) : Prop := ∃ v, e = .returned v ∧ w'.ownsRow w.heap.size 5 1 v l.length (l.flatMap enB) ∧ Below w.heap.size w w'

theorem info_parts_B : ∃ i : TypeInfo, Tryd.prog.info? 5 = some i ∧ i.zero = some (.int .u8 0) ∧ i.size = 1 ∧ i.bytes = 1 := by
  have h := info_B
  cases hq : Tryd.prog.info? 5 with
  | none => simp [hq] at h
  | some i => simp [hq] at h; exact ⟨i, rfl, h.1, h.2.1, h.2.2⟩
theorem u8_nat (c : Nat) (h : c < 256) : IntKind.u8.wrap (c : Int) = c := by rw [IntKind.wrap_u8']; omega
theorem or128 : ∀ c : Nat, c < 128 → c ||| 128 = c + 128 := by decide

end Go.Proofs.YtihfcohebgemdaaDoor.Mrk
