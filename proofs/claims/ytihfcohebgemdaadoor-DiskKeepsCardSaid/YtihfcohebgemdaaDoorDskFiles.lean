/- Layer 11 (disk): the files of a disk that has at most one; New, Used. -/
import Derived.Test.YtihfcohebgemdaaDoorDskBase
set_option linter.unusedSimpArgs false
set_option linter.unusedVariables false
namespace Go.Proofs.YtihfcohebgemdaaDoor.Dsk
open Go.RowKit Go.Maps

def mkP : Option Nat → Value
  | none => .pointer none
  | some k => .pointer (some ⟨k, 0, none⟩)
/-- How a pointer to a file reads. -/
def ptrR (v : Value) : Option (DataW Unit × List MemPlace) :=
  match v with
  | .pointer none => some (.nil, [])
  | .pointer (some ⟨k, 0, none⟩) => some (.lit (.int .u64 k), [])
  | _ => none
theorem ptrR_inv {v : Value} {y : DataW Unit × List MemPlace} (h : ptrR v = some y) : ∃ c, v = mkP c := by
  unfold ptrR at h
  split at h
  · exact ⟨none, rfl⟩
  · exact ⟨some _, rfl⟩
  · cases h
theorem ptrR_some {v : Value} {k : Nat} {ps : List MemPlace} (h : ptrR v = some (.lit (.int .u64 k), ps)) : v = .pointer (some ⟨k, 0, none⟩) := by
  obtain ⟨c, rfl⟩ := ptrR_inv h
  cases c with
  | none => simp [mkP, ptrR] at h
  | some j => simp [mkP, ptrR] at h; obtain ⟨h1, -⟩ := h; have : j = k := by omega
              subst this; rfl
theorem law : Keyed Tryd.prog 9 := string_keyed Tryd.underlying9
theorem key {s : ByteArray} (h : s.size ≤ maxLen) : keyOf Tryd.prog 9 (.string s) = some (.string s.data.toList) := by
  rw [keyOf_string Tryd.underlying9]
  simp [mapKey, Tryd.underlying9, h]
/-- The files: none, or one. -/
def entr : Option (ByteArray × Nat) → List (Lit × DataW Unit)
  | none => []
  | some (s, F) => [(.string s.data.toList, .lit (.int .u64 F))]
def Files (w : World) (m : Nat) (f : Option (ByteArray × Nat)) : Prop := w.ownsMap Tryd.prog 9 ptrR m (entr f).length (.map (entr f))
theorem Files.kept {w w' : World} {m : Nat} {f : Option (ByteArray × Nat)} {row : Option Nat} (h : Files w m f) (hg : w.grownBy w' row) (hne : some m ≠ row) : Files w' m f := World.ownsMap.kept h hg hne
theorem Files.lt {w : World} {m : Nat} {f : Option (ByteArray × Nat)} (h : Files w m f) : m < w.heap.size := World.ownsMap.lt h
theorem has_one (s : ByteArray) (F : Nat) : Maps.has (.map (entr (some (s, F)))) (.string s.data.toList) = true := by simp [entr, Maps.has_eq, Lit.sameKey]
theorem at_one (s : ByteArray) (F : Nat) (z : DataW Unit) : (DataW.map (entr (some (s, F)))).atKey (.string s.data.toList) z = .lit (.int .u64 F) := by simp [entr, DataW.atKey, Lit.sameKey]
/-- A file lies in a block. -/
def FAt (w : World) (F : Nat) (bv : Value) (k : Int) : Prop := w.heap[F]? = some (.cells #[bv, .int .i64 k] 45 (0, 0))

def NewP (room : Int) (w : World) (e : Ending) (w' : World) : Prop := e = .returned (.pointer (some ⟨w.heap.size + 1, 0, none⟩)) ∧ DkAt w' (w.heap.size + 1) w.heap.size room ⟨false, false, 0, 0⟩ ∧ Files w' w.heap.size none ∧ Below w.heap.size w w' ∧ w'.heap.size = w.heap.size + 2
theorem new_any (room : Int) (w : World) (h0 : 0 ≤ room) (h1 : room ≤ 1000000) : Calls Tryd.prog 4 #[.int .i64 room] w (NewP room w) := by
  have hmm := @run_makeMap Tryd.prog
  go_enter Tryd.func4, Tryd.ntmps4
  go_wp2_with fail
  go_ret
  have hm : max room 0 = room := by omega
  have hF : Files (w.alloc (.map #[] 0)) w.heap.size none := World.ownsMap_made _ _ _ _
  refine ⟨by simp, ?_, hF.kept (row := none) (World.grownBy_alloc _ _ none) (by simp), ((Below.refl _ _).alloc (Nat.le_refl _) _).alloc (by simp) _, by simp⟩
  unfold DkAt
  rw [hm]
  have := heap_alloc_new (w.alloc (.map #[] 0)) (.cells #[.map (some w.heap.size), .int .i64 room, .bool false, .bool false, .int .i64 0, .int .i64 0] 39)
  simpa using this
end Go.Proofs.YtihfcohebgemdaaDoor.Dsk
