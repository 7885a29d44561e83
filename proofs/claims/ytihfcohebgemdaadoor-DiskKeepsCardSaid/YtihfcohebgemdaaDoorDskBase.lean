/- Layer 11 (disk): what a disk with at most one file is in memory; goes, Arm, Crash. -/
import Derived.Test.YtihfcohebgemdaaDoorBase
import Derived.Test.YtihfcohebgemdaaDoorRange
import Derived.Laws.Rows
import Derived.Maps.OwnOps
import Derived.Maps.OwnSet
import Derived.Maps.RangeWalk
set_option linter.unusedSimpArgs false
set_option linter.unusedVariables false
namespace Go.Proofs.YtihfcohebgemdaaDoor.Dsk
open Go.RowKit Go.Maps

/-- What a disk says besides its files. -/
structure St where
  off : Bool
  armed : Bool
  left : Int
  ops : Int
/-- A disk lies in a block. -/
def DkAt (w : World) (d m : Nat) (room : Int) (s : St) : Prop := w.heap[d]? = some (.cells #[.map (some m), .int .i64 room, .bool s.off, .bool s.armed, .int .i64 s.left, .int .i64 s.ops] 39 (0, 0))
theorem DkAt.lt {w : World} {d m : Nat} {room : Int} {s : St} (h : DkAt w d m room s) : d < w.heap.size := (Array.getElem?_eq_some_iff.1 h).1
/-- An operation, as the power has it. -/
def goesS (s : St) : Int × St :=
  if s.off then (110, s) else if s.armed = false then (0, { s with ops := s.ops + 1 })
  else if 0 < s.left then (0, { s with left := s.left - 1, ops := s.ops + 1 }) else (110, ⟨true, false, s.left, s.ops + 1⟩)

set_option maxHeartbeats 1000000 in
theorem goes_any (d m : Nat) (room : Int) (s : St) (w : World) (h : DkAt w d m room s) (ho : 0 ≤ s.ops ∧ s.ops ≤ 1000) (hl : 0 ≤ s.left ∧ s.left ≤ 9223372036854775807) :
    Calls Tryd.prog 16 #[.pointer (some ⟨d, 0, none⟩)] w fun e w' => e = .returned (.int .i64 (goesS s).1) ∧ DkAt w' d m room (goesS s).2 ∧ w.grownBy w' (some d) := by
  obtain ⟨off, armed, left, ops⟩ := s
  simp only [] at ho hl
  unfold DkAt at h
  simp only [] at h
  have c2 : w.cell? ⟨d, 2, none⟩ = some (.bool off) := by rw [cell_of_row w d 2 _ _ (0, 0) h]; rfl
  have c3 : w.cell? ⟨d, 3, none⟩ = some (.bool armed) := by rw [cell_of_row w d 3 _ _ (0, 0) h]; rfl
  have c4 : w.cell? ⟨d, 4, none⟩ = some (.int .i64 left) := by rw [cell_of_row w d 4 _ _ (0, 0) h]; rfl
  have c5 : w.cell? ⟨d, 5, none⟩ = some (.int .i64 ops) := by rw [cell_of_row w d 5 _ _ (0, 0) h]; rfl
  have f2 := frozen_of_row w d 2 _ _ h
  have f3 := frozen_of_row w d 3 _ _ h
  have f4 := frozen_of_row w d 4 _ _ h
  have f5 := frozen_of_row w d 5 _ _ h
  have H := Lib.hid h
  clear h
  cases off
  case true =>
    go_enter Tryd.func16, Tryd.ntmps16
    go_wp2_with fail
    go_ret
    exact ⟨by simp [goesS], H.out, World.grownBy.refl _ _⟩
  case false =>
  cases armed
  case false =>
    go_enter Tryd.func16, Tryd.ntmps16
    go_wp2_with fail
    go_ret
    refine ⟨by simp [goesS], ?_, grown_setCell (World.grownBy.refl _ _) (Or.inl rfl) _⟩
    exact heap_setCell_same w d 5 _ _ _ H.out
  case true =>
  by_cases hp : 0 < left
  · have hgt : decide (left > 0) = true := by simpa using hp
    go_enter Tryd.func16, Tryd.ntmps16
    go_wp2_with fail
    go_ret
    refine ⟨by simp [goesS, hp], ?_, ?_⟩
    · rw [show (goesS ⟨false, true, left, ops⟩).2 = ⟨false, true, left - 1, ops + 1⟩ from by simp [goesS, hp]]
      exact heap_setCell_same _ d 4 _ _ _ (heap_setCell_same w d 5 _ _ _ H.out)
    · iterate 2 refine grown_setCell ?_ (Or.inl rfl) _
      exact World.grownBy.refl _ _
  · have hgt : decide (left > 0) = false := by simpa using hp
    have hg : goesS ⟨false, true, left, ops⟩ = (110, ⟨true, false, left, ops + 1⟩) := by
      unfold goesS
      rw [if_neg (show ¬ (false = true) by decide), if_neg (show ¬ (true = false) by decide), if_neg hp]
    rw [hg]
    have HG := Lib.hid hg
    clear hg
    go_enter Tryd.func16, Tryd.ntmps16
    go_wp2_with fail
    go_ret
    refine ⟨rfl, ?_, ?_⟩
    · exact heap_setCell_same _ d 3 _ _ _ (heap_setCell_same _ d 2 _ _ _ (heap_setCell_same w d 5 _ _ _ H.out))
    · iterate 3 refine grown_setCell ?_ (Or.inl rfl) _
      exact World.grownBy.refl _ _

theorem arm_any (d m : Nat) (room n : Int) (s : St) (w : World) (h : DkAt w d m room s) (hn : -9223372036854775808 ≤ n ∧ n ≤ 9223372036854775807) :
    Calls Tryd.prog 7 #[.pointer (some ⟨d, 0, none⟩), .int .i64 n] w fun e w' => e = .returned (.tuple #[]) ∧ DkAt w' d m room { s with armed := true, left := max n 0 } ∧ w.grownBy w' (some d) := by
  obtain ⟨off, armed, left, ops⟩ := s
  unfold DkAt at h
  simp only [] at h
  have c2 : w.cell? ⟨d, 3, none⟩ = some (.bool armed) := by rw [cell_of_row w d 3 _ _ (0, 0) h]; rfl
  have c4 : w.cell? ⟨d, 4, none⟩ = some (.int .i64 left) := by rw [cell_of_row w d 4 _ _ (0, 0) h]; rfl
  have f3 := frozen_of_row w d 3 _ _ h
  have f4 := frozen_of_row w d 4 _ _ h
  have H := Lib.hid h
  clear h
  go_enter Tryd.func7, Tryd.ntmps7
  go_wp2_with fail
  go_end0
  refine ⟨rfl, ?_, ?_⟩
  · exact heap_setCell_same _ d 4 _ _ _ (heap_setCell_same w d 3 _ _ _ H.out)
  · iterate 2 refine grown_setCell ?_ (Or.inl rfl) _
    exact World.grownBy.refl _ _
theorem crash_any (d m : Nat) (room : Int) (s : St) (w : World) (h : DkAt w d m room s) :
    Calls Tryd.prog 8 #[.pointer (some ⟨d, 0, none⟩)] w fun e w' => e = .returned (.tuple #[]) ∧ DkAt w' d m room { s with off := true, armed := false } ∧ w.grownBy w' (some d) := by
  obtain ⟨off, armed, left, ops⟩ := s
  unfold DkAt at h
  simp only [] at h
  have c2 : w.cell? ⟨d, 2, none⟩ = some (.bool off) := by rw [cell_of_row w d 2 _ _ (0, 0) h]; rfl
  have c3 : w.cell? ⟨d, 3, none⟩ = some (.bool armed) := by rw [cell_of_row w d 3 _ _ (0, 0) h]; rfl
  have f2 := frozen_of_row w d 2 _ _ h
  have f3 := frozen_of_row w d 3 _ _ h
  have H := Lib.hid h
  clear h
  go_enter Tryd.func8, Tryd.ntmps8
  go_wp2_with fail
  go_end0
  refine ⟨rfl, ?_, ?_⟩
  · exact heap_setCell_same _ d 3 _ _ _ (heap_setCell_same w d 2 _ _ _ H.out)
  · iterate 2 refine grown_setCell ?_ (Or.inl rfl) _
    exact World.grownBy.refl _ _
end Go.Proofs.YtihfcohebgemdaaDoor.Dsk
