/- Layer 11 (disk): what a disk with at most one file is in memory; goes, Arm, Crash. · Layer 11 (disk): the files of a disk that has at most one; New, Used. · Layer 11 (disk): the shelf laid at the names of files. · Layer 11 (disk): how many bytes there are, of one file at most. -/
import Derived.Test.YtmjelcjdfamikaaGreatDoorBase
import Derived.Test.YtmjelcjdfamikaaGreatDoorRange
import Derived.Laws.Rows
import Derived.Maps.OwnOps
import Derived.Maps.OwnSet
import Derived.Maps.RangeWalk
import Derived.Shelf.SlIter.Nil
import Derived.Shelf.SlIter.Stops
import Derived.Shelf.SortM.Plain
import Derived.Shelf.SortM.SortNone
import Derived.Ground.GgzProg
import Derived.Ground.SlgmProg
import Derived.Test.YtmjelcjdfamikaaGreatDoorProg
set_option linter.unusedSimpArgs false
set_option linter.unusedVariables false
namespace Go.Proofs.YtmjelcjdfamikaaGreatDoor.Dsk
open Go.RowKit Go.Maps

/-- What a disk says besides its files. -/
structure St where
  off : Bool
  armed : Bool
  left : Int
  ops : Int
/-- A disk lies in a block. -/
def DkAt (w : World) (d m : Nat) (room : Int) (s : St) : Prop := w.heap[d]? = some (.cells #[.map (some m), .int .i64 room, .bool s.off, .bool s.armed, .int .i64 s.left, .int .i64 s.ops] 92 (0, 0))
theorem DkAt.lt {w : World} {d m : Nat} {room : Int} {s : St} (h : DkAt w d m room s) : d < w.heap.size := (Array.getElem?_eq_some_iff.1 h).1
/-- An operation, as the power has it. -/
def goesS (s : St) : Int × St :=
  if s.off then (110, s) else if s.armed = false then (0, { s with ops := s.ops + 1 })
  else if 0 < s.left then (0, { s with left := s.left - 1, ops := s.ops + 1 }) else (110, ⟨true, false, s.left, s.ops + 1⟩)

set_option maxHeartbeats 1000000 in
theorem goes_any (d m : Nat) (room : Int) (s : St) (w : World) (h : DkAt w d m room s) (ho : 0 ≤ s.ops ∧ s.ops ≤ 1000) (hl : 0 ≤ s.left ∧ s.left ≤ 9223372036854775807) :
    Calls Tryz.prog 185 #[.pointer (some ⟨d, 0, none⟩)] w fun e w' => e = .returned (.int .i64 (goesS s).1) ∧ DkAt w' d m room (goesS s).2 ∧ w.grownBy w' (some d) := by
  obtain ⟨off, armed, left, ops⟩ := s
  simp only [] at ho hl
  unfold DkAt at h
  simp only [] at h
  have c2 : w.cell? ⟨d, 2, none⟩ = some (.bool off) := by rw [cell_of_row w d 2 _ _ (0, 0) h]; rfl
  have c3 : w.cell? ⟨d, 3, none⟩ = some (.bool armed) := by rw [cell_of_row w d 3 _ _ (0, 0) h]; rfl
  have c4 : w.cell? ⟨d, 4, none⟩ = some (.int .i64 left) := by rw [cell_of_row w d 4 _ _ (0, 0) h]; rfl
  have c5 : w.cell? ⟨d, 5, none⟩ = some (.int .i64 ops) := by rw [cell_of_row w d 5 _ _ (0, 0) h]; rfl
  have f2 := frozen_of_row w d 2 _ _ h
  have f3 := frozen_of_row w d 3 _ _ h
  have f4 := frozen_of_row w d 4 _ _ h
  have f5 := frozen_of_row w d 5 _ _ h
  have H := Lib.hid h
  clear h
  cases off
  case true =>
    go_enter Tryz.func185, Tryz.ntmps185
    go_wp2_with fail
    go_ret
    exact ⟨by simp [goesS], H.out, World.grownBy.refl _ _⟩
  case false =>
  cases armed
  case false =>
    go_enter Tryz.func185, Tryz.ntmps185
    go_wp2_with fail
    go_ret
    refine ⟨by simp [goesS], ?_, grown_setCell (World.grownBy.refl _ _) (Or.inl rfl) _⟩
    exact heap_setCell_same w d 5 _ _ _ H.out
  case true =>
  by_cases hp : 0 < left
  · have hgt : decide (left > 0) = true := by simpa using hp
    go_enter Tryz.func185, Tryz.ntmps185
    go_wp2_with fail
    go_ret
    refine ⟨by simp [goesS, hp], ?_, ?_⟩
    · rw [show (goesS ⟨false, true, left, ops⟩).2 = ⟨false, true, left - 1, ops + 1⟩ from by simp [goesS, hp]]
      exact heap_setCell_same _ d 4 _ _ _ (heap_setCell_same w d 5 _ _ _ H.out)
    · iterate 2 refine grown_setCell ?_ (Or.inl rfl) _
      exact World.grownBy.refl _ _
  · have hgt : decide (left > 0) = false := by simpa using hp
    have hg : goesS ⟨false, true, left, ops⟩ = (110, ⟨true, false, left, ops + 1⟩) := by
      unfold goesS
      rw [if_neg (show ¬ (false = true) by decide), if_neg (show ¬ (true = false) by decide), if_neg hp]
    rw [hg]
    have HG := Lib.hid hg
    clear hg
    go_enter Tryz.func185, Tryz.ntmps185
    go_wp2_with fail
    go_ret
    refine ⟨rfl, ?_, ?_⟩
    · exact heap_setCell_same _ d 3 _ _ _ (heap_setCell_same _ d 2 _ _ _ (heap_setCell_same w d 5 _ _ _ H.out))
    · iterate 3 refine grown_setCell ?_ (Or.inl rfl) _
      exact World.grownBy.refl _ _

end Go.Proofs.YtmjelcjdfamikaaGreatDoor.Dsk

namespace Go.Proofs.YtmjelcjdfamikaaGreatDoor.Dsk
open Go.RowKit Go.Maps

def mkP : Option Nat → Value
  | none => .pointer none
  | some k => .pointer (some ⟨k, 0, none⟩)
/-- How a pointer to a file reads. -/
def ptrR (v : Value) : Option (DataW Unit × List MemPlace) :=
  match v with
  | .pointer none => some (.nil, [])
  | .pointer (some ⟨k, 0, none⟩) => some (.lit (.int .u64 k), [])
  | _ => none
theorem ptrR_inv {v : Value} {y : DataW Unit × List MemPlace} (h : ptrR v = some y) : ∃ c, v = mkP c := by
  unfold ptrR at h
  split at h
  · exact ⟨none, rfl⟩
  · exact ⟨some _, rfl⟩
  · cases h
theorem ptrR_some {v : Value} {k : Nat} {ps : List MemPlace} (h : ptrR v = some (.lit (.int .u64 k), ps)) : v = .pointer (some ⟨k, 0, none⟩) := by
  obtain ⟨c, rfl⟩ := ptrR_inv h
  cases c with
  | none => simp [mkP, ptrR] at h
  | some j => simp [mkP, ptrR] at h; obtain ⟨h1, -⟩ := h; have : j = k := by omega
              subst this; rfl
theorem law : Keyed Tryz.prog 9 := string_keyed Tryz.underlying9
theorem key {s : ByteArray} (h : s.size ≤ maxLen) : keyOf Tryz.prog 9 (.string s) = some (.string s.data.toList) := by
  rw [keyOf_string Tryz.underlying9]
  simp [mapKey, Tryz.underlying9, h]
/-- The files: none, or one. -/
def entr : Option (ByteArray × Nat) → List (Lit × DataW Unit)
  | none => []
  | some (s, F) => [(.string s.data.toList, .lit (.int .u64 F))]
def Files (w : World) (m : Nat) (f : Option (ByteArray × Nat)) : Prop := w.ownsMap Tryz.prog 9 ptrR m (entr f).length (.map (entr f))
theorem Files.kept {w w' : World} {m : Nat} {f : Option (ByteArray × Nat)} {row : Option Nat} (h : Files w m f) (hg : w.grownBy w' row) (hne : some m ≠ row) : Files w' m f := World.ownsMap.kept h hg hne
theorem Files.lt {w : World} {m : Nat} {f : Option (ByteArray × Nat)} (h : Files w m f) : m < w.heap.size := World.ownsMap.lt h
theorem has_one (s : ByteArray) (F : Nat) : Maps.has (.map (entr (some (s, F)))) (.string s.data.toList) = true := by simp [entr, Maps.has_eq, Lit.sameKey]
theorem at_one (s : ByteArray) (F : Nat) (z : DataW Unit) : (DataW.map (entr (some (s, F)))).atKey (.string s.data.toList) z = .lit (.int .u64 F) := by simp [entr, DataW.atKey, Lit.sameKey]
/-- A file lies in a block. -/
def FAt (w : World) (F : Nat) (bv : Value) (k : Int) : Prop := w.heap[F]? = some (.cells #[bv, .int .i64 k] 202 (0, 0))

def NewP (room : Int) (w : World) (e : Ending) (w' : World) : Prop := e = .returned (.pointer (some ⟨w.heap.size + 1, 0, none⟩)) ∧ DkAt w' (w.heap.size + 1) w.heap.size room ⟨false, false, 0, 0⟩ ∧ Files w' w.heap.size none ∧ Below w.heap.size w w' ∧ w'.heap.size = w.heap.size + 2
theorem new_max (n : Int) (w : World) (h0 : -9223372036854775808 ≤ n) (h1 : n ≤ 9223372036854775807) : Calls Tryz.prog 41 #[.int .i64 n] w (NewP (max n 0) w) := by
  have hmm := @run_makeMap Tryz.prog
  go_enter Tryz.func41, Tryz.ntmps41
  go_wp2_with fail
  go_ret
  have hF : Files (w.alloc (.map #[] 0)) w.heap.size none := World.ownsMap_made _ _ _ _
  refine ⟨by simp, ?_, hF.kept (row := none) (World.grownBy_alloc _ _ none) (by simp), ((Below.refl _ _).alloc (Nat.le_refl _) _).alloc (by simp) _, by simp⟩
  unfold DkAt
  have := heap_alloc_new (w.alloc (.map #[] 0)) (.cells #[.map (some w.heap.size), .int .i64 (max n 0), .bool false, .bool false, .int .i64 0, .int .i64 0] 92)
  simpa using this
theorem new_any (room : Int) (w : World) (h0 : 0 ≤ room) (h1 : room ≤ 1048576) : Calls Tryz.prog 41 #[.int .i64 room] w (NewP room w) := by
  have h := new_max room w (by omega) (by omega)
  rwa [show max room 0 = room by omega] at h
end Go.Proofs.YtmjelcjdfamikaaGreatDoor.Dsk

namespace Go.Proofs.YtmjelcjdfamikaaGreatDoor.Dsk
open Go.RowKit Go.Maps Go.Sort Go.Shelf
def layKeys_ren : Go.Shelf.Ren := ⟨fun | 7 => 211 | 10 => 232 | n => n, fun | 23 => 90 | 26 => 9 | 3 => 198 | 28 => 191 | 0 => 0 | 27 => 190 | 33 => 43 | 4 => 4 | n => n, fun | n => n⟩
theorem layKeys : Go.Proofs.SlLaysZ.n7 Tryz.prog layKeys_ren := {
  mixed := by kernel_rfl
  f7 := ⟨Tryz.f211.name, by decide, Tryz.func211.trans (congrArg some (by kernel_rfl))⟩
  f10 := ⟨Tryz.f232.name, by decide, Tryz.func232.trans (congrArg some (by kernel_rfl))⟩
  t0 := Tryz.underlying0
  a0 := Tryz.isAgg0
  z0 := Tryz.sizeOf0
  v0 := Tryz.zeroValue0
  t4 := Tryz.underlying4
  a4 := Tryz.isAgg4
  z4 := Tryz.sizeOf4
  v4 := Tryz.zeroValue4
  t23 := Tryz.underlying90
  a23 := Tryz.isAgg90
  z23 := Tryz.sizeOf90
  v23 := Tryz.zeroValue90
  t26 := Tryz.underlying9
  a26 := Tryz.isAgg9
  z26 := Tryz.sizeOf9
  v26 := Tryz.zeroValue9
  t27 := Tryz.underlying190
  a27 := Tryz.isAgg190
  z27 := Tryz.sizeOf190
  v27 := Tryz.zeroValue190
  t28 := Tryz.underlying191
  a28 := Tryz.isAgg191
  z28 := Tryz.sizeOf191
  v28 := Tryz.zeroValue191
  t33 := Tryz.underlying43
  a33 := Tryz.isAgg43
  z33 := Tryz.sizeOf43
  v33 := Tryz.zeroValue43 }
def laySorted_ren : Go.Shelf.Ren := ⟨fun | 6 => 210 | 8 => 169 | 9 => 231 | 11 => 208 | 13 => 103 | 12 => 240 | 23 => 152 | 24 => 153 | 14 => 242 | 15 => 243 | 16 => 244 | 17 => 245 | 18 => 246 | 19 => 247 | 20 => 248 | 21 => 249 | 22 => 250 | 25 => 251 | 26 => 191 | 27 => 192 | 28 => 252 | 29 => 253 | 30 => 142 | 31 => 254 | n => n, fun | 26 => 9 | 28 => 191 | 24 => 187 | 0 => 0 | 3 => 3 | 37 => 119 | 48 => 157 | 50 => 171 | 4 => 4 | 40 => 164 | 39 => 163 | 45 => 79 | 5 => 5 | 9 => 9 | 51 => 223 | 55 => 227 | 57 => 263 | 58 => 264 | 33 => 43 | n => n, fun | n => n⟩
theorem laySorted : Go.Proofs.SlLaysZ.n6 Tryz.prog laySorted_ren := {
  mixed := by kernel_rfl
  f6 := ⟨Tryz.f210.name, by decide, Tryz.func210.trans (congrArg some (by kernel_rfl))⟩
  f8 := ⟨Tryz.f169.name, by decide, Tryz.func169.trans (congrArg some (by kernel_rfl))⟩
  f11 := ⟨Tryz.f208.name, by decide, Tryz.func208.trans (congrArg some (by kernel_rfl))⟩
  t0 := Tryz.underlying0
  a0 := Tryz.isAgg0
  z0 := Tryz.sizeOf0
  v0 := Tryz.zeroValue0
  t24 := Tryz.underlying187
  a24 := Tryz.isAgg187
  z24 := Tryz.sizeOf187
  v24 := Tryz.zeroValue187
  t26 := Tryz.underlying9
  a26 := Tryz.isAgg9
  z26 := Tryz.sizeOf9
  v26 := Tryz.zeroValue9
  t28 := Tryz.underlying191
  a28 := Tryz.isAgg191
  z28 := Tryz.sizeOf191
  v28 := Tryz.zeroValue191
  i26 := by kernel_rfl }
def layCollect_ren : Go.Shelf.Ren := ⟨fun | 8 => 169 | 11 => 208 | n => n, fun | 26 => 9 | 28 => 191 | 24 => 187 | 0 => 0 | 33 => 43 | 4 => 4 | n => n, fun | n => n⟩
theorem layCollect : Go.Proofs.SlLaysZ.n8 Tryz.prog layCollect_ren := {
  mixed := by kernel_rfl
  f8 := ⟨Tryz.f169.name, by decide, Tryz.func169.trans (congrArg some (by kernel_rfl))⟩
  f11 := ⟨Tryz.f208.name, by decide, Tryz.func208.trans (congrArg some (by kernel_rfl))⟩
  t0 := Tryz.underlying0
  a0 := Tryz.isAgg0
  z0 := Tryz.sizeOf0
  v0 := Tryz.zeroValue0
  t24 := Tryz.underlying187
  a24 := Tryz.isAgg187
  z24 := Tryz.sizeOf187
  v24 := Tryz.zeroValue187
  t26 := Tryz.underlying9
  a26 := Tryz.isAgg9
  z26 := Tryz.sizeOf9
  v26 := Tryz.zeroValue9
  t28 := Tryz.underlying191
  a28 := Tryz.isAgg191
  z28 := Tryz.sizeOf191
  v28 := Tryz.zeroValue191
  i26 := by kernel_rfl }
def laySort_ren : Go.Shelf.Ren := ⟨fun | 6 => 231 | 8 => 103 | 9 => 240 | 19 => 152 | 20 => 153 | 21 => 242 | 22 => 243 | 23 => 244 | 24 => 245 | 25 => 246 | 26 => 247 | 27 => 248 | 28 => 249 | 29 => 250 | 36 => 251 | 31 => 191 | 32 => 192 | 37 => 252 | 38 => 253 | 39 => 142 | 41 => 254 | n => n, fun | 27 => 187 | 29 => 9 | 3 => 3 | 32 => 119 | 26 => 187 | 0 => 0 | 44 => 157 | 46 => 171 | 4 => 4 | 36 => 164 | 35 => 163 | 41 => 79 | 5 => 5 | 9 => 9 | 53 => 223 | 57 => 227 | 63 => 263 | 64 => 264 | n => n, fun | n => n⟩
theorem laySort : Go.Proofs.SlLaysM.n6 Tryz.prog laySort_ren := {
  mixed := by kernel_rfl
  f6 := ⟨Tryz.f231.name, by decide, Tryz.func231.trans (congrArg some (by kernel_rfl))⟩
  f8 := Tryz.func103.trans (congrArg some (by kernel_rfl))
  f9 := ⟨Tryz.f240.name, by decide, Tryz.func240.trans (congrArg some (by kernel_rfl))⟩
  f19 := Tryz.func152.trans (congrArg some (by kernel_rfl))
  f20 := Tryz.func153.trans (congrArg some (by kernel_rfl))
  f21 := ⟨Tryz.f242.name, by decide, Tryz.func242.trans (congrArg some (by kernel_rfl))⟩
  f22 := ⟨Tryz.f243.name, by decide, Tryz.func243.trans (congrArg some (by kernel_rfl))⟩
  f23 := ⟨Tryz.f244.name, by decide, Tryz.func244.trans (congrArg some (by kernel_rfl))⟩
  f24 := ⟨Tryz.f245.name, by decide, Tryz.func245.trans (congrArg some (by kernel_rfl))⟩
  f25 := ⟨Tryz.f246.name, by decide, Tryz.func246.trans (congrArg some (by kernel_rfl))⟩
  f26 := ⟨Tryz.f247.name, by decide, Tryz.func247.trans (congrArg some (by kernel_rfl))⟩
  f27 := ⟨Tryz.f248.name, by decide, Tryz.func248.trans (congrArg some (by kernel_rfl))⟩
  f28 := ⟨Tryz.f249.name, by decide, Tryz.func249.trans (congrArg some (by kernel_rfl))⟩
  f29 := ⟨Tryz.f250.name, by decide, Tryz.func250.trans (congrArg some (by kernel_rfl))⟩
  f31 := Tryz.func191.trans (congrArg some (by kernel_rfl))
  f32 := Tryz.func192.trans (congrArg some (by kernel_rfl))
  f36 := ⟨Tryz.f251.name, by decide, Tryz.func251.trans (congrArg some (by kernel_rfl))⟩
  f37 := ⟨Tryz.f252.name, by decide, Tryz.func252.trans (congrArg some (by kernel_rfl))⟩
  f38 := ⟨Tryz.f253.name, by decide, Tryz.func253.trans (congrArg some (by kernel_rfl))⟩
  f39 := ⟨Tryz.f142.name, by decide, Tryz.func142.trans (congrArg some (by kernel_rfl))⟩
  f41 := ⟨Tryz.f254.name, by decide, Tryz.func254.trans (congrArg some (by kernel_rfl))⟩
  t0 := Tryz.underlying0
  a0 := Tryz.isAgg0
  z0 := Tryz.sizeOf0
  v0 := Tryz.zeroValue0
  t3 := Tryz.underlying3
  a3 := Tryz.isAgg3
  z3 := Tryz.sizeOf3
  v3 := Tryz.zeroValue3
  t4 := Tryz.underlying4
  a4 := Tryz.isAgg4
  z4 := Tryz.sizeOf4
  v4 := Tryz.zeroValue4
  t5 := Tryz.underlying5
  a5 := Tryz.isAgg5
  z5 := Tryz.sizeOf5
  v5 := Tryz.zeroValue5
  t9 := Tryz.underlying9
  a9 := Tryz.isAgg9
  z9 := Tryz.sizeOf9
  v9 := Tryz.zeroValue9
  t26 := Tryz.underlying187
  a26 := Tryz.isAgg187
  z26 := Tryz.sizeOf187
  v26 := Tryz.zeroValue187
  t27 := Tryz.underlying187
  a27 := Tryz.isAgg187
  z27 := Tryz.sizeOf187
  v27 := Tryz.zeroValue187
  t29 := Tryz.underlying9
  a29 := Tryz.isAgg9
  z29 := Tryz.sizeOf9
  v29 := Tryz.zeroValue9
  t32 := Tryz.underlying119
  a32 := Tryz.isAgg119
  z32 := Tryz.sizeOf119
  v32 := Tryz.zeroValue119
  t35 := Tryz.underlying163
  a35 := Tryz.isAgg163
  z35 := Tryz.sizeOf163
  v35 := Tryz.zeroValue163
  t36 := Tryz.underlying164
  a36 := Tryz.isAgg164
  z36 := Tryz.sizeOf164
  v36 := Tryz.zeroValue164
  t41 := Tryz.underlying79
  a41 := Tryz.isAgg79
  z41 := Tryz.sizeOf79
  v41 := Tryz.zeroValue79
  t44 := Tryz.underlying157
  a44 := Tryz.isAgg157
  z44 := Tryz.sizeOf157
  v44 := Tryz.zeroValue157
  t46 := Tryz.underlying171
  a46 := Tryz.isAgg171
  z46 := Tryz.sizeOf171
  v46 := Tryz.zeroValue171
  t53 := Tryz.underlying223
  a53 := Tryz.isAgg223
  z53 := Tryz.sizeOf223
  v53 := Tryz.zeroValue223
  t57 := Tryz.underlying227
  a57 := Tryz.isAgg227
  z57 := Tryz.sizeOf227
  v57 := Tryz.zeroValue227
  t63 := Tryz.underlying263
  a63 := Tryz.isAgg263
  z63 := Tryz.sizeOf263
  v63 := Tryz.zeroValue263
  t64 := Tryz.underlying264
  a64 := Tryz.isAgg264
  z64 := Tryz.sizeOf264
  v64 := Tryz.zeroValue264 }

end Go.Proofs.YtmjelcjdfamikaaGreatDoor.Dsk

namespace Go.Proofs.YtmjelcjdfamikaaGreatDoor.Dsk
open Go.RowKit Go.Maps Go.Sort

def UsedP (n : Nat) (w : World) (e : Ending) (w' : World) : Prop := e = .returned (.int .i64 n) ∧ Below w.heap.size w w'
theorem entr_has {f : Option (ByteArray × Nat)} {kl : Lit} (h : Maps.has (.map (entr f)) kl = true) : ∃ s F, f = some (s, F) ∧ kl = .string s.data.toList := by
  cases f with
  | none => simp [entr, Maps.has_eq] at h
  | some p =>
    obtain ⟨s, F⟩ := p
    refine ⟨s, F, rfl, ?_⟩
    simp only [entr, Maps.has_eq, List.any_cons, List.any_nil, Bool.or_false] at h
    cases kl <;> simp [Lit.sameKey] at h
    rw [h]

set_option maxRecDepth 100000 in
set_option maxHeartbeats 1000000 in
theorem used_any (d m : Nat) (room : Int) (s : St) (f : Option (ByteArray × Nat)) (n : Nat) (w : World) (h : DkAt w d m room s) (hF : Files w m f) (hf : ∀ nm F, f = some (nm, F) → ∃ bo bc k, FAt w F (.slice bo n bc) k) (h0 : f = none → n = 0) (hn : n ≤ 1000000) :
    Calls Tryz.prog 184 #[.pointer (some ⟨d, 0, none⟩)] w (UsedP n w) := by
  unfold DkAt at h
  have c0 : w.cell? ⟨d, 0, none⟩ = some (.map (some m)) := by rw [cell_of_row w d 0 _ _ (0, 0) h]; rfl
  have HF := Lib.hid hF
  have HFA := Lib.hid hf
  have H0 := Lib.hid h0
  have HL := Lib.hid (show m < w.heap.size from hF.lt)
  clear h hF hf h0
  go_enter Tryz.func184, Tryz.ntmps184
  go_wp2_with (first
    | (at_range; refine wpList_range_own _ rfl _ 90 rfl 9 198 law Tryz.underlying90 ptrR m _ _ rfl HF.out ?_; intro w0 hrg0 hg0 hs0))
  have HB0 := Lib.hid (show Below w.heap.size w w0 from ⟨hg0.os, hg0.tape, hg0.output, hg0.size, fun i hi => hg0.block i hi (by simp)⟩)
  clear hg0
  go_frame
  go_loopw [3] (fun nv wr => ∃ (left : Lit → Bool) (cnt acc : Nat), nv = .int .i64 acc ∧ wr.ranges Tryz.prog 9 ptrR m w.heap.size (entr f).length (.map (entr f)) left cnt ∧ Hid (Below w.heap.size w wr) ∧ Hid ((acc = 0 ∧ left = Maps.has (.map (entr f)) ∧ cnt = (entr f).length) ∨ (acc = n ∧ cnt = 0))) (fun _ wr => wr.rangeLeft m w.heap.size)
  case atStart => exact ⟨_, _, 0, rfl, hrg0, HB0, Lib.hid (Or.inl ⟨rfl, rfl, rfl⟩)⟩
  case round =>
    obtain ⟨left, cnt, acc, rfl, hrg, hb, hst⟩ := hrel
    go_wp2_with (first
      | (at_next; refine wpList_next_ranges _ rfl _ rfl 9 law ptrR encStr mkP (fun key kl hk => by obtain ⟨x, hx, _⟩ := Maps.keyOf_str Tryz.underlying9 hk; exact ⟨x, hx⟩) (fun v y hv => ptrR_inv hv) m w.heap.size _ _ _ _ rfl hrg ?_ ?_))
    · intro hc0 hl0
      have ha : acc = n := by
        rcases hst.out with ⟨h1, -, h3⟩ | ⟨h1, -⟩
        · cases f with
          | none => rw [h1, H0.out rfl]
          | some p => obtain ⟨s, F⟩ := p; simp [entr] at h3; omega
        · exact h1
      subst ha
      clear hc0 hl0
      go_wp2_with fail
      go_ret
      exact ⟨rfl, hb.out⟩
    · intro x c kl y1 y2 w2 cnt2 hkey hlk hv hat hrg2 hlt hg2 hs2 hen
      rcases hst.out with ⟨rfl, h2, h3⟩ | ⟨-, h3⟩
      · rw [h2] at hlk
        obtain ⟨nm, F, rfl, rfl⟩ := entr_has hlk
        obtain ⟨bo, bc, k, hfa⟩ := HFA.out nm F rfl
        have hy : y1 = .lit (.int .u64 F) := by rw [← hat (.nil), at_one]
        subst hy
        have hm := ptrR_some hv
        have hFl : F < w.heap.size := (Array.getElem?_eq_some_iff.1 hfa).1
        have hsz := hb.out.size
        have hb2 : w2.heap[F]? = w.heap[F]? := (hg2.block F (by omega) (fun e => by injection e with e; omega)).trans (hb.out.block F hFl)
        have hfa2 : FAt w2 F (.slice bo n bc) k := hb2.trans hfa
        unfold FAt at hfa2
        have q0 : w2.cell? ⟨F, 0, none⟩ = some (.slice bo n bc) := by rw [cell_of_row w2 F 0 _ _ (0, 0) hfa2]; rfl
        have HB2 := Lib.hid (show Below w.heap.size w w2 from hb.out.grown hg2 hb.out.size (fun j hj => by cases hj; exact Nat.le_refl _))
        have hc2 : cnt2 = 0 := by simp [entr] at h3; omega
        have HR2 := Lib.hid hrg2
        have hR1 := Lib.hid hrg
        clear hfa2 hb2 hfa hg2 hs2 hkey hlk hv hat hrg2 h2 hst hrg
        rw [hm] at hen ⊢
        have HLT := Lib.hid hlt
        clear hlt hm
        go_wp2_with fail
        go_roundw
        case rel => exact ⟨_, cnt2, n, by simp, HR2.out, HB2, Lib.hid (Or.inr ⟨rfl, hc2⟩)⟩
        case measure => rw [HR2.out.left_eq, hR1.out.left_eq]; exact HLT.out
      · omega
end Go.Proofs.YtmjelcjdfamikaaGreatDoor.Dsk
