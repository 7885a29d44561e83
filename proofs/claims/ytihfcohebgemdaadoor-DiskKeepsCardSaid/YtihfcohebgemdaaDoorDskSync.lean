/- Layer 11 (disk): a disk with one file; of, Sync. -/
import Derived.Test.YtihfcohebgemdaaDoorDskUsed
import Derived.Test.YtihfcohebgemdaaDoorBytEq
set_option linter.unusedSimpArgs false
set_option linter.unusedVariables false
namespace Go.Proofs.YtihfcohebgemdaaDoor.Dsk
open Go.RowKit Go.Maps Go.Sort Go.Proofs.YtihfcohebgemdaaDoor.Mrk Go.Proofs.YtihfcohebgemdaaDoor.Spare

/-- A disk with one file of these bytes, so many of them synced. -/
structure One (w : World) (d m F : Nat) (room : Int) (s : St) (nm : ByteArray) (bv : Value) (l : List Nat) (k : Nat) : Prop where
  dk : DkAt w d m room s
  files : Files w m (some (nm, F))
  file : FAt w F bv k
  row : SpB w (F + 1) bv l
  md : m < d
  dF : d < F
theorem One.Flt {w : World} {d m F : Nat} {room : Int} {s : St} {nm : ByteArray} {bv : Value} {l : List Nat} {k : Nat} (h : One w d m F room s nm bv l k) : F < w.heap.size := (Array.getElem?_eq_some_iff.1 h.file).1
theorem One.state {w w' : World} {d m F : Nat} {room : Int} {s s' : St} {nm : ByteArray} {bv : Value} {l : List Nat} {k : Nat} (h : One w d m F room s nm bv l k) (hd : DkAt w' d m room s') (hg : w.grownBy w' (some d)) : One w' d m F room s' nm bv l k := by
  have h1 := h.md; have h2 := h.dF
  refine ⟨hd, h.files.kept hg (fun e => by injection e with e; omega), (hg.block F h.Flt (fun e => by injection e with e; omega)).trans h.file, Spare.kept h.row hg (Or.inr fun e => ?_), h1, h2⟩
  have := ((Spare.own h.row).lt d e).1
  omega
theorem One.below {w w' : World} {d m F : Nat} {room : Int} {s : St} {nm : ByteArray} {bv : Value} {l : List Nat} {k : Nat} (h : One w d m F room s nm bv l k) (hb : Below w.heap.size w w') : One w' d m F room s nm bv l k := by
  have hg : w.grownBy w' none := ⟨hb.os, hb.tape, hb.output, hb.size, fun i hi _ => hb.block i hi⟩
  refine ⟨(hb.block d h.dk.lt).trans h.dk, h.files.kept hg (by simp), (hb.block F h.Flt).trans h.file, Spare.kept h.row hg ?_, h.md, h.dF⟩
  cases bv.ownBlock with
  | none => exact Or.inl rfl
  | some g => exact Or.inr (by simp)
theorem One.sync {w : World} {d m F : Nat} {room : Int} {s : St} {nm : ByteArray} {bv : Value} {l : List Nat} {k : Nat} (h : One w d m F room s nm bv l k) (k' : Nat) : One (w.setCell ⟨F, 1, none⟩ (.int .i64 k')) d m F room s nm bv l k' := by
  have h1 := h.md; have h2 := h.dF
  have hg : w.grownBy (w.setCell ⟨F, 1, none⟩ (.int .i64 k')) (some F) := grown_setCell (World.grownBy.refl _ _) (Or.inl rfl) _
  refine ⟨(hg.block d h.dk.lt (fun e => by injection e with e; omega)).trans h.dk, h.files.kept hg (fun e => by injection e with e; omega), heap_setCell_same w F 1 _ _ _ h.file, Spare.kept h.row hg (Or.inr fun e => ?_), h1, h2⟩
  have := ((Spare.own h.row).lt F e).1
  omega
theorem below_at {w w' : World} {B d : Nat} (hg : w.grownBy w' (some d)) (hB : B ≤ d) (hs : B ≤ w.heap.size) : Below B w w' :=
  ⟨hg.os, hg.tape, hg.output, hg.size, fun i hi => hg.block i (by omega) (fun e => by injection e with e; omega)⟩

/-- So much work was done. -/
def Few (s : St) : Prop := (0 ≤ s.ops ∧ s.ops ≤ 1000) ∧ (0 ≤ s.left ∧ s.left ≤ 9223372036854775807)

def OfP (d m F : Nat) (room : Int) (s : St) (nm : ByteArray) (bv : Value) (l : List Nat) (k : Nat) (w : World) (e : Ending) (w' : World) : Prop :=
  (s.off = true ∧ e = .returned (.tuple #[.pointer none, .int .i64 110]) ∧ One w' d m F room s nm bv l k ∨ s.off = false ∧ e = .returned (.tuple #[.pointer (some ⟨F, 0, none⟩), .int .i64 (goesS s).1]) ∧ One w' d m F room (goesS s).2 nm bv l k) ∧ Below m w w'

set_option maxRecDepth 100000 in
set_option maxHeartbeats 1000000 in
theorem of_any (d m F : Nat) (room : Int) (s : St) (nm : ByteArray) (bv : Value) (l : List Nat) (k : Nat) (w : World) (h : One w d m F room s nm bv l k) (hs : Few s) (hnm : nm.size ≤ maxLen) :
    Calls Tryd.prog 17 #[.pointer (some ⟨d, 0, none⟩), .string nm] w (OfP d m F room s nm bv l k w) := by
  have HGO := Lib.hid (goes_any d m room s w h.dk hs.1 hs.2)
  have HO := Lib.hid h
  have hdk := h.dk
  unfold DkAt at hdk
  have c0 : w.cell? ⟨d, 0, none⟩ = some (.map (some m)) := by rw [cell_of_row w d 0 _ _ (0, 0) hdk]; rfl
  have c2 : w.cell? ⟨d, 2, none⟩ = some (.bool s.off) := by rw [cell_of_row w d 2 _ _ (0, 0) hdk]; rfl
  have HM := Lib.hid (show m ≤ d ∧ m ≤ w.heap.size from ⟨by have := h.md; omega, by have := h.files.lt; omega⟩)
  clear h hdk hs
  obtain ⟨q, hq⟩ : ∃ q, q = s.off := ⟨_, rfl⟩
  rw [← hq] at c2
  have HQ := Lib.hid hq
  clear hq
  cases q
  all_goals
    go_enter Tryd.func17, Tryd.ntmps17
    go_wp2_with (first
      | (at_lookup; refine wpList_lookup_own_ok _ rfl _ _ 37 rfl 9 40 law Tryd.underlying37 ptrR (Tryd.zeroValue40 _) .nil [] rfl m _ _ rfl HO.out.files _ _ rfl (key hnm) ?_; intro v ps hv; rw [at_one] at hv; have hvp := ptrR_some hv; subst hvp; rw [has_one]; clear hv))
  · refine HGO.out.mono ?_
    rintro e w1 ⟨rfl, hd1, hg1⟩
    have HE := Lib.hid (And.intro (HO.out.state hd1 hg1) (below_at hg1 HM.out.1 HM.out.2))
    clear hd1 hg1
    go_wp2_with fail
    go_ret2
    exact ⟨Or.inr ⟨HQ.out.symm, rfl, HE.out.1⟩, HE.out.2⟩
  · go_ret2
    exact ⟨Or.inl ⟨HQ.out.symm, rfl, HO.out⟩, (Below.refl _ _).mono HM.out.2⟩

def SyncP (d m F : Nat) (room : Int) (s : St) (nm : ByteArray) (bv : Value) (l : List Nat) (k : Nat) (w : World) (e : Ending) (w' : World) : Prop :=
  (s.off = true ∧ e = .returned (.int .i64 110) ∧ One w' d m F room s nm bv l k ∨ s.off = false ∧ e = .returned (.int .i64 (goesS s).1) ∧ One w' d m F room (goesS s).2 nm bv l (if (goesS s).1 = 0 then l.length else k)) ∧ Below m w w'

set_option maxRecDepth 100000 in
set_option maxHeartbeats 1000000 in
theorem sync_any (d m F : Nat) (room : Int) (s : St) (nm : ByteArray) (bv : Value) (l : List Nat) (k : Nat) (w : World) (h : One w d m F room s nm bv l k) (hs : Few s) (hnm : nm.size ≤ maxLen) :
    Calls Tryd.prog 6 #[.pointer (some ⟨d, 0, none⟩), .string nm] w (SyncP d m F room s nm bv l k w) := by
  have HOF := Lib.hid (of_any d m F room s nm bv l k w h hs hnm)
  have HM := Lib.hid (show m ≤ F from by have := h.md; have := h.dF; omega)
  obtain ⟨bo, bc, rfl⟩ := row_form (Spare.own h.row)
  clear h hs
  go_enter Tryd.func6, Tryd.ntmps6
  go_wp2_with fail
  refine HOF.out.mono ?_
  rintro e w1 ⟨⟨hoff, rfl, ho⟩ | ⟨hoff, rfl, ho⟩, hb⟩
  · have HE := Lib.hid (And.intro ho hb)
    have HOFF := Lib.hid hoff
    clear ho hb hoff
    go_wp2_with fail
    go_ret
    exact ⟨Or.inl ⟨HOFF.out, rfl, HE.out.1⟩, HE.out.2⟩
  · obtain ⟨c, hc⟩ : ∃ c, c = (goesS s).1 := ⟨_, rfl⟩
    rw [← hc]
    have HC := Lib.hid hc
    have HE := Lib.hid (And.intro ho hb)
    have HOFF := Lib.hid hoff
    have hF := ho.file
    unfold FAt at hF
    have q0 : w1.cell? ⟨F, 0, none⟩ = some (.slice bo l.length bc) := by rw [cell_of_row w1 F 0 _ _ (0, 0) hF]; rfl
    have f1 := frozen_of_row w1 F 1 _ _ hF
    have q1 : w1.cell? ⟨F, 1, none⟩ = some (.int .i64 k) := by rw [cell_of_row w1 F 1 _ _ (0, 0) hF]; rfl
    clear ho hb hoff hc hF
    by_cases hz : c = 0
    · subst hz
      go_wp2_with fail
      go_ret
      refine ⟨Or.inr ⟨HOFF.out, by rw [← HC.out]; rfl, ?_⟩, HE.out.2.trans (below_at (d := F) (grown_setCell (World.grownBy.refl _ _) (Or.inl rfl) _) HM.out (by have := HE.out.2.size; have := HE.out.1.files.lt; omega))⟩
      rw [if_pos HC.out.symm]
      exact HE.out.1.sync l.length
    · have hzb : (c == 0) = false := by simpa using hz
      have HZ := Lib.hid hz
      clear hz
      go_wp2_with fail
      go_ret
      refine ⟨Or.inr ⟨HOFF.out, by rw [← HC.out]; rfl, ?_⟩, HE.out.2⟩
      rw [if_neg (by rw [← HC.out]; exact HZ.out)]
      exact HE.out.1

def ReadP (base : Nat) (l : List Nat) (w : World) (e : Ending) (w' : World) : Prop := ∃ v', e = .returned (.tuple #[v', .int .i64 0]) ∧ SpB w' base v' l ∧ Below w.heap.size w w'
set_option maxRecDepth 100000 in
set_option maxHeartbeats 1000000 in
theorem read_any (d m F : Nat) (room : Int) (s : St) (nm : ByteArray) (bv : Value) (l : List Nat) (k : Nat) (w : World) (h : One w d m F room s nm bv l k) (hs : s.off = false) (hnm : nm.size ≤ maxLen) (hl : l.length ≤ 1000000) :
    Calls Tryd.prog 11 #[.pointer (some ⟨d, 0, none⟩), .string nm] w (ReadP w.heap.size l w) := by
  have HCL := Lib.hid (cloneB_any bv l w (row_of (spB_own h.row)) hl)
  obtain ⟨bo, bc, rfl⟩ := row_form (Spare.own h.row)
  have HO := Lib.hid h
  have hdk := h.dk
  have hF := h.file
  unfold DkAt at hdk
  unfold FAt at hF
  have c0 : w.cell? ⟨d, 0, none⟩ = some (.map (some m)) := by rw [cell_of_row w d 0 _ _ (0, 0) hdk]; rfl
  have c2 : w.cell? ⟨d, 2, none⟩ = some (.bool false) := by rw [cell_of_row w d 2 _ _ (0, 0) hdk, ← hs]; rfl
  have q0 : w.cell? ⟨F, 0, none⟩ = some (.slice bo l.length bc) := by rw [cell_of_row w F 0 _ _ (0, 0) hF]; rfl
  clear h hdk hs hF
  go_enter Tryd.func11, Tryd.ntmps11
  go_wp2_with (first
    | (at_lookup; refine wpList_lookup_own_ok _ rfl _ _ 37 rfl 9 40 law Tryd.underlying37 ptrR (Tryd.zeroValue40 _) .nil [] rfl m _ _ rfl HO.out.files _ _ rfl (key hnm) ?_; intro v ps hv; rw [at_one] at hv; have hvp := ptrR_some hv; subst hvp; rw [has_one]; clear hv))
  refine HCL.out.mono ?_
  rintro e w1 ⟨v', rfl, hv', hb⟩
  have HE := Lib.hid (And.intro hv' hb)
  clear hv' hb
  go_wp2_with fail
  go_ret2
  exact ⟨_, rfl, HE.out.1, HE.out.2⟩
end Go.Proofs.YtihfcohebgemdaaDoor.Dsk
