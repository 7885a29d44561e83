/- Layer 11 (disk): a disk with one file; of, Sync. · Layer 11 (disk): Append. · Layer 11 (disk): Append of a new file. · Variables of many cells: loads and stores of their parts, and what stays when they turn. -/
import Derived.Test.YtmjelcjdfamikaaGreatDoorPkC
import Derived.Test.YtmjelcjdfamikaaGreatDoorBytEq
import Derived.Test.YtmjelcjdfamikaaGreatDoorLstMore
import Derived.Deep.MidRow
import Derived.Deep.WholeRow
import Derived.Laws.CopyRow
import Derived.Laws.CopyOwn
set_option linter.unusedSimpArgs false
set_option linter.unusedVariables false
namespace Go.Proofs.YtmjelcjdfamikaaGreatDoor.Dsk
open Go.RowKit Go.Maps Go.Sort Go.Proofs.YtmjelcjdfamikaaGreatDoor.Mrk Go.Proofs.YtmjelcjdfamikaaGreatDoor.Spare

/-- A disk with one file of these bytes, so many of them synced. -/
structure One (w : World) (d m F : Nat) (room : Int) (s : St) (nm : ByteArray) (bv : Value) (l : List Nat) (k : Nat) : Prop where
  dk : DkAt w d m room s
  files : Files w m (some (nm, F))
  file : FAt w F bv k
  row : SpB w (F + 1) bv l
  md : m < d
  dF : d < F
theorem One.Flt {w : World} {d m F : Nat} {room : Int} {s : St} {nm : ByteArray} {bv : Value} {l : List Nat} {k : Nat} (h : One w d m F room s nm bv l k) : F < w.heap.size := (Array.getElem?_eq_some_iff.1 h.file).1
theorem One.state {w w' : World} {d m F : Nat} {room : Int} {s s' : St} {nm : ByteArray} {bv : Value} {l : List Nat} {k : Nat} (h : One w d m F room s nm bv l k) (hd : DkAt w' d m room s') (hg : w.grownBy w' (some d)) : One w' d m F room s' nm bv l k := by
  have h1 := h.md; have h2 := h.dF
  refine ⟨hd, h.files.kept hg (fun e => by injection e with e; omega), (hg.block F h.Flt (fun e => by injection e with e; omega)).trans h.file, Spare.kept h.row hg (Or.inr fun e => ?_), h1, h2⟩
  have := ((Spare.own h.row).lt d e).1
  omega
theorem One.below {w w' : World} {d m F : Nat} {room : Int} {s : St} {nm : ByteArray} {bv : Value} {l : List Nat} {k : Nat} (h : One w d m F room s nm bv l k) (hb : Below w.heap.size w w') : One w' d m F room s nm bv l k := by
  have hg : w.grownBy w' none := ⟨hb.os, hb.tape, hb.output, hb.size, fun i hi _ => hb.block i hi⟩
  refine ⟨(hb.block d h.dk.lt).trans h.dk, h.files.kept hg (by simp), (hb.block F h.Flt).trans h.file, Spare.kept h.row hg ?_, h.md, h.dF⟩
  cases bv.ownBlock with
  | none => exact Or.inl rfl
  | some g => exact Or.inr (by simp)
theorem One.sync {w : World} {d m F : Nat} {room : Int} {s : St} {nm : ByteArray} {bv : Value} {l : List Nat} {k : Nat} (h : One w d m F room s nm bv l k) (k' : Nat) : One (w.setCell ⟨F, 1, none⟩ (.int .i64 k')) d m F room s nm bv l k' := by
  have h1 := h.md; have h2 := h.dF
  have hg : w.grownBy (w.setCell ⟨F, 1, none⟩ (.int .i64 k')) (some F) := grown_setCell (World.grownBy.refl _ _) (Or.inl rfl) _
  refine ⟨(hg.block d h.dk.lt (fun e => by injection e with e; omega)).trans h.dk, h.files.kept hg (fun e => by injection e with e; omega), heap_setCell_same w F 1 _ _ _ h.file, Spare.kept h.row hg (Or.inr fun e => ?_), h1, h2⟩
  have := ((Spare.own h.row).lt F e).1
  omega
theorem below_at {w w' : World} {B d : Nat} (hg : w.grownBy w' (some d)) (hB : B ≤ d) (hs : B ≤ w.heap.size) : Below B w w' :=
  ⟨hg.os, hg.tape, hg.output, hg.size, fun i hi => hg.block i (by omega) (fun e => by injection e with e; omega)⟩

/-- So much work was done. -/
def Few (s : St) : Prop := (0 ≤ s.ops ∧ s.ops ≤ 1000) ∧ (0 ≤ s.left ∧ s.left ≤ 9223372036854775807)

def OfP (d m F : Nat) (room : Int) (s : St) (nm : ByteArray) (bv : Value) (l : List Nat) (k : Nat) (w : World) (e : Ending) (w' : World) : Prop :=
  (s.off = true ∧ e = .returned (.tuple #[.pointer none, .int .i64 110]) ∧ One w' d m F room s nm bv l k ∨ s.off = false ∧ e = .returned (.tuple #[.pointer (some ⟨F, 0, none⟩), .int .i64 (goesS s).1]) ∧ One w' d m F room (goesS s).2 nm bv l k) ∧ Below m w w'

set_option maxRecDepth 100000 in
set_option maxHeartbeats 1000000 in
theorem of_any (d m F : Nat) (room : Int) (s : St) (nm : ByteArray) (bv : Value) (l : List Nat) (k : Nat) (w : World) (h : One w d m F room s nm bv l k) (hs : Few s) (hnm : nm.size ≤ maxLen) :
    Calls Tryz.prog 176 #[.pointer (some ⟨d, 0, none⟩), .string nm] w (OfP d m F room s nm bv l k w) := by
  have HGO := Lib.hid (goes_any d m room s w h.dk hs.1 hs.2)
  have HO := Lib.hid h
  have hdk := h.dk
  unfold DkAt at hdk
  have c0 : w.cell? ⟨d, 0, none⟩ = some (.map (some m)) := by rw [cell_of_row w d 0 _ _ (0, 0) hdk]; rfl
  have c2 : w.cell? ⟨d, 2, none⟩ = some (.bool s.off) := by rw [cell_of_row w d 2 _ _ (0, 0) hdk]; rfl
  have HM := Lib.hid (show m ≤ d ∧ m ≤ w.heap.size from ⟨by have := h.md; omega, by have := h.files.lt; omega⟩)
  clear h hdk hs
  obtain ⟨q, hq⟩ : ∃ q, q = s.off := ⟨_, rfl⟩
  rw [← hq] at c2
  have HQ := Lib.hid hq
  clear hq
  cases q
  all_goals
    go_enter Tryz.func176, Tryz.ntmps176
    go_wp2_with (first
      | (at_lookup; refine wpList_lookup_own_ok _ rfl _ _ 90 rfl 9 198 law Tryz.underlying90 ptrR (Tryz.zeroValue198 _) .nil [] rfl m _ _ rfl HO.out.files _ _ rfl (key hnm) ?_; intro v ps hv; rw [at_one] at hv; have hvp := ptrR_some hv; subst hvp; rw [has_one]; clear hv))
  · refine HGO.out.mono ?_
    rintro e w1 ⟨rfl, hd1, hg1⟩
    have HE := Lib.hid (And.intro (HO.out.state hd1 hg1) (below_at hg1 HM.out.1 HM.out.2))
    clear hd1 hg1
    go_wp2_with fail
    go_ret2
    exact ⟨Or.inr ⟨HQ.out.symm, rfl, HE.out.1⟩, HE.out.2⟩
  · go_ret2
    exact ⟨Or.inl ⟨HQ.out.symm, rfl, HO.out⟩, (Below.refl _ _).mono HM.out.2⟩

def SyncP (d m F : Nat) (room : Int) (s : St) (nm : ByteArray) (bv : Value) (l : List Nat) (k : Nat) (w : World) (e : Ending) (w' : World) : Prop :=
  (s.off = true ∧ e = .returned (.int .i64 110) ∧ One w' d m F room s nm bv l k ∨ s.off = false ∧ e = .returned (.int .i64 (goesS s).1) ∧ One w' d m F room (goesS s).2 nm bv l (if (goesS s).1 = 0 then l.length else k)) ∧ Below m w w'

set_option maxRecDepth 100000 in
set_option maxHeartbeats 1000000 in
theorem sync_any (d m F : Nat) (room : Int) (s : St) (nm : ByteArray) (bv : Value) (l : List Nat) (k : Nat) (w : World) (h : One w d m F room s nm bv l k) (hs : Few s) (hnm : nm.size ≤ maxLen) :
    Calls Tryz.prog 134 #[.pointer (some ⟨d, 0, none⟩), .string nm] w (SyncP d m F room s nm bv l k w) := by
  have HOF := Lib.hid (of_any d m F room s nm bv l k w h hs hnm)
  have HM := Lib.hid (show m ≤ F from by have := h.md; have := h.dF; omega)
  obtain ⟨bo, bc, rfl⟩ := row_form (Spare.own h.row)
  clear h hs
  go_enter Tryz.func134, Tryz.ntmps134
  go_wp2_with fail
  refine HOF.out.mono ?_
  rintro e w1 ⟨⟨hoff, rfl, ho⟩ | ⟨hoff, rfl, ho⟩, hb⟩
  · have HE := Lib.hid (And.intro ho hb)
    have HOFF := Lib.hid hoff
    clear ho hb hoff
    go_wp2_with fail
    go_ret
    exact ⟨Or.inl ⟨HOFF.out, rfl, HE.out.1⟩, HE.out.2⟩
  · obtain ⟨c, hc⟩ : ∃ c, c = (goesS s).1 := ⟨_, rfl⟩
    rw [← hc]
    have HC := Lib.hid hc
    have HE := Lib.hid (And.intro ho hb)
    have HOFF := Lib.hid hoff
    have hF := ho.file
    unfold FAt at hF
    have q0 : w1.cell? ⟨F, 0, none⟩ = some (.slice bo l.length bc) := by rw [cell_of_row w1 F 0 _ _ (0, 0) hF]; rfl
    have f1 := frozen_of_row w1 F 1 _ _ hF
    have q1 : w1.cell? ⟨F, 1, none⟩ = some (.int .i64 k) := by rw [cell_of_row w1 F 1 _ _ (0, 0) hF]; rfl
    clear ho hb hoff hc hF
    by_cases hz : c = 0
    · subst hz
      go_wp2_with fail
      go_ret
      refine ⟨Or.inr ⟨HOFF.out, by rw [← HC.out]; rfl, ?_⟩, HE.out.2.trans (below_at (d := F) (grown_setCell (World.grownBy.refl _ _) (Or.inl rfl) _) HM.out (by have := HE.out.2.size; have := HE.out.1.files.lt; omega))⟩
      rw [if_pos HC.out.symm]
      exact HE.out.1.sync l.length
    · have hzb : (c == 0) = false := by simpa using hz
      have HZ := Lib.hid hz
      clear hz
      go_wp2_with fail
      go_ret
      refine ⟨Or.inr ⟨HOFF.out, by rw [← HC.out]; rfl, ?_⟩, HE.out.2⟩
      rw [if_neg (by rw [← HC.out]; exact HZ.out)]
      exact HE.out.1

def ReadP (base : Nat) (l : List Nat) (w : World) (e : Ending) (w' : World) : Prop := ∃ v', e = .returned (.tuple #[v', .int .i64 0]) ∧ SpB w' base v' l ∧ Below w.heap.size w w'
set_option maxRecDepth 100000 in
set_option maxHeartbeats 1000000 in
theorem read_any (d m F : Nat) (room : Int) (s : St) (nm : ByteArray) (bv : Value) (l : List Nat) (k : Nat) (w : World) (h : One w d m F room s nm bv l k) (hs : s.off = false) (hnm : nm.size ≤ maxLen) (hl : l.length ≤ 1000000) :
    Calls Tryz.prog 123 #[.pointer (some ⟨d, 0, none⟩), .string nm] w (ReadP w.heap.size l w) := by
  have HCL := Lib.hid (cloneB_any bv l w (row_of (spB_own h.row)) hl)
  obtain ⟨bo, bc, rfl⟩ := row_form (Spare.own h.row)
  have HO := Lib.hid h
  have hdk := h.dk
  have hF := h.file
  unfold DkAt at hdk
  unfold FAt at hF
  have c0 : w.cell? ⟨d, 0, none⟩ = some (.map (some m)) := by rw [cell_of_row w d 0 _ _ (0, 0) hdk]; rfl
  have c2 : w.cell? ⟨d, 2, none⟩ = some (.bool false) := by rw [cell_of_row w d 2 _ _ (0, 0) hdk, ← hs]; rfl
  have q0 : w.cell? ⟨F, 0, none⟩ = some (.slice bo l.length bc) := by rw [cell_of_row w F 0 _ _ (0, 0) hF]; rfl
  clear h hdk hs hF
  go_enter Tryz.func123, Tryz.ntmps123
  go_wp2_with (first
    | (at_lookup; refine wpList_lookup_own_ok _ rfl _ _ 90 rfl 9 198 law Tryz.underlying90 ptrR (Tryz.zeroValue198 _) .nil [] rfl m _ _ rfl HO.out.files _ _ rfl (key hnm) ?_; intro v ps hv; rw [at_one] at hv; have hvp := ptrR_some hv; subst hvp; rw [has_one]; clear hv))
  refine HCL.out.mono ?_
  rintro e w1 ⟨v', rfl, hv', hb⟩
  have HE := Lib.hid (And.intro hv' hb)
  clear hv' hb
  go_wp2_with fail
  go_ret2
  exact ⟨_, rfl, HE.out.1, HE.out.2⟩
end Go.Proofs.YtmjelcjdfamikaaGreatDoor.Dsk

namespace Go.Proofs.YtmjelcjdfamikaaGreatDoor.Dsk
open Go.RowKit Go.Maps Go.Sort Go.Proofs.YtmjelcjdfamikaaGreatDoor.Mrk Go.Proofs.YtmjelcjdfamikaaGreatDoor.Spare

/-- More bytes at the file's end. -/
theorem One.more {w w3 : World} {d m F : Nat} {room : Int} {s : St} {nm : ByteArray} {bv v' : Value} {l l' : List Nat} {k : Nat} (h : One w d m F room s nm bv l k) (hs : SpB w3 (F + 1) v' l') (hg : w.grownBy w3 bv.ownBlock) : One (w3.setCell ⟨F, 0, none⟩ v') d m F room s nm v' l' k := by
  have h1 := h.md; have h2 := h.dF
  have hr : ∀ j, bv.ownBlock = some j → F + 1 ≤ j := fun j hj => ((Spare.own h.row).lt j hj).1
  have hg2 : w3.grownBy (w3.setCell ⟨F, 0, none⟩ v') (some F) := grown_setCell (World.grownBy.refl _ _) (Or.inl rfl) _
  have hd : w3.heap[d]? = w.heap[d]? := hg.block d h.dk.lt (fun e => by have := hr d e.symm; omega)
  have hF : w3.heap[F]? = w.heap[F]? := hg.block F h.Flt (fun e => by have := hr F e.symm; omega)
  have hf3 : Files w3 m (some (nm, F)) := h.files.kept hg (fun e => by have := hr m e.symm; omega)
  have hsz := hg.size
  refine ⟨(hg2.block d (by have := h.dk.lt; omega) (fun e => by injection e with e; omega)).trans (hd.trans h.dk), hf3.kept hg2 (fun e => by injection e with e; omega), heap_setCell_same w3 F 0 _ _ _ (hF.trans h.file), Spare.kept hs hg2 (Or.inr fun e => ?_), h1, h2⟩
  have := ((Spare.own hs).lt F e).1
  omega

theorem below_opt {w w' : World} {B : Nat} {r : Option Nat} (hg : w.grownBy w' r) (hr : ∀ j, r = some j → B ≤ j) (hs : B ≤ w.heap.size) : Below B w w' :=
  ⟨hg.os, hg.tape, hg.output, hg.size, fun i hi => hg.block i (by omega) (fun e => by have := hr i e.symm; omega)⟩

def AppP (d m F : Nat) (room : Int) (s : St) (nm : ByteArray) (l : List Nat) (k : Nat) (w : World) (e : Ending) (w' : World) : Prop :=
  ∃ bv', e = .returned (.int .i64 (goesS s).1) ∧ One w' d m F room (goesS s).2 nm bv' l k ∧ Below m w w'

set_option maxRecDepth 100000 in
set_option maxHeartbeats 2000000 in
theorem append_more (d m F : Nat) (room : Int) (s : St) (nm : ByteArray) (bv : Value) (l : List Nat) (k : Nat) (vb : Value) (B : List Nat) (w : World) (h : One w d m F room s nm bv l k) (hoff : s.off = false) (hs : Few s) (hnm : nm.size ≤ maxLen)
    (hk : Calls Tryz.prog 53 #[.string nm] w fun e w' => e = .returned (.bool true) ∧ Below w.heap.size w w') (hb : BRow w vb B) (hroom : ((l.length + B.length : Nat) : Int) ≤ room) (hr : room ≤ 100000) :
    Calls Tryz.prog 133 #[.pointer (some ⟨d, 0, none⟩), .string nm, vb] w (AppP d m F room s nm (l ++ B) k w) := by
  obtain ⟨ao, ac, rfl, -, -⟩ := Lst.form hb
  obtain ⟨bo, bc, rfl⟩ := row_form (Spare.own h.row)
  obtain ⟨i0, hi, hz0, hz1, hz2⟩ := info_parts_B
  have HI := Lib.hid (And.intro hi (And.intro hz0 (And.intro hz1 hz2)))
  have HB := Lib.hid hb
  have HO := Lib.hid h
  have HK := Lib.hid hk
  have HS := Lib.hid hs
  have hdk := h.dk
  unfold DkAt at hdk
  have c0 : w.cell? ⟨d, 0, none⟩ = some (.map (some m)) := by rw [cell_of_row w d 0 _ _ (0, 0) hdk]; rfl
  have c2 : w.cell? ⟨d, 2, none⟩ = some (.bool false) := by rw [cell_of_row w d 2 _ _ (0, 0) hdk, ← hoff]; rfl
  obtain ⟨n, hn⟩ : ∃ n, n = l.length := ⟨_, rfl⟩
  obtain ⟨nb, hnb⟩ : ∃ n, n = B.length := ⟨_, rfl⟩
  rw [← hn, ← hnb] at hroom
  rw [← hn] at HO
  rw [← hnb] at HB ⊢
  have HN := Lib.hid (And.intro hn hnb)
  clear h hb hk hs hdk hn hnb hi hz0 hz1 hz2 hoff
  go_enter Tryz.func133, Tryz.ntmps133
  go_wp2_with (first
    | (at_lookup; refine wpList_lookup_own_ok _ rfl _ _ 90 rfl 9 198 law Tryz.underlying90 ptrR (Tryz.zeroValue198 _) .nil [] rfl m _ _ rfl HO.out.files _ _ rfl (key hnm) ?_; intro v ps hv; rw [at_one] at hv; have hvp := ptrR_some hv; subst hvp; rw [has_one]; clear hv))
  refine HK.out.mono ?_
  rintro e w1 ⟨rfl, hb1⟩
  have HO1 := Lib.hid (HO.out.below hb1)
  have HB1 := Lib.hid hb1
  have HBR := Lib.hid (HB.out.below hb1)
  have hU := fun (x : BW w1) => used_any d m room s (some (nm, F)) n x.at (HO1.out.below x.below).dk (HO1.out.below x.below).files (fun nm' F' e => by injection e with e; injection e with e1 e2; subst e2; exact ⟨bo, bc, k, (HO1.out.below x.below).file⟩) (fun e => by cases e) (by omega)
  have HU := Lib.hid hU
  have hdk := HO1.out.dk
  unfold DkAt at hdk
  have a1 : w1.cell? ⟨d, 1, none⟩ = some (.int .i64 room) := by rw [cell_of_row w1 d 1 _ _ (0, 0) hdk]; rfl
  have hdl : d < w1.heap.size := HO1.out.dk.lt
  clear c0 c2 hb1 hU hdk
  go_wp2_with fail
  refine wp_region_calm (by kernel_rfl) (by kernel_rfl) ?_
  repeat (go_big_quiet_step ((go_at_call 184; exact calm (HU.out _))))
  refine wpQuiet_nil ?_
  rintro _ ⟨y, rfl⟩
  obtain ⟨W1, hW1⟩ : ∃ W1, W1 = y.at := ⟨_, rfl⟩
  have hz := y.below
  rw [← hW1] at hz ⊢
  have HZ := Lib.hid (HO1.out.below hz)
  have HB2 := Lib.hid (below_then HB1.out (Nat.le_refl _) hz)
  have HBR2 := Lib.hid (HBR.out.below hz)
  clear hW1 y hz a1 hdl
  have hF := HZ.out.file
  unfold FAt at hF
  have q0 : W1.cell? ⟨F, 0, none⟩ = some (.slice bo n bc) := by rw [cell_of_row W1 F 0 _ _ (0, 0) hF]; rfl
  have HSP := Lib.hid (show Spare W1 (F + 1) 5 [.int .u8 0] (.slice bo n bc) n (l.flatMap enB) from by have h := HZ.out.row; have e := HN.out.1; unfold SpB at h; rw [← e] at h; exact h)
  have HSRC := Lib.hid (Mut.lst_src enB_len (by decide) HBR2.out)
  have HF := Lib.hid hF
  have hFlt := HZ.out.Flt
  clear hF
  go_wp2_with (at_builtin; refine wpList_append_spareAny rfl _ _ 110 rfl (F + 1) 5 i0 (.int .u8 0) [.int .u8 0] 1 Tryz.underlying110 HI.out.1 HI.out.2.1 rfl HI.out.2.2.1 HI.out.2.2.2 (by decide) (.slice bo n bc) n (l.flatMap enB) rfl HSP.out ao nb ac (B.flatMap enB) rfl ?qc1 ?qc2 ?qc3 ?qc4 ?qc5 ?qc6 ?_)
  case qc1 => rw [flat_enB, List.length_map, ← HN.out.2]; exact (Nat.mul_one _).symm
  case qc2 => exact HSRC.out
  case qc3 => exact bytes_one B
  case qc4 => unfold maxLen; omega
  case qc5 => omega
  case qc6 => omega
  intro v' w3 hs3 hg3 _ _
  obtain ⟨vo, vc, rfl⟩ := row_form (Spare.own hs3)
  have HG3 := Lib.hid hg3
  have HR3 := Lib.hid (show ∀ j, (Value.slice bo n bc).ownBlock = some j → F + 1 ≤ j from fun j hj => (HSP.out.own.lt j hj).1)
  have hF3 : w3.heap[F]? = some (.cells #[.slice bo n bc, .int .i64 k] 202 (0, 0)) := (hg3.block F hFlt (fun e => by have := HR3.out F e.symm; omega)).trans HF.out
  have q3 : w3.cell? ⟨F, 0, none⟩ = some (.slice bo n bc) := by rw [cell_of_row w3 F 0 _ _ (0, 0) hF3]; rfl
  have f3 := frozen_of_row w3 F 0 _ _ hF3
  have HO4 := Lib.hid (HZ.out.more (w3 := w3) (v' := .slice vo (n + nb) vc) (l' := l ++ B) (by unfold SpB; rw [List.length_append, List.flatMap_append, ← HN.out.1, ← HN.out.2]; exact hs3) hg3)
  have HGO := Lib.hid (goes_any d m room s _ HO4.out.dk HS.out.1 HS.out.2)
  clear hs3 hg3 hF3 q0
  go_wp2_with fail
  refine HGO.out.mono ?_
  rintro e w5 ⟨rfl, hd5, hg5⟩
  have HE := Lib.hid (And.intro (HO4.out.state hd5 hg5) hg5)
  clear hd5 hg5
  go_wp2_with fail
  go_ret
  have hmd := HO.out.md
  have hdF := HO.out.dF
  have hml := HO.out.files.lt
  have hs1 := HB2.out.size
  have hs3 := HG3.out.size
  refine ⟨_, rfl, HE.out.1, ?_⟩
  have b1 : Below m w W1 := HB2.out.mono (by omega)
  have b2 : Below m W1 w3 := below_opt HG3.out (fun j hj => by have := HR3.out j hj; omega) (by omega)
  have b3 : Below m w3 (w3.setCell ⟨F, 0, none⟩ (.slice vo (n + nb) vc)) := below_at (d := F) (grown_setCell (World.grownBy.refl _ _) (Or.inl rfl) _) (by omega) (by omega)
  have b4 : Below m (w3.setCell ⟨F, 0, none⟩ (.slice vo (n + nb) vc)) w5 := below_at HE.out.2 (by omega) (by simp; omega)
  exact ((b1.trans b2).trans b3).trans b4
end Go.Proofs.YtmjelcjdfamikaaGreatDoor.Dsk

namespace Go.Proofs.YtmjelcjdfamikaaGreatDoor.Dsk
open Go.RowKit Go.Maps Go.Sort Go.Proofs.YtmjelcjdfamikaaGreatDoor.Mrk Go.Proofs.YtmjelcjdfamikaaGreatDoor.Spare

theorem ptrR_nil {v : Value} {ps : List MemPlace} (h : ptrR v = some (.nil, ps)) : v = .pointer none := by
  obtain ⟨c, rfl⟩ := ptrR_inv h
  cases c with
  | none => rfl
  | some j => simp [mkP, ptrR] at h
theorem row_kept {w w' : World} {m : Nat} {v : Value} {l : List Nat} (h : BRow w v l) (hg : w.grownBy w' (some m)) (hm : ∃ es clock, w.heap[m]? = some (.map es clock)) : BRow w' v l := by
  obtain ⟨ao, cap, hv, h1, h2, h3⟩ := h
  refine ⟨ao, cap, hv, h1, h2, ?_⟩
  rcases h3 with h3 | ⟨b, off, ha, hlt, hc⟩
  · exact Or.inl h3
  · by_cases hl : l.length = 0
    · exact Or.inl hl
    · have hne : b ≠ m := by
        rintro rfl
        obtain ⟨es, clock, hm⟩ := hm
        obtain ⟨x, t, rfl⟩ := List.exists_cons_of_ne_nil (l := l) (fun e => hl (by rw [e]; rfl))
        have := hc 0 x rfl 0 (by decide)
        simp [World.cell?, hm, enB] at this
      exact Or.inr ⟨b, off, ha, Nat.lt_of_lt_of_le hlt hg.size, fun i x hi j hj => (World.cell?_of_block (a := ⟨b, off + i * 1 + j, none⟩) (hg.block b hlt (fun e => hne (by injection e)))).trans (hc i x hi j hj)⟩
def NewFP (d m : Nat) (room : Int) (s : St) (nm : ByteArray) (l : List Nat) (w : World) (e : Ending) (w' : World) : Prop :=
  ∃ F, AppP d m F room s nm l 0 w e w'

set_option maxRecDepth 100000 in
set_option maxHeartbeats 2000000 in
theorem append_new (d m : Nat) (room : Int) (s : St) (nm : ByteArray) (vb : Value) (B : List Nat) (w : World) (hd0 : DkAt w d m room s) (hf0 : Files w m none) (hmd : m < d) (hoff : s.off = false) (hs : Few s) (hnm : nm.size ≤ maxLen)
    (hk : Calls Tryz.prog 53 #[.string nm] w fun e w' => e = .returned (.bool true) ∧ Below w.heap.size w w') (hb : BRow w vb B) (hroom : (B.length : Int) ≤ room) (hr : room ≤ 100000) :
    Calls Tryz.prog 133 #[.pointer (some ⟨d, 0, none⟩), .string nm, vb] w (NewFP d m room s nm B w) := by
  obtain ⟨ao, ac, rfl, -, -⟩ := Lst.form hb
  obtain ⟨i0, hi, hz0, hz1, hz2⟩ := info_parts_B
  have HI := Lib.hid (And.intro hi (And.intro hz0 (And.intro hz1 hz2)))
  have HB := Lib.hid hb
  have HD := Lib.hid hd0
  have HF := Lib.hid hf0
  have HK := Lib.hid hk
  have HS := Lib.hid hs
  have HMD := Lib.hid hmd
  have hdk := hd0
  unfold DkAt at hdk
  have c0 : w.cell? ⟨d, 0, none⟩ = some (.map (some m)) := by rw [cell_of_row w d 0 _ _ (0, 0) hdk]; rfl
  have c2 : w.cell? ⟨d, 2, none⟩ = some (.bool false) := by rw [cell_of_row w d 2 _ _ (0, 0) hdk, ← hoff]; rfl
  obtain ⟨nb, hnb⟩ : ∃ n, n = B.length := ⟨_, rfl⟩
  rw [← hnb] at hroom
  rw [← hnb] at HB ⊢
  have HN := Lib.hid hnb
  have hdlt := hd0.lt
  clear hd0 hf0 hb hk hs hdk hnb hi hz0 hz1 hz2 hoff hmd
  go_enter Tryz.func133, Tryz.ntmps133
  go_wp2_with (first
    | (at_lookup; refine wpList_lookup_own_ok _ rfl _ _ 90 rfl 9 198 law Tryz.underlying90 ptrR (Tryz.zeroValue198 _) .nil [] rfl m _ _ rfl HF.out _ _ rfl (key hnm) ?_; intro v ps hv; have hvp := ptrR_nil (ps := ps) hv; subst hvp; rw [show Maps.has (.map (entr none)) (.string nm.data.toList) = false from rfl]; clear hv))
  refine HK.out.mono ?_
  rintro e w1 ⟨rfl, hb1⟩
  have hg1 : w.grownBy w1 none := ⟨hb1.os, hb1.tape, hb1.output, hb1.size, fun i hi _ => hb1.block i hi⟩
  have HD1 := Lib.hid (show DkAt w1 d m room s from (hb1.block d hdlt).trans HD.out)
  have HF1 := Lib.hid (HF.out.kept hg1 (by simp))
  have HB1 := Lib.hid hb1
  have HBR := Lib.hid (HB.out.below hb1)
  have gx : ∀ (x : BW w1), w1.grownBy x.at none := fun x => ⟨x.below.os, x.below.tape, x.below.output, x.below.size, fun i hi _ => x.below.block i hi⟩
  have hU := fun (x : BW w1) => used_any d m room s none 0 x.at ((x.below.block d HD1.out.lt).trans HD1.out) (HF1.out.kept (gx x) (by simp)) (fun nm' F' e => by cases e) (fun _ => rfl) (by omega)
  have HU := Lib.hid hU
  have hlen : ∀ (x : BW w1) (ty : TypeId), (Builtin.len_ #[90] ty #[.map (some m)]).run Tryz.prog x.at = .ok (.int .i64 0) x.at := fun x ty => World.ownsMap.len (HF1.out.kept (gx x) (by simp)) Tryz.underlying90 ty
  have hdk := HD1.out
  unfold DkAt at hdk
  have a0 : w1.cell? ⟨d, 0, none⟩ = some (.map (some m)) := by rw [cell_of_row w1 d 0 _ _ (0, 0) hdk]; rfl
  have a1 : w1.cell? ⟨d, 1, none⟩ = some (.int .i64 room) := by rw [cell_of_row w1 d 1 _ _ (0, 0) hdk]; rfl
  have hdl : d < w1.heap.size := HD1.out.lt
  clear c0 c2 hb1 hU hdk hg1 gx hdlt
  go_wp2_with fail
  refine wp_region_calm (by kernel_rfl) (by kernel_rfl) ?_
  repeat (go_big_quiet_step ((go_at_call 184; exact calm (HU.out _))))
  refine wpQuiet_nil ?_
  rintro _ ⟨y, rfl⟩
  obtain ⟨W1, hW1⟩ : ∃ W1, W1 = y.at := ⟨_, rfl⟩
  have hz := y.below
  rw [← hW1] at hz ⊢
  have hgz : w1.grownBy W1 none := ⟨hz.os, hz.tape, hz.output, hz.size, fun i hi _ => hz.block i hi⟩
  have HDW := Lib.hid (show DkAt W1 d m room s from (hz.block d HD1.out.lt).trans HD1.out)
  have HFW := Lib.hid (HF1.out.kept hgz (by simp))
  have HB2 := Lib.hid (below_then HB1.out (Nat.le_refl _) hz)
  have HBR2 := Lib.hid (HBR.out.below hz)
  have hdW : d < W1.heap.size := HDW.out.lt
  have hdk := HDW.out
  unfold DkAt at hdk
  have b0 : W1.cell? ⟨d, 0, none⟩ = some (.map (some m)) := by rw [cell_of_row W1 d 0 _ _ (0, 0) hdk]; rfl
  have n0 : ∀ o : Obj, (W1.alloc o).cell? ⟨d, 0, none⟩ = some (.map (some m)) := fun o => (((Below.refl W1.heap.size W1).alloc (Nat.le_refl _) o).cell (p := ⟨d, 0, none⟩) hdW).trans b0
  have HFA := Lib.hid (fun o : Obj => show (W1.alloc o).ownsMap Tryz.prog 9 ptrR m 0 (.map []) from HFW.out.kept (row := none) (World.grownBy_alloc _ _ none) (by simp))
  clear hW1 y hz hgz a0 a1 hdl hlen hdk b0
  go_upto_region 11 with (at_mapUpdate; refine wpList_mapUpdate_own _ rfl _ _ _ 90 rfl 9 198 law Tryz.underlying90 ptrR m 0 (.map []) rfl (HFA.out _) (by unfold maxLen; omega) _ _ (.string nm.data.toList) rfl rfl (key hnm) (.lit (.int .u64 W1.heap.size)) [] rfl ?_; intro w5 hf5 hg5)
  obtain ⟨F, hF⟩ : ∃ F, F = W1.heap.size := ⟨_, rfl⟩
  rw [← hF] at hf5 ⊢
  have hmd := HMD.out
  have HO5 := Lib.hid (show One w5 d m F room s nm (.slice none 0 0) [] 0 from ⟨(hg5.block d (by simp; omega) (fun e => by injection e with e; omega)).trans ((Below.heap_alloc W1 _ d hdW).trans HDW.out), hf5, (hg5.block F (by rw [hF]; simp) (fun e => by injection e with e; omega)).trans (by rw [hF]; exact heap_alloc_new W1 _), Spare.nil _ _ _ _, hmd, by omega⟩)
  have HG5 := Lib.hid hg5
  have hs5 : F + 1 ≤ w5.heap.size := by have := hg5.size; simp at this; omega
  have HBR5 := Lib.hid (row_kept (HBR2.out.below ((Below.refl W1.heap.size W1).alloc (Nat.le_refl _) (.cells #[.slice none 0 0, .int .i64 0] 202))) hg5 (by obtain ⟨es, clock, hh, _⟩ := (HFA.out (.cells #[.slice none 0 0, .int .i64 0] 202)); exact ⟨es, clock, hh⟩))
  have HSRC := Lib.hid (Mut.lst_src enB_len (by decide) HBR5.out)
  have hfl := HO5.out.file
  unfold FAt at hfl
  have q0 : w5.cell? ⟨F, 0, none⟩ = some (.slice none 0 0) := by rw [cell_of_row w5 F 0 _ _ (0, 0) hfl]; rfl
  have HFL := Lib.hid hfl
  have HSP := Lib.hid (show Spare w5 (F + 1) 5 [.int .u8 0] (.slice none 0 0) 0 [] from Spare.nil _ _ _ _)
  have HFE := Lib.hid hF
  clear hf5 hg5 hfl n0 hF
  go_wp2_with (at_builtin; refine wpList_append_spareAny rfl _ _ 110 rfl (F + 1) 5 i0 (.int .u8 0) [.int .u8 0] 1 Tryz.underlying110 HI.out.1 HI.out.2.1 rfl HI.out.2.2.1 HI.out.2.2.2 (by decide) (.slice none 0 0) 0 [] rfl HSP.out ao nb ac (B.flatMap enB) rfl ?qc1 ?qc2 ?qc3 ?qc4 ?qc5 ?qc6 ?_)
  case qc1 => rw [flat_enB, List.length_map, ← HN.out]; exact (Nat.mul_one _).symm
  case qc2 => exact HSRC.out
  case qc3 => exact bytes_one B
  case qc4 => unfold maxLen; omega
  case qc5 => omega
  case qc6 => omega
  intro v' w3 hs3 hg3 _ _
  obtain ⟨vo, vc, rfl⟩ := row_form (Spare.own hs3)
  have HG3 := Lib.hid hg3
  have hF3 : w3.heap[F]? = some (.cells #[.slice none 0 0, .int .i64 0] 202 (0, 0)) := (hg3.block F (by omega) (fun e => by simp [Value.ownBlock] at e)).trans HFL.out
  have q3 : w3.cell? ⟨F, 0, none⟩ = some (.slice none 0 0) := by rw [cell_of_row w3 F 0 _ _ (0, 0) hF3]; rfl
  have f3 := frozen_of_row w3 F 0 _ _ hF3
  have HO4 := Lib.hid (HO5.out.more (w3 := w3) (v' := .slice vo (0 + nb) vc) (l' := B) (by unfold SpB; rw [← HN.out]; simpa using hs3) hg3)
  have HGO := Lib.hid (goes_any d m room s _ HO4.out.dk HS.out.1 HS.out.2)
  clear hs3 hg3 hF3 q0
  go_wp2_with fail
  have HGO2 := HGO
  simp only [Nat.zero_add] at HGO2
  refine HGO2.out.mono ?_
  rintro e w6 ⟨rfl, hd6, hg6⟩
  have HE := Lib.hid (And.intro hd6 hg6)
  clear hd6 hg6 HGO HGO2
  go_wp2_with fail
  go_ret
  have hml := HF.out.lt
  have hs1 := HB2.out.size
  have hs3 := HG3.out.size
  have hfe := HFE.out
  have HO4' := HO4.out
  simp only [Nat.zero_add] at HO4'
  refine ⟨F, _, rfl, HO4'.state HE.out.1 HE.out.2, ?_⟩
  have b1 : Below m w W1 := HB2.out.mono (by omega)
  have b2 : Below m W1 (W1.alloc (.cells #[.slice none 0 0, .int .i64 0] 202)) := (Below.refl _ _).alloc (by omega) _
  have b3 := below_at (B := m) HG5.out (by omega) (by simp; omega)
  have b4 : Below m w5 w3 := below_opt HG3.out (fun j hj => by simp [Value.ownBlock] at hj) (by omega)
  have b5 : Below m w3 (w3.setCell ⟨F, 0, none⟩ (.slice vo nb vc)) := below_at (d := F) (grown_setCell (World.grownBy.refl _ _) (Or.inl rfl) _) (by omega) (by omega)
  have b6 : Below m (w3.setCell ⟨F, 0, none⟩ (.slice vo nb vc)) w6 := below_at HE.out.2 (by omega) (by simp; omega)
  exact ((((b1.trans b2).trans b3).trans b4).trans b5).trans b6
end Go.Proofs.YtmjelcjdfamikaaGreatDoor.Dsk

namespace Go.Proofs.YtmjelcjdfamikaaGreatDoor.Trc
open Go.RowKit
set_option linter.unusedSectionVars false

/-- A variable, whole, of these cells. -/
def VarAt (w : World) (g : Nat) (t : TypeId) (l : List Value) : Prop := w.heap[g]? = some (.cells l.toArray t (0, 0))
section
variable {w w' : World} {g : Nat} {t : TypeId} {l : List Value}
theorem VarAt.lt (h : VarAt w g t l) : g < w.heap.size := (Array.getElem?_eq_some_iff.1 h).1
theorem VarAt.below (h : VarAt w g t l) (hb : Below w.heap.size w w') : VarAt w' g t l := (hb.block g h.lt).trans h
theorem VarAt.new (w : World) (t : TypeId) (l : List Value) : VarAt (w.alloc (.cells ⟨l⟩ t)) w.heap.size t l := heap_alloc_last w _
theorem VarAt.get (h : VarAt w g t l) {k : Nat} {v : Value} (hk : l[k]? = some v) : w.cell? ⟨g, k, none⟩ = some v := by
  rw [cell_of_row w g k _ _ (0, 0) h, List.getElem?_toArray]; exact hk
theorem VarAt.frozen (h : VarAt w g t l) (k : Nat) : w.frozen? ⟨g, k, none⟩ = false := frozen_of_row w g k _ _ h
theorem VarAt.load {P : Program} (h : VarAt w g t l) (o : Nat) (ty : TypeId) (cs : List Value) (d : TypeDesc) (hcs : (l.drop o).take cs.length = cs) (hu : P.underlying ty = some d) (hd : d.isRow = true) (hi : (P.info? ty).map (·.size) = some cs.length) :
    (Instr.loadAt ty (.pointer (some ⟨g, o, none⟩))).run P w = .ok (.agg ⟨cs⟩) w :=
  run_loadAt_mid w g o ty cs d (fun j v hv => h.get (by
    rw [← List.getElem?_drop]
    have hj := (List.getElem?_eq_some_iff.1 hv).1
    rw [← hcs, List.getElem?_take_of_lt hj] at hv
    exact hv)) hu hd hi
theorem VarAt.store {P : Program} (h : VarAt w g t l) (o : Nat) (ty : TypeId) (cs : List Value) (ho : o + cs.length ≤ l.length) (hi : (P.info? ty).map (·.size) = some cs.length) (h1 : cs.all (·.oneCell') = true) :
    (Instr.storeAt ty (.pointer (some ⟨g, o, none⟩)) (.agg ⟨cs⟩)).run P w = .ok () (w.setRow g (l.take o ++ cs ++ l.drop (o + cs.length)).toArray) := by
  have := run_storeCells_at (P := P) g o t cs 0 l.toArray w h (by simpa using ho) (fun v hv => List.all_eq_true.1 h1 v hv)
  cases hq : P.info? ty with
  | none => simp [hq] at hi
  | some i =>
    have hs : cs.length = i.size := by simp [hq] at hi; omega
    simp only [Nat.add_zero] at this
    simp only [Instr.storeAt, Instr.sureAddr, Sem.run_bind, Sem.run_pure, Result.andThen_ok]
    simp [storeVar, sizeOf, typeInfo, hq, Value.cells, hs] at this ⊢
    rw [this]
theorem VarAt.storeK {P : Program} (h : VarAt w g t l) (o : Nat) (ty : TypeId) (cs : List Value) {l' : List Value} (ho : Nat.ble (o + cs.length) l.length = true) (hi : (P.info? ty).map (·.size) = some cs.length) (h1 : cs.all (·.oneCell') = true) (hl : l.take o ++ cs ++ l.drop (o + cs.length) = l') :
    (Instr.storeAt ty (.pointer (some ⟨g, o, none⟩)) (.agg ⟨cs⟩)).run P w = .ok () (w.setRow g ⟨l'⟩) := by
  rw [← hl]; exact h.store o ty cs (Nat.le_of_ble_eq_true ho) hi h1
theorem VarAt.storeAll {P : Program} (h : VarAt w g t l) (ty : TypeId) (n : Nat) (cs : List Value) (hn : cs.length = n) (hl : l.length = n) (hi : (P.info? ty).map (·.size) = some n) (h1 : cs.all (·.oneCell') = true) :
    (Instr.storeAt ty (.pointer (some ⟨g, 0, none⟩)) (.agg ⟨cs⟩)).run P w = .ok () (w.setRow g ⟨cs⟩) :=
  h.storeK 0 ty cs (Nat.ble_eq_true_of_le (by omega)) (by rw [hn]; exact hi) h1 (by rw [List.drop_eq_nil_of_le (by omega)]; simp)
theorem VarAt.loadAll {P : Program} (h : VarAt w g t l) (ty : TypeId) (n : Nat) (hl : l.length = n) (d : TypeDesc) (hu : P.underlying ty = some d) (hd : d.isRow = true) (hi : (P.info? ty).map (·.size) = some n) :
    (Instr.loadAt ty (.pointer (some ⟨g, 0, none⟩))).run P w = .ok (.agg ⟨l⟩) w :=
  h.load 0 ty l d (by simp) hu hd (by rw [hl]; exact hi)
theorem VarAt.row (h : VarAt w g t l) (l' : List Value) : VarAt (w.setRow g l'.toArray) g t l' := setRow_heap w g _ _ t _ h
theorem VarAt.set (h : VarAt w g t l) (i : Nat) (v : Value) : VarAt (w.setCell ⟨g, i, none⟩ v) g t (l.set i v) := by
  have h2 := heap_setCell_same w g i l.toArray _ v h
  unfold VarAt
  rw [h2]
  simp
theorem VarAt.setK (h : VarAt w g t l) (i : Nat) (v : Value) {l' : List Value} (hl : l.set i v = l') : VarAt (w.setCell ⟨g, i, none⟩ v) g t l' := by rw [← hl]; exact h.set i v
theorem VarAt.row_other (h : VarAt w g t l) {g' : Nat} (cs : Array Value) (hne : g ≠ g') : VarAt (w.setRow g' cs) g t l := (setRow_other w g' g cs hne).trans h
theorem VarAt.set_other (h : VarAt w g t l) {g' : Nat} (i : Nat) (v : Value) (hne : g ≠ g') : VarAt (w.setCell ⟨g', i, none⟩ v) g t l := (RowKit.Below.heap_setCell w ⟨g', i, none⟩ v g hne).trans h
end
/-- What is of another type than this stays. -/
structure KeepT (t : TypeId) (w w' : World) : Prop where
  size : w.heap.size ≤ w'.heap.size
  same : ∀ (k : Nat) (c : Array Value) (e : TypeId) (fr : Nat × Nat), w.heap[k]? = some (.cells c e fr) → e ≠ t → w'.heap[k]? = some (.cells c e fr)
section
variable {w w' w'' : World} {g : Nat} {t : TypeId} {l : List Value}
theorem KeepT.refl (t : TypeId) (w : World) : KeepT t w w := ⟨Nat.le_refl _, fun _ _ _ _ h _ => h⟩
theorem KeepT.trans (h : KeepT t w w') (k : KeepT t w' w'') : KeepT t w w'' := ⟨Nat.le_trans h.size k.size, fun i c e fr h1 h2 => k.same i c e fr (h.same i c e fr h1 h2) h2⟩
theorem KeepT.below (h : Below w.heap.size w w') : KeepT t w w' := ⟨h.size, fun k c e fr h1 _ => (h.block k (Array.getElem?_eq_some_iff.1 h1).1).trans h1⟩
theorem KeepT.row (h : VarAt w g t l) (cs : Array Value) : KeepT t w (w.setRow g cs) := ⟨by simp, fun k c e fr h1 h2 => by
  have hne : k ≠ g := fun e' => by
    subst e'
    rw [show w.heap[k]? = _ from h] at h1
    cases h1
    exact h2 rfl
  exact (setRow_other w g k cs hne).trans h1⟩
theorem KeepT.set (h : VarAt w g t l) (i : Nat) (v : Value) : KeepT t w (w.setCell ⟨g, i, none⟩ v) := ⟨by simp, fun k c e fr h1 h2 => by
  have hne : k ≠ g := fun e' => by
    subst e'
    rw [show w.heap[k]? = _ from h] at h1
    cases h1
    exact h2 rfl
  exact (RowKit.Below.heap_setCell w ⟨g, i, none⟩ v k hne).trans h1⟩
theorem KeepT.own (h : KeepT t w w') {base : Nat} {e : TypeId} {sz n : Nat} {v : Value} {xs : List Value} (hr : w.ownsRow base e sz v n xs) (hne : e ≠ t) : w'.ownsRow base e sz v n xs := by
  refine ⟨hr.1, ?_⟩
  rcases hr.2 with h2 | ⟨g, cap, cur, h1, h2, h3, h4⟩
  · exact Or.inl h2
  · exact Or.inr ⟨g, cap, cur, h1, h2, h.same g _ _ _ h3 hne, h4⟩
end
/-- A load, or a store, of a whole struct, by what its run is: not opened cell by cell. -/
theorem wpList_load_run {P : Program} {w : World} {ops : Array Oper} {rest : List Oper} {o : Oper} {a : Act} {Q : Exit → Act → World → Prop} (hg : o.guard = none) (ty : TypeId) (x : Operand) (hop : o.op = .load ty x)
    (p V : Value) (hx : a.eval x = p) (hld : (Instr.loadAt ty p).run P w = .ok V w) (h : wpList P ops Q rest (a.put o.dst V) w) : wpList P ops Q (o :: rest) a w := by
  refine wpList_plain hg fun K hK => ?_
  unfold Oper.wp execOp
  simp only [hop, hx, hld, Sem.run_bind, Sem.run_pure, Result.andThen_ok]
  exact hK _ _ h
theorem wpList_store_run {P : Program} {w w' : World} {ops : Array Oper} {rest : List Oper} {o : Oper} {a : Act} {Q : Exit → Act → World → Prop} (hg : o.guard = none) (ty : TypeId) (x y : Operand) (hop : o.op = .store ty x y)
    (p V : Value) (hx : a.eval x = p) (hy : a.eval y = V) (hst : (Instr.storeAt ty p V).run P w = .ok () w') (h : wpList P ops Q rest (a.put o.dst undef) w') : wpList P ops Q (o :: rest) a w := by
  refine wpList_plain hg fun K hK => ?_
  unfold Oper.wp execOp
  simp only [hop, hx, hy, hst, Sem.run_bind, Sem.run_pure, Result.andThen_ok]
  exact hK _ _ h
theorem setRow_below {n : Nat} {w0 w : World} (h : Below n w0 w) (g : Nat) (hg : n ≤ g) (cs : Array Value) : Below n w0 (w.setRow g cs) := below_setRow h hg cs
end Go.Proofs.YtmjelcjdfamikaaGreatDoor.Trc
