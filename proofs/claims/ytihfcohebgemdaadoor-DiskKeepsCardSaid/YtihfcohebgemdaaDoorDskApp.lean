/- Layer 11 (disk): Append. -/
import Derived.Test.YtihfcohebgemdaaDoorDskSync
set_option linter.unusedSimpArgs false
set_option linter.unusedVariables false
namespace Go.Proofs.YtihfcohebgemdaaDoor.Dsk
open Go.RowKit Go.Maps Go.Sort Go.Proofs.YtihfcohebgemdaaDoor.Mrk Go.Proofs.YtihfcohebgemdaaDoor.Spare

/-- More bytes at the file's end. -/
theorem One.more {w w3 : World} {d m F : Nat} {room : Int} {s : St} {nm : ByteArray} {bv v' : Value} {l l' : List Nat} {k : Nat} (h : One w d m F room s nm bv l k) (hs : SpB w3 (F + 1) v' l') (hg : w.grownBy w3 bv.ownBlock) : One (w3.setCell ⟨F, 0, none⟩ v') d m F room s nm v' l' k := by
  have h1 := h.md; have h2 := h.dF
  have hr : ∀ j, bv.ownBlock = some j → F + 1 ≤ j := fun j hj => ((Spare.own h.row).lt j hj).1
  have hg2 : w3.grownBy (w3.setCell ⟨F, 0, none⟩ v') (some F) := grown_setCell (World.grownBy.refl _ _) (Or.inl rfl) _
  have hd : w3.heap[d]? = w.heap[d]? := hg.block d h.dk.lt (fun e => by have := hr d e.symm; omega)
  have hF : w3.heap[F]? = w.heap[F]? := hg.block F h.Flt (fun e => by have := hr F e.symm; omega)
  have hf3 : Files w3 m (some (nm, F)) := h.files.kept hg (fun e => by have := hr m e.symm; omega)
  have hsz := hg.size
  refine ⟨(hg2.block d (by have := h.dk.lt; omega) (fun e => by injection e with e; omega)).trans (hd.trans h.dk), hf3.kept hg2 (fun e => by injection e with e; omega), heap_setCell_same w3 F 0 _ _ _ (hF.trans h.file), Spare.kept hs hg2 (Or.inr fun e => ?_), h1, h2⟩
  have := ((Spare.own hs).lt F e).1
  omega

theorem below_opt {w w' : World} {B : Nat} {r : Option Nat} (hg : w.grownBy w' r) (hr : ∀ j, r = some j → B ≤ j) (hs : B ≤ w.heap.size) : Below B w w' :=
  ⟨hg.os, hg.tape, hg.output, hg.size, fun i hi => hg.block i (by omega) (fun e => by have := hr i e.symm; omega)⟩

def AppP (d m F : Nat) (room : Int) (s : St) (nm : ByteArray) (l : List Nat) (k : Nat) (w : World) (e : Ending) (w' : World) : Prop :=
  ∃ bv', e = .returned (.int .i64 (goesS s).1) ∧ One w' d m F room (goesS s).2 nm bv' l k ∧ Below m w w'

set_option maxRecDepth 100000 in
set_option maxHeartbeats 2000000 in
theorem append_more (d m F : Nat) (room : Int) (s : St) (nm : ByteArray) (bv : Value) (l : List Nat) (k : Nat) (vb : Value) (B : List Nat) (w : World) (h : One w d m F room s nm bv l k) (hoff : s.off = false) (hs : Few s) (hnm : nm.size ≤ maxLen)
    (hk : Calls Tryd.prog 14 #[.string nm] w fun e w' => e = .returned (.bool true) ∧ Below w.heap.size w w') (hb : BRow w vb B) (hroom : ((l.length + B.length : Nat) : Int) ≤ room) (hr : room ≤ 100000) :
    Calls Tryd.prog 5 #[.pointer (some ⟨d, 0, none⟩), .string nm, vb] w (AppP d m F room s nm (l ++ B) k w) := by
  obtain ⟨ao, ac, rfl, -, -⟩ := Lst.form hb
  obtain ⟨bo, bc, rfl⟩ := row_form (Spare.own h.row)
  obtain ⟨i0, hi, hz0, hz1, hz2⟩ := info_parts_B
  have HI := Lib.hid (And.intro hi (And.intro hz0 (And.intro hz1 hz2)))
  have HB := Lib.hid hb
  have HO := Lib.hid h
  have HK := Lib.hid hk
  have HS := Lib.hid hs
  have hdk := h.dk
  unfold DkAt at hdk
  have c0 : w.cell? ⟨d, 0, none⟩ = some (.map (some m)) := by rw [cell_of_row w d 0 _ _ (0, 0) hdk]; rfl
  have c2 : w.cell? ⟨d, 2, none⟩ = some (.bool false) := by rw [cell_of_row w d 2 _ _ (0, 0) hdk, ← hoff]; rfl
  obtain ⟨n, hn⟩ : ∃ n, n = l.length := ⟨_, rfl⟩
  obtain ⟨nb, hnb⟩ : ∃ n, n = B.length := ⟨_, rfl⟩
  rw [← hn, ← hnb] at hroom
  rw [← hn] at HO
  rw [← hnb] at HB ⊢
  have HN := Lib.hid (And.intro hn hnb)
  clear h hb hk hs hdk hn hnb hi hz0 hz1 hz2 hoff
  go_enter Tryd.func5, Tryd.ntmps5
  go_wp2_with (first
    | (at_lookup; refine wpList_lookup_own_ok _ rfl _ _ 37 rfl 9 40 law Tryd.underlying37 ptrR (Tryd.zeroValue40 _) .nil [] rfl m _ _ rfl HO.out.files _ _ rfl (key hnm) ?_; intro v ps hv; rw [at_one] at hv; have hvp := ptrR_some hv; subst hvp; rw [has_one]; clear hv))
  refine HK.out.mono ?_
  rintro e w1 ⟨rfl, hb1⟩
  have HO1 := Lib.hid (HO.out.below hb1)
  have HB1 := Lib.hid hb1
  have HBR := Lib.hid (HB.out.below hb1)
  have hU := fun (x : BW w1) => used_any d m room s (some (nm, F)) n x.at (HO1.out.below x.below).dk (HO1.out.below x.below).files (fun nm' F' e => by injection e with e; injection e with e1 e2; subst e2; exact ⟨bo, bc, k, (HO1.out.below x.below).file⟩) (fun e => by cases e) (by omega)
  have HU := Lib.hid hU
  have hdk := HO1.out.dk
  unfold DkAt at hdk
  have a1 : w1.cell? ⟨d, 1, none⟩ = some (.int .i64 room) := by rw [cell_of_row w1 d 1 _ _ (0, 0) hdk]; rfl
  have hdl : d < w1.heap.size := HO1.out.dk.lt
  clear c0 c2 hb1 hU hdk
  go_wp2_with fail
  refine wp_region_calm (by kernel_rfl) (by kernel_rfl) ?_
  repeat (go_big_quiet_step ((go_at_call 15; exact calm (HU.out _))))
  refine wpQuiet_nil ?_
  rintro _ ⟨y, rfl⟩
  obtain ⟨W1, hW1⟩ : ∃ W1, W1 = y.at := ⟨_, rfl⟩
  have hz := y.below
  rw [← hW1] at hz ⊢
  have HZ := Lib.hid (HO1.out.below hz)
  have HB2 := Lib.hid (below_then HB1.out (Nat.le_refl _) hz)
  have HBR2 := Lib.hid (HBR.out.below hz)
  clear hW1 y hz a1 hdl
  have hF := HZ.out.file
  unfold FAt at hF
  have q0 : W1.cell? ⟨F, 0, none⟩ = some (.slice bo n bc) := by rw [cell_of_row W1 F 0 _ _ (0, 0) hF]; rfl
  have HSP := Lib.hid (show Spare W1 (F + 1) 5 [.int .u8 0] (.slice bo n bc) n (l.flatMap enB) from by have h := HZ.out.row; have e := HN.out.1; unfold SpB at h; rw [← e] at h; exact h)
  have HSRC := Lib.hid (Mut.lst_src enB_len (by decide) HBR2.out)
  have HF := Lib.hid hF
  have hFlt := HZ.out.Flt
  clear hF
  go_wp2_with (at_builtin; refine wpList_append_spareAny rfl _ _ 22 rfl (F + 1) 5 i0 (.int .u8 0) [.int .u8 0] 1 Tryd.underlying22 HI.out.1 HI.out.2.1 rfl HI.out.2.2.1 HI.out.2.2.2 (by decide) (.slice bo n bc) n (l.flatMap enB) rfl HSP.out ao nb ac (B.flatMap enB) rfl ?qc1 ?qc2 ?qc3 ?qc4 ?qc5 ?qc6 ?_)
  case qc1 => rw [flat_enB, List.length_map, ← HN.out.2]; exact (Nat.mul_one _).symm
  case qc2 => exact HSRC.out
  case qc3 => exact bytes_one B
  case qc4 => unfold maxLen; omega
  case qc5 => omega
  case qc6 => omega
  intro v' w3 hs3 hg3 _ _
  obtain ⟨vo, vc, rfl⟩ := row_form (Spare.own hs3)
  have HG3 := Lib.hid hg3
  have HR3 := Lib.hid (show ∀ j, (Value.slice bo n bc).ownBlock = some j → F + 1 ≤ j from fun j hj => (HSP.out.own.lt j hj).1)
  have hF3 : w3.heap[F]? = some (.cells #[.slice bo n bc, .int .i64 k] 45 (0, 0)) := (hg3.block F hFlt (fun e => by have := HR3.out F e.symm; omega)).trans HF.out
  have q3 : w3.cell? ⟨F, 0, none⟩ = some (.slice bo n bc) := by rw [cell_of_row w3 F 0 _ _ (0, 0) hF3]; rfl
  have f3 := frozen_of_row w3 F 0 _ _ hF3
  have HO4 := Lib.hid (HZ.out.more (w3 := w3) (v' := .slice vo (n + nb) vc) (l' := l ++ B) (by unfold SpB; rw [List.length_append, List.flatMap_append, ← HN.out.1, ← HN.out.2]; exact hs3) hg3)
  have HGO := Lib.hid (goes_any d m room s _ HO4.out.dk HS.out.1 HS.out.2)
  clear hs3 hg3 hF3 q0
  go_wp2_with fail
  refine HGO.out.mono ?_
  rintro e w5 ⟨rfl, hd5, hg5⟩
  have HE := Lib.hid (And.intro (HO4.out.state hd5 hg5) hg5)
  clear hd5 hg5
  go_wp2_with fail
  go_ret
  have hmd := HO.out.md
  have hdF := HO.out.dF
  have hml := HO.out.files.lt
  have hs1 := HB2.out.size
  have hs3 := HG3.out.size
  refine ⟨_, rfl, HE.out.1, ?_⟩
  have b1 : Below m w W1 := HB2.out.mono (by omega)
  have b2 : Below m W1 w3 := below_opt HG3.out (fun j hj => by have := HR3.out j hj; omega) (by omega)
  have b3 : Below m w3 (w3.setCell ⟨F, 0, none⟩ (.slice vo (n + nb) vc)) := below_at (d := F) (grown_setCell (World.grownBy.refl _ _) (Or.inl rfl) _) (by omega) (by omega)
  have b4 : Below m (w3.setCell ⟨F, 0, none⟩ (.slice vo (n + nb) vc)) w5 := below_at HE.out.2 (by omega) (by simp; omega)
  exact ((b1.trans b2).trans b3).trans b4
end Go.Proofs.YtihfcohebgemdaaDoor.Dsk
