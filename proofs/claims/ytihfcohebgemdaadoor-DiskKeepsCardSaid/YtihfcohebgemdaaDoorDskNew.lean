/- Layer 11 (disk): Append of a new file. -/
import Derived.Test.YtihfcohebgemdaaDoorDskApp
set_option linter.unusedSimpArgs false
set_option linter.unusedVariables false
namespace Go.Proofs.YtihfcohebgemdaaDoor.Dsk
open Go.RowKit Go.Maps Go.Sort Go.Proofs.YtihfcohebgemdaaDoor.Mrk Go.Proofs.YtihfcohebgemdaaDoor.Spare

theorem ptrR_nil {v : Value} {ps : List MemPlace} (h : ptrR v = some (.nil, ps)) : v = .pointer none := by
  obtain ⟨c, rfl⟩ := ptrR_inv h
  cases c with
  | none => rfl
  | some j => simp [mkP, ptrR] at h
theorem row_kept {w w' : World} {m : Nat} {v : Value} {l : List Nat} (h : BRow w v l) (hg : w.grownBy w' (some m)) (hm : ∃ es clock, w.heap[m]? = some (.map es clock)) : BRow w' v l := by
  obtain ⟨ao, cap, hv, h1, h2, h3⟩ := h
  refine ⟨ao, cap, hv, h1, h2, ?_⟩
  rcases h3 with h3 | ⟨b, off, ha, hlt, hc⟩
  · exact Or.inl h3
  · by_cases hl : l.length = 0
    · exact Or.inl hl
    · have hne : b ≠ m := by
        rintro rfl
        obtain ⟨es, clock, hm⟩ := hm
        obtain ⟨x, t, rfl⟩ := List.exists_cons_of_ne_nil (l := l) (fun e => hl (by rw [e]; rfl))
        have := hc 0 x rfl 0 (by decide)
        simp [World.cell?, hm, enB] at this
      exact Or.inr ⟨b, off, ha, Nat.lt_of_lt_of_le hlt hg.size, fun i x hi j hj => (World.cell?_of_block (a := ⟨b, off + i * 1 + j, none⟩) (hg.block b hlt (fun e => hne (by injection e)))).trans (hc i x hi j hj)⟩
def NewFP (d m : Nat) (room : Int) (s : St) (nm : ByteArray) (l : List Nat) (w : World) (e : Ending) (w' : World) : Prop :=
  ∃ F, AppP d m F room s nm l 0 w e w'

set_option maxRecDepth 100000 in
set_option maxHeartbeats 2000000 in
theorem append_new (d m : Nat) (room : Int) (s : St) (nm : ByteArray) (vb : Value) (B : List Nat) (w : World) (hd0 : DkAt w d m room s) (hf0 : Files w m none) (hmd : m < d) (hoff : s.off = false) (hs : Few s) (hnm : nm.size ≤ maxLen)
    (hk : Calls Tryd.prog 14 #[.string nm] w fun e w' => e = .returned (.bool true) ∧ Below w.heap.size w w') (hb : BRow w vb B) (hroom : (B.length : Int) ≤ room) (hr : room ≤ 100000) :
    Calls Tryd.prog 5 #[.pointer (some ⟨d, 0, none⟩), .string nm, vb] w (NewFP d m room s nm B w) := by
  obtain ⟨ao, ac, rfl, -, -⟩ := Lst.form hb
  obtain ⟨i0, hi, hz0, hz1, hz2⟩ := info_parts_B
  have HI := Lib.hid (And.intro hi (And.intro hz0 (And.intro hz1 hz2)))
  have HB := Lib.hid hb
  have HD := Lib.hid hd0
  have HF := Lib.hid hf0
  have HK := Lib.hid hk
  have HS := Lib.hid hs
  have HMD := Lib.hid hmd
  have hdk := hd0
  unfold DkAt at hdk
  have c0 : w.cell? ⟨d, 0, none⟩ = some (.map (some m)) := by rw [cell_of_row w d 0 _ _ (0, 0) hdk]; rfl
  have c2 : w.cell? ⟨d, 2, none⟩ = some (.bool false) := by rw [cell_of_row w d 2 _ _ (0, 0) hdk, ← hoff]; rfl
  obtain ⟨nb, hnb⟩ : ∃ n, n = B.length := ⟨_, rfl⟩
  rw [← hnb] at hroom
  rw [← hnb] at HB ⊢
  have HN := Lib.hid hnb
  have hdlt := hd0.lt
  clear hd0 hf0 hb hk hs hdk hnb hi hz0 hz1 hz2 hoff hmd
  go_enter Tryd.func5, Tryd.ntmps5
  go_wp2_with (first
    | (at_lookup; refine wpList_lookup_own_ok _ rfl _ _ 37 rfl 9 40 law Tryd.underlying37 ptrR (Tryd.zeroValue40 _) .nil [] rfl m _ _ rfl HF.out _ _ rfl (key hnm) ?_; intro v ps hv; have hvp := ptrR_nil (ps := ps) hv; subst hvp; rw [show Maps.has (.map (entr none)) (.string nm.data.toList) = false from rfl]; clear hv))
  refine HK.out.mono ?_
  rintro e w1 ⟨rfl, hb1⟩
  have hg1 : w.grownBy w1 none := ⟨hb1.os, hb1.tape, hb1.output, hb1.size, fun i hi _ => hb1.block i hi⟩
  have HD1 := Lib.hid (show DkAt w1 d m room s from (hb1.block d hdlt).trans HD.out)
  have HF1 := Lib.hid (HF.out.kept hg1 (by simp))
  have HB1 := Lib.hid hb1
  have HBR := Lib.hid (HB.out.below hb1)
  have gx : ∀ (x : BW w1), w1.grownBy x.at none := fun x => ⟨x.below.os, x.below.tape, x.below.output, x.below.size, fun i hi _ => x.below.block i hi⟩
  have hU := fun (x : BW w1) => used_any d m room s none 0 x.at ((x.below.block d HD1.out.lt).trans HD1.out) (HF1.out.kept (gx x) (by simp)) (fun nm' F' e => by cases e) (fun _ => rfl) (by omega)
  have HU := Lib.hid hU
  have hlen : ∀ (x : BW w1) (ty : TypeId), (Builtin.len_ #[37] ty #[.map (some m)]).run Tryd.prog x.at = .ok (.int .i64 0) x.at := fun x ty => World.ownsMap.len (HF1.out.kept (gx x) (by simp)) Tryd.underlying37 ty
  have hdk := HD1.out
  unfold DkAt at hdk
  have a0 : w1.cell? ⟨d, 0, none⟩ = some (.map (some m)) := by rw [cell_of_row w1 d 0 _ _ (0, 0) hdk]; rfl
  have a1 : w1.cell? ⟨d, 1, none⟩ = some (.int .i64 room) := by rw [cell_of_row w1 d 1 _ _ (0, 0) hdk]; rfl
  have hdl : d < w1.heap.size := HD1.out.lt
  clear c0 c2 hb1 hU hdk hg1 gx hdlt
  go_wp2_with fail
  refine wp_region_calm (by kernel_rfl) (by kernel_rfl) ?_
  repeat (go_big_quiet_step ((go_at_call 15; exact calm (HU.out _))))
  refine wpQuiet_nil ?_
  rintro _ ⟨y, rfl⟩
  obtain ⟨W1, hW1⟩ : ∃ W1, W1 = y.at := ⟨_, rfl⟩
  have hz := y.below
  rw [← hW1] at hz ⊢
  have hgz : w1.grownBy W1 none := ⟨hz.os, hz.tape, hz.output, hz.size, fun i hi _ => hz.block i hi⟩
  have HDW := Lib.hid (show DkAt W1 d m room s from (hz.block d HD1.out.lt).trans HD1.out)
  have HFW := Lib.hid (HF1.out.kept hgz (by simp))
  have HB2 := Lib.hid (below_then HB1.out (Nat.le_refl _) hz)
  have HBR2 := Lib.hid (HBR.out.below hz)
  have hdW : d < W1.heap.size := HDW.out.lt
  have hdk := HDW.out
  unfold DkAt at hdk
  have b0 : W1.cell? ⟨d, 0, none⟩ = some (.map (some m)) := by rw [cell_of_row W1 d 0 _ _ (0, 0) hdk]; rfl
  have n0 : ∀ o : Obj, (W1.alloc o).cell? ⟨d, 0, none⟩ = some (.map (some m)) := fun o => (((Below.refl W1.heap.size W1).alloc (Nat.le_refl _) o).cell (p := ⟨d, 0, none⟩) hdW).trans b0
  have HFA := Lib.hid (fun o : Obj => show (W1.alloc o).ownsMap Tryd.prog 9 ptrR m 0 (.map []) from HFW.out.kept (row := none) (World.grownBy_alloc _ _ none) (by simp))
  clear hW1 y hz hgz a0 a1 hdl hlen hdk b0
  go_upto_region 11 with (at_mapUpdate; refine wpList_mapUpdate_own _ rfl _ _ _ 37 rfl 9 40 law Tryd.underlying37 ptrR m 0 (.map []) rfl (HFA.out _) (by unfold maxLen; omega) _ _ (.string nm.data.toList) rfl rfl (key hnm) (.lit (.int .u64 W1.heap.size)) [] rfl ?_; intro w5 hf5 hg5)
  obtain ⟨F, hF⟩ : ∃ F, F = W1.heap.size := ⟨_, rfl⟩
  rw [← hF] at hf5 ⊢
  have hmd := HMD.out
  have HO5 := Lib.hid (show One w5 d m F room s nm (.slice none 0 0) [] 0 from ⟨(hg5.block d (by simp; omega) (fun e => by injection e with e; omega)).trans ((Below.heap_alloc W1 _ d hdW).trans HDW.out), hf5, (hg5.block F (by rw [hF]; simp) (fun e => by injection e with e; omega)).trans (by rw [hF]; exact heap_alloc_new W1 _), Spare.nil _ _ _ _, hmd, by omega⟩)
  have HG5 := Lib.hid hg5
  have hs5 : F + 1 ≤ w5.heap.size := by have := hg5.size; simp at this; omega
  have HBR5 := Lib.hid (row_kept (HBR2.out.below ((Below.refl W1.heap.size W1).alloc (Nat.le_refl _) (.cells #[.slice none 0 0, .int .i64 0] 45))) hg5 (by obtain ⟨es, clock, hh, _⟩ := (HFA.out (.cells #[.slice none 0 0, .int .i64 0] 45)); exact ⟨es, clock, hh⟩))
  have HSRC := Lib.hid (Mut.lst_src enB_len (by decide) HBR5.out)
  have hfl := HO5.out.file
  unfold FAt at hfl
  have q0 : w5.cell? ⟨F, 0, none⟩ = some (.slice none 0 0) := by rw [cell_of_row w5 F 0 _ _ (0, 0) hfl]; rfl
  have HFL := Lib.hid hfl
  have HSP := Lib.hid (show Spare w5 (F + 1) 5 [.int .u8 0] (.slice none 0 0) 0 [] from Spare.nil _ _ _ _)
  have HFE := Lib.hid hF
  clear hf5 hg5 hfl n0 hF
  go_wp2_with (at_builtin; refine wpList_append_spareAny rfl _ _ 22 rfl (F + 1) 5 i0 (.int .u8 0) [.int .u8 0] 1 Tryd.underlying22 HI.out.1 HI.out.2.1 rfl HI.out.2.2.1 HI.out.2.2.2 (by decide) (.slice none 0 0) 0 [] rfl HSP.out ao nb ac (B.flatMap enB) rfl ?qc1 ?qc2 ?qc3 ?qc4 ?qc5 ?qc6 ?_)
  case qc1 => rw [flat_enB, List.length_map, ← HN.out]; exact (Nat.mul_one _).symm
  case qc2 => exact HSRC.out
  case qc3 => exact bytes_one B
  case qc4 => unfold maxLen; omega
  case qc5 => omega
  case qc6 => omega
  intro v' w3 hs3 hg3 _ _
  obtain ⟨vo, vc, rfl⟩ := row_form (Spare.own hs3)
  have HG3 := Lib.hid hg3
  have hF3 : w3.heap[F]? = some (.cells #[.slice none 0 0, .int .i64 0] 45 (0, 0)) := (hg3.block F (by omega) (fun e => by simp [Value.ownBlock] at e)).trans HFL.out
  have q3 : w3.cell? ⟨F, 0, none⟩ = some (.slice none 0 0) := by rw [cell_of_row w3 F 0 _ _ (0, 0) hF3]; rfl
  have f3 := frozen_of_row w3 F 0 _ _ hF3
  have HO4 := Lib.hid (HO5.out.more (w3 := w3) (v' := .slice vo (0 + nb) vc) (l' := B) (by unfold SpB; rw [← HN.out]; simpa using hs3) hg3)
  have HGO := Lib.hid (goes_any d m room s _ HO4.out.dk HS.out.1 HS.out.2)
  clear hs3 hg3 hF3 q0
  go_wp2_with fail
  have HGO2 := HGO
  simp only [Nat.zero_add] at HGO2
  refine HGO2.out.mono ?_
  rintro e w6 ⟨rfl, hd6, hg6⟩
  have HE := Lib.hid (And.intro hd6 hg6)
  clear hd6 hg6 HGO HGO2
  go_wp2_with fail
  go_ret
  have hml := HF.out.lt
  have hs1 := HB2.out.size
  have hs3 := HG3.out.size
  have hfe := HFE.out
  have HO4' := HO4.out
  simp only [Nat.zero_add] at HO4'
  refine ⟨F, _, rfl, HO4'.state HE.out.1 HE.out.2, ?_⟩
  have b1 : Below m w W1 := HB2.out.mono (by omega)
  have b2 : Below m W1 (W1.alloc (.cells #[.slice none 0 0, .int .i64 0] 45)) := (Below.refl _ _).alloc (by omega) _
  have b3 := below_at (B := m) HG5.out (by omega) (by simp; omega)
  have b4 : Below m w5 w3 := below_opt HG3.out (fun j hj => by simp [Value.ownBlock] at hj) (by omega)
  have b5 : Below m w3 (w3.setCell ⟨F, 0, none⟩ (.slice vo nb vc)) := below_at (d := F) (grown_setCell (World.grownBy.refl _ _) (Or.inl rfl) _) (by omega) (by omega)
  have b6 : Below m (w3.setCell ⟨F, 0, none⟩ (.slice vo nb vc)) w6 := below_at HE.out.2 (by omega) (by simp; omega)
  exact ((((b1.trans b2).trans b3).trans b4).trans b5).trans b6
end Go.Proofs.YtihfcohebgemdaaDoor.Dsk
