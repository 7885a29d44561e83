/- Layer 11 (disk): Up. -/
import Derived.Test.YtihfcohebgemdaaDoorDskApp
import Derived.Test.YtihfcohebgemdaaDoorDskNames
set_option linter.unusedSimpArgs false
set_option linter.unusedVariables false
namespace Go.Proofs.YtihfcohebgemdaaDoor.Dsk
open Go.RowKit Go.Maps Go.Sort Go.Proofs.YtihfcohebgemdaaDoor.Mrk Go.Proofs.YtihfcohebgemdaaDoor.Spare

/-- How much is left. -/
def upN (n k : Nat) (keep : Int) : Nat := k + (max keep 0).toNat % (n - k + 1)
theorem upN_le {n k : Nat} {keep : Int} (h : k ≤ n) : k ≤ upN n k keep ∧ upN n k keep ≤ n := by
  unfold upN
  have := Nat.mod_lt (max keep 0).toNat (show 0 < n - k + 1 by omega)
  omega
theorem names_call (d : Nat) (w : World) : Calls Tryd.prog 19 #[.pointer (some ⟨d, 0, none⟩)] w fun e w' =>
      e = .returned (.func (.func 23) #[] #[.pointer (some ⟨w.heap.size, 0, none⟩)]) ∧ w' = w.alloc (.cells #[.pointer (some ⟨d, 0, none⟩)] 25) := callsIn_wide.1 (names_in 1 d w)

theorem row_take {w : World} {bo : Option Addr} {bc : Nat} {l : List Nat} (h : BRow w (.slice bo l.length bc) l) {n : Nat} (hn : n ≤ l.length) : BRow w (.slice bo n bc) (l.take n) := by
  obtain ⟨ao, cap, hv, h1, h2, h3⟩ := h
  injection hv with e1 e2 e3
  subst e1 e3
  have hl : (l.take n).length = n := by rw [List.length_take]; omega
  refine ⟨bo, bc, by rw [hl], by rw [hl]; omega, h2, ?_⟩
  rcases h3 with h3 | ⟨b, off, ha, hlt, hc⟩
  · exact Or.inl (by rw [hl]; omega)
  · refine Or.inr ⟨b, off, ha, hlt, fun i x hi j hj => hc i x ?_ j hj⟩
    rw [List.getElem?_take] at hi
    split at hi
    · exact hi
    · cases hi
def UpP (d m F : Nat) (room : Int) (s : St) (nm : ByteArray) (l : List Nat) (k : Nat) (w : World) (e : Ending) (w' : World) : Prop := ∃ bv', e = .returned (.tuple #[]) ∧ One w' d m F room s nm bv' l k ∧ Below m w w'
set_option maxRecDepth 100000 in
set_option maxHeartbeats 1000000 in
theorem up_any (d m F : Nat) (room : Int) (s : St) (nm : ByteArray) (bv : Value) (l : List Nat) (k : Nat) (keep : Int) (w : World) (h : One w d m F room s nm bv l k) (hoff : s.off = true) (hk0 : 0 < k) (hk : k ≤ l.length) (hl : l.length ≤ 100000) (hnm : nm.size ≤ maxLen) (hkp : -9223372036854775808 ≤ keep ∧ keep ≤ 9223372036854775807) :
    Calls Tryd.prog 9 #[.pointer (some ⟨d, 0, none⟩), .int .i64 keep] w (UpP d m F room { s with off := false } nm (l.take (upN l.length k keep)) (upN l.length k keep) w) := by
  have hdk := h.dk
  unfold DkAt at hdk
  have c2 : w.cell? ⟨d, 2, none⟩ = some (.bool true) := by rw [cell_of_row w d 2 _ _ (0, 0) hdk, ← hoff]; rfl
  have f2 := frozen_of_row w d 2 _ _ hdk
  have hg1 : w.grownBy (w.setCell ⟨d, 2, none⟩ (.bool false)) (some d) := grown_setCell (World.grownBy.refl _ _) (Or.inl rfl) _
  have HO1 := Lib.hid (h.state (s' := { s with off := false }) (heap_setCell_same w d 2 _ _ _ hdk) hg1)
  have HO := Lib.hid h
  clear h hdk hg1 hoff
  go_enter Tryd.func9, Tryd.ntmps9
  go_upto_region 2 with fail
  obtain ⟨W1, hW1⟩ : ∃ W, W = w.setCell ⟨d, 2, none⟩ (.bool false) := ⟨_, rfl⟩
  rw [← hW1] at HO1 ⊢
  have HW1 := Lib.hid hW1
  clear hW1 c2 f2
  have HC := Lib.hid (collect_names d m F room _ nm bv l k W1 HO1.out)
  go_wp2_with fail
  refine (names_call d W1).mono ?_
  rintro e w2 ⟨rfl, rfl⟩
  go_wp2_with fail
  refine HC.out.mono ?_
  rintro e w3 ⟨v, rfl, hrow, hb3⟩
  obtain ⟨vo, vc, rfl⟩ := row_form hrow
  obtain ⟨g, rfl⟩ : ∃ g, vo = some ⟨g, 0, none⟩ := by
    rcases hrow.2 with ⟨e, _⟩ | ⟨g, cap', cur, e, _⟩
    · cases e
    · injection e with e1 e2 e3
      exact ⟨g, e1⟩
  have q0 : w3.cell? ⟨g, 0, none⟩ = some (.string nm) := by
    have h1 := World.ownsRow.cells hrow (g := g) rfl 0 (encStr nm.data.toList) rfl
    rw [addr_add] at h1
    exact h1
  have HO3 := Lib.hid (HO1.out.below hb3)
  have HB3 := Lib.hid hb3
  clear hrow hb3
  go_wp2_with fail
  go_loopw [20] (fun iv wr => (iv = .int .i64 0 ∧ wr = w3) ∨ (iv = .int .i64 1 ∧ Hid (UpP d m F room { s with off := false } nm (l.take (upN l.length k keep)) (upN l.length k keep) w (.returned (.tuple #[])) wr))) (fun iv _ => 1 - ivOf iv)
  case atStart => exact Or.inl ⟨rfl, rfl⟩
  case round =>
    rcases hrel with ⟨rfl, rfl⟩ | ⟨rfl, hD⟩
    · have h3 := HO3.out
      obtain ⟨bo, bc, rfl⟩ := row_form (Spare.own h3.row)
      obtain ⟨v, ps, hrun, hv⟩ := World.ownsMap.lookup h3.files law Tryd.underlying37 (Tryd.zeroValue40 _) (zd := .nil) (zp := []) rfl (key hnm)
      rw [at_one] at hv
      obtain rfl := ptrR_some hv
      have hdk := h3.dk
      have hF := h3.file
      unfold DkAt at hdk
      unfold FAt at hF
      have c0 : wr.cell? ⟨d, 0, none⟩ = some (.map (some m)) := by rw [cell_of_row wr d 0 _ _ (0, 0) hdk]; rfl
      have q1 : wr.cell? ⟨F, 0, none⟩ = some (.slice bo l.length bc) := by rw [cell_of_row wr F 0 _ _ (0, 0) hF]; rfl
      have q2 : wr.cell? ⟨F, 1, none⟩ = some (.int .i64 k) := by rw [cell_of_row wr F 1 _ _ (0, 0) hF]; rfl
      have HF := Lib.hid hF
      clear h3 hdk hF hv
      have HLL := Lib.hid (show k ≤ l.length from hk)
      obtain ⟨n, hn⟩ : ∃ n, n = l.length := ⟨_, rfl⟩
      obtain ⟨kp, hkp0⟩ : ∃ x, x = max keep 0 := ⟨_, rfl⟩
      have hkp1 : 0 ≤ kp ∧ kp ≤ 9223372036854775807 := by omega
      have hmod : Int.tmod kp ((n : Int) - (k : Int) + 1) = ((kp.toNat % (n - k + 1) : Nat) : Int) := by
        rw [Int.tmod_eq_emod_of_nonneg hkp1.1]
        have e1 : (n : Int) - (k : Int) + 1 = ((n - k + 1 : Nat) : Int) := by omega
        rw [e1, Int.natCast_emod]
        rw [Int.toNat_of_nonneg hkp1.1]
      obtain ⟨r, hr⟩ : ∃ r, r = kp.toNat % (n - k + 1) := ⟨_, rfl⟩
      rw [← hr] at hmod
      have hrl : k + r ≤ n := by have := Nat.mod_lt kp.toNat (show 0 < n - k + 1 by omega); omega
      have HR := Lib.hid (show upN l.length k keep = k + r from by rw [hr, hkp0, hn]; rfl)
      rw [hn] at hmod hrl
      have hkq := hkp0.symm
      clear hr hn hkp0
      have hFl : F < wr.heap.size := (Array.getElem?_eq_some_iff.1 HF.out).1
      go_upto_region 6 with fail
      refine wp_region_calm (by kernel_rfl) (by kernel_rfl) ?_
      repeat (go_big_quiet_step (fail))
      refine wpQuiet_nil ?_
      rintro _ ⟨y, rfl⟩
      obtain ⟨W4, hW4⟩ : ∃ W, W = y.at := ⟨_, rfl⟩
      have hz := y.below
      rw [← hW4] at hz ⊢
      have HO4 := Lib.hid (HO3.out.below hz)
      have HB4 := Lib.hid hz
      have hF4 := HO4.out.file
      unfold FAt at hF4
      have r1 : W4.cell? ⟨F, 0, none⟩ = some (.slice bo l.length bc) := by rw [cell_of_row W4 F 0 _ _ (0, 0) hF4]; rfl
      have HF4 := Lib.hid hF4
      have hbc : l.length ≤ bc := by
        obtain ⟨ao, cap, hv, h1, -⟩ := row_of (spB_own HO4.out.row)
        injection hv with e1 e2 e3
        omega
      have HCL := Lib.hid (cloneB_any (.slice bo (k + r) bc) (l.take (k + r)) W4 (row_take (row_of (spB_own HO4.out.row)) hrl) (by rw [List.length_take]; omega))
      clear hW4 y hz c0 q0 q1 q2 hF4 hrun hmod hkq
      have hW4F := HO4.out.Flt
      go_wp2_with fail
      refine HCL.out.mono ?_
      rintro e w5 ⟨v', rfl, hs5, hb5⟩
      obtain ⟨vo5, vc5, rfl⟩ := row_form (Spare.own hs5)
      have hlt : (l.take (k + r)).length = k + r := by rw [List.length_take]; omega
      have HO5 := Lib.hid (HO4.out.below hb5)
      have HB5 := Lib.hid hb5
      have hF5 := HO5.out.file
      unfold FAt at hF5
      have g0 := frozen_of_row w5 F 0 _ _ hF5
      have g1 := frozen_of_row w5 F 1 _ _ hF5
      have r0 : w5.cell? ⟨F, 0, none⟩ = some (.slice bo l.length bc) := by rw [cell_of_row w5 F 0 _ _ (0, 0) hF5]; rfl
      have r3 : w5.cell? ⟨F, 1, none⟩ = some (.int .i64 k) := by rw [cell_of_row w5 F 1 _ _ (0, 0) hF5]; rfl
      have HO6 := Lib.hid ((HO5.out.more (w3 := w5) (l' := l.take (k + r)) ⟨own_base (Spare.own hs5) (by omega), hs5.rest⟩ (World.grownBy.refl _ _)).sync (k + r))
      rw [hlt] at HO6 ⊢
      clear hs5 hb5 hF5 r1
      have hnz : ((k : Int) + (r : Int) == 0) = false := by simp; omega
      go_wp2_with fail
      refine ⟨Or.inr ⟨rfl, Lib.hid ?_⟩, by simp [ivOf]⟩
      have h6 := HO6.out
      rw [Int.natCast_add] at h6
      rw [HR.out]
      have hmd := HO.out.md
      have hdF := HO.out.dF
      have hml := HO.out.files.lt
      have hs1 : W1.heap.size = w.heap.size := by rw [HW1.out]; simp
      have hs3 := HB3.out.size
      have hs4 := HB4.out.size
      have hs5 := HB5.out.size
      refine ⟨_, rfl, h6, ?_⟩
      have b1 : Below m w W1 := by rw [HW1.out]; exact below_at (d := d) (grown_setCell (World.grownBy.refl _ _) (Or.inl rfl) _) (by omega) (by omega)
      have b2 : Below m W1 wr := HB3.out.mono (by omega)
      have b3 : Below m wr W4 := HB4.out.mono (by omega)
      have b4 : Below m W4 w5 := HB5.out.mono (by omega)
      refine (((b1.trans b2).trans b3).trans b4).trans ?_
      refine below_at (d := F) ?_ (by omega) (by omega)
      iterate 2 refine grown_setCell ?_ (Or.inl rfl) _
      exact World.grownBy.refl _ _
    · go_wp2_with fail
      go_end0
      exact hD.out
end Go.Proofs.YtihfcohebgemdaaDoor.Dsk
