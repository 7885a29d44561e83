/- Layer 12 (engine): Set of a fence at a new engine; met, Content, what is kept. PRINTED by wip/genengset.py. · Layer 27 (replica), of a new replica: Open, Prepare, Write, Fence; the law's Open, alive. PRINTED by wip/genrplalive.py. · The walk of the law ReplicaParts (layer 27). -/
import Derived.Test.YtmjelcjdfamikaaGreatDoorPkD
import Derived.Test.YtmjelcjdfamikaaGreatDoorPkE
set_option linter.unusedSimpArgs false
set_option linter.unusedVariables false
namespace Go.Proofs.YtmjelcjdfamikaaGreatDoor.Eng
open Go.RowKit Go.Maps Go.Proofs.YtmjelcjdfamikaaGreatDoor.Dsk Go.Proofs.YtmjelcjdfamikaaGreatDoor.Trc Go.Proofs.YtmjelcjdfamikaaGreatDoor.Mut Go.Proofs.YtmjelcjdfamikaaGreatDoor.Rd Go.Proofs.YtmjelcjdfamikaaGreatDoor.RegInv Go.Proofs.YtmjelcjdfamikaaGreatDoor.Mrk
set_option linter.unusedSectionVars false
variable [Inhabited Lim]

theorem SaveL.cell {l : List Nat} {w : World} {g : Nat} (i : Nat) (v : Value) (hg : g ∈ l) : SaveL l w (w.setCell ⟨g, i, none⟩ v) := ⟨rfl, rfl, rfl, by simp, fun k hk hn => RowKit.Below.heap_setCell w ⟨g, i, none⟩ v k (fun e => hn (e ▸ hg))⟩
theorem SaveL.more {l l' : List Nat} {w w' : World} (h : SaveL l w w') (hl : ∀ x ∈ l, x ∈ l') : SaveL l' w w' := ⟨h.os, h.tape, h.output, h.size, fun k hk hn => h.block k hk (fun e => hn (hl k e))⟩
def MetP (pw : ByteArray) (g d mm tb : Nat) (p : Int) (w : World) (e : Ending) (w' : World) : Prop := e = .returned (.int .i64 0) ∧ EngAt w' g pw d mm tb p ∧ SaveL [g] w w'
theorem met_ok {pw : ByteArray} {g d mm tb : Nat} {p : Int} (w : World) (h : EngAt w g pw d mm tb p) : Calls Tryz.prog 81 #[.pointer (some ⟨g, 0, none⟩), .int .i64 0] w (MetP pw g d mm tb p w) := by
  have c22 := h.get (k := 22) rfl
  have f22 := h.frozen 22
  have H := Lib.hid h
  clear h
  go_enter Tryz.func81, Tryz.ntmps81
  go_wp2_with fail
  go_ret
  exact ⟨rfl, H.out.setK 22 _ rfl, SaveL.cell _ _ (by simp)⟩
theorem eFloor {pw : ByteArray} {g d mm tb : Nat} {p : Int} (w : World) (h : EngAt w g pw d mm tb p) : Calls Tryz.prog 44 #[.pointer (some ⟨g, 0, none⟩)] w fun e w' => e = .returned (.agg #[.int .i64 0, .int .i64 0, .int .i64 0]) ∧ Below w.heap.size w w' := by
  obtain ⟨W1, hW1⟩ : ∃ W, W = w.alloc (.cells #[.int .i64 0, .int .i64 0, .int .i64 0] 37) := ⟨_, rfl⟩
  have hb1 : Below w.heap.size w W1 := by rw [hW1]; exact (Below.refl _ _).alloc (Nat.le_refl _) _
  obtain ⟨k, hk⟩ : ∃ k, k = w.heap.size := ⟨_, rfl⟩
  have HS := Lib.hid (show S3 W1 k zeroS from by rw [hk, hW1]; exact S3.new w zeroS)
  have HB := Lib.hid hb1
  have HK := Lib.hid hk
  obtain ⟨-, c0, c1, c2, c3, c4, c5, c6, c7, c8, c9, c10, -⟩ := (VarAt.below h hb1).c
  obtain ⟨-, t0, t1, t2, f0, f1, f2⟩ := HS.out
  clear h hb1
  go_enter Tryz.func44, Tryz.ntmps44
  go_upto_region 1 with fail
  rw [← hW1, ← hk]
  clear hW1 hk
  go_wp2_with fail
  obtain ⟨-, u0, u1, u2, -⟩ := s3_put HS.out ⟨0, 0, 0⟩
  refine bodyPost_ret (v := .agg #[.int .i64 0, .int .i64 0, .int .i64 0]) (by simp [results, Tryz.f44, go_sem, u0, u1, u2]) rfl ?_
  exact ⟨rfl, s3_put_below HB.out (by rw [HK.out]; exact Nat.le_refl _) _ _ _⟩
theorem eFence {pw : ByteArray} {g d mm tb : Nat} {p : Int} (w : World) (h : EngAt w g pw d mm tb p) : Calls Tryz.prog 45 #[.pointer (some ⟨g, 0, none⟩)] w fun e w' => e = .returned (.agg #[.int .i64 p, .int .i64 0, .int .i64 0]) ∧ Below w.heap.size w w' := by
  obtain ⟨W1, hW1⟩ : ∃ W, W = w.alloc (.cells #[.int .i64 0, .int .i64 0, .int .i64 0] 37) := ⟨_, rfl⟩
  have hb1 : Below w.heap.size w W1 := by rw [hW1]; exact (Below.refl _ _).alloc (Nat.le_refl _) _
  obtain ⟨k, hk⟩ : ∃ k, k = w.heap.size := ⟨_, rfl⟩
  have HS := Lib.hid (show S3 W1 k zeroS from by rw [hk, hW1]; exact S3.new w zeroS)
  have HB := Lib.hid hb1
  have HK := Lib.hid hk
  obtain ⟨-, c0, c1, c2, c3, c4, c5, c6, c7, c8, c9, c10, -⟩ := (VarAt.below h hb1).c
  obtain ⟨-, t0, t1, t2, f0, f1, f2⟩ := HS.out
  clear h hb1
  go_enter Tryz.func45, Tryz.ntmps45
  go_upto_region 1 with fail
  rw [← hW1, ← hk]
  clear hW1 hk
  go_wp2_with fail
  obtain ⟨-, u0, u1, u2, -⟩ := s3_put HS.out ⟨p, 0, 0⟩
  refine bodyPost_ret (v := .agg #[.int .i64 p, .int .i64 0, .int .i64 0]) (by simp [results, Tryz.f45, go_sem, u0, u1, u2]) rfl ?_
  exact ⟨rfl, s3_put_below HB.out (by rw [HK.out]; exact Nat.le_refl _) _ _ _⟩
theorem eQuar {pw : ByteArray} {g d mm tb : Nat} {p : Int} (w : World) (h : EngAt w g pw d mm tb p) : Calls Tryz.prog 47 #[.pointer (some ⟨g, 0, none⟩)] w fun e w' => e = .returned (.bool false) ∧ w = w' := by
  have c14 := h.get (k := 14) rfl
  clear h
  go_enter Tryz.func47, Tryz.ntmps47
  go_wp2_with fail
  go_ret
  exact ⟨rfl, rfl⟩
def zeroC : Con := ⟨[], [], []⟩
theorem zero_good : Mut.Good zeroC 0 := ⟨Reps.none.same (fun m => by unfold zeroC Con.all; simp), ⟨fun m hm => (by cases hm), Nat.le_refl _⟩⟩
theorem join_zero : joinC zeroC zeroC = zeroC := by
  unfold joinC
  exact zero_good.left
theorem eContent {pw : ByteArray} {g d mm tb : Nat} {p : Int} (w : World) (hT : Tabs w) (h : EngAt w g pw d mm tb p) : Calls Tryz.prog 48 #[.pointer (some ⟨g, 0, none⟩)] w (RetC zeroC w) := by
  obtain ⟨W1, hW1⟩ : ∃ W, W = w.alloc (.cells #[.slice none 0 0, .slice none 0 0, .slice none 0 0] 26) := ⟨_, rfl⟩
  have hb1 : Below w.heap.size w W1 := by rw [hW1]; exact (Below.refl _ _).alloc (Nat.le_refl _) _
  have hc1 : C3 W1 w.heap.size (.slice none 0 0) (.slice none 0 0) (.slice none 0 0) := by rw [hW1]; exact C3.new _ _ _ _
  obtain ⟨k, hk⟩ : ∃ k, k = w.heap.size := ⟨_, rfl⟩
  have HJ := Lib.hid (c_join (hT.below hb1) (Lies.none W1).is zero_good (Lies.none W1).is zero_good (by decide))
  rw [← hk] at hc1
  have HC := Lib.hid hc1
  have HB := Lib.hid hb1
  have HK := Lib.hid hk
  have h1 := h.below (hb1.mono (Nat.le_refl _))
  obtain ⟨-, c0, c1, c2, c3, c4, c5, c6, c7, c8, c9, c10, c11, c12, c13, c14, c15, c16, c17, -⟩ := h1.c
  clear h hT hc1 hb1 h1
  go_enter Tryz.func48, Tryz.ntmps48
  go_upto_region 1 with fail
  rw [← hW1, ← hk]
  clear hW1 hk
  go_wp2_with fail
  refine HJ.out.mono ?_
  rintro e w2 ⟨v, rfl, hc, hb2⟩
  obtain ⟨o1, n1, k1, o2, n2, k2, o3, n3, k3, rfl, hl⟩ := hc.form
  have HC2 := Lib.hid (HC.out.below hb2)
  have HL2 := Lib.hid hl
  have HB2 := Lib.hid (below_then HB.out (Nat.le_refl _) hb2)
  obtain ⟨-, t0, t1, t2, f0, f1, f2⟩ := HC2.out
  clear hc hl hb2
  go_wp2_with fail
  obtain ⟨-, u0, u1, u2, -⟩ := c3_put HC2.out (.slice o1 n1 k1) (.slice o2 n2 k2) (.slice o3 n3 k3)
  refine bodyPost_ret (v := .agg #[.slice o1 n1 k1, .slice o2 n2 k2, .slice o3 n3 k3]) (by simp [results, Tryz.f48, go_sem, u0, u1, u2]) rfl ?_
  refine ⟨_, rfl, ?_, c3_put_below HB2.out (by rw [HK.out]; exact Nat.le_refl _) _ _ _⟩
  have h2 := (HL2.out.plain3 (plain3 HC2.out (.slice o1 n1 k1) (.slice o2 n2 k2) (.slice o3 n3 k3))).is
  have h3 : joinC ⟨[], [], []⟩ ⟨[], [], []⟩ = zeroC := join_zero
  rwa [h3] at h2

theorem VerC.at {w : World} {k : Nat} {p : Int} (h : VarAt w k 95 [.int .i64 0, .int .i64 0, .slice none 0 0, .int .i64 0, .int .i64 0, .int .i64 0, .int .i64 p, .int .i64 0, .int .i64 0, .int .i64 0, .int .i64 0, .int .i64 0, .bool false]) : VerC w k p := ⟨h.lt, h.get rfl, h.get rfl, h.get rfl, h.get rfl, h.get rfl, h.get rfl, h.get rfl, h.get rfl, h.get rfl, h.get rfl, h.get rfl, h.get rfl, h.get rfl⟩

/-- What is told of a variable as it lies. -/
def sVar (k : Nat) (l : List Value) : RSpec := sOne (fun _ W => VarAt W k 95 l) (fun _ _ _ h hb => h.below hb)
def verZ : List Value := [.int .i64 0, .int .i64 0, .slice none 0 0, .int .i64 0, .int .i64 0, .int .i64 0, .int .i64 0, .int .i64 0, .int .i64 0, .int .i64 0, .int .i64 0, .int .i64 0, .bool false]
def verF : List Value := [.int .i64 0, .int .i64 0, .slice none 0 0, .int .i64 0, .int .i64 0, .int .i64 0, .int .i64 5, .int .i64 0, .int .i64 0, .int .i64 0, .int .i64 0, .int .i64 0, .bool false]
set_option maxRecDepth 100000 in
set_option maxHeartbeats 8000000 in
theorem set_new (pw : ByteArray) (room : Int) (g d m mm tb : Nat) (w : World) (hT : Tabs w) (h : New w pw room g d m mm tb) (hroom : room = 1048576) :
    Calls Tryz.prog 46 #[.pointer (some ⟨g, 0, none⟩), .agg #[.int .i64 0, .int .i64 0, .int .i64 0], .agg #[.int .i64 5, .int .i64 0, .int .i64 0], .bool false] w (WriteP pw g d m mm tb w) := by
  obtain ⟨W1, hW1⟩ : ∃ W, W = w.alloc (.cells #[.int .i64 0, .int .i64 0, .int .i64 0] 37) := ⟨_, rfl⟩
  obtain ⟨W2, hW2⟩ : ∃ W, W = W1.alloc (.cells #[.int .i64 5, .int .i64 0, .int .i64 0] 37) := ⟨_, rfl⟩
  have z1 : W1.heap.size = w.heap.size + 1 := by rw [hW1]; simp
  have z2 : W2.heap.size = w.heap.size + 1 + 1 := by rw [hW2, ← z1]; simp
  obtain ⟨W3, hW3⟩ : ∃ W, W = W2.alloc (.cells #[.int .i64 0, .int .i64 0, .slice none 0 0, .int .i64 0, .int .i64 0, .int .i64 0, .int .i64 0, .int .i64 0, .int .i64 0, .int .i64 0, .int .i64 0, .int .i64 0, .bool false] 95) := ⟨_, rfl⟩
  obtain ⟨k, hk⟩ : ∃ k, k = w.heap.size := ⟨_, rfl⟩
  obtain ⟨kv, hkv⟩ : ∃ k, k = w.heap.size + 1 + 1 := ⟨_, rfl⟩
  have hkw : kv = W2.heap.size := by omega
  have b1 : Below w.heap.size w W1 := by rw [hW1]; exact (Below.refl _ _).alloc (Nat.le_refl _) _
  have b2 : Below w.heap.size w W2 := by rw [hW2]; exact b1.alloc b1.size _
  have b3 : Below w.heap.size w W3 := by rw [hW3]; exact b2.alloc b2.size _
  have y2 : Below W1.heap.size W1 W3 := by rw [hW3, hW2]; exact ((Below.refl _ _).alloc (Nat.le_refl _) _).alloc (by simp) _
  have y3 : Below W2.heap.size W2 W3 := by rw [hW3]; exact (Below.refl _ _).alloc (Nat.le_refl _) _
  have HA := Lib.hid (show VarAt W3 k 37 [.int .i64 0, .int .i64 0, .int .i64 0] ∧ VarAt W3 (k + 1) 37 [.int .i64 5, .int .i64 0, .int .i64 0] ∧ VarAt W3 kv 95 verZ from by
    refine ⟨?_, ?_, ?_⟩
    · rw [hk]
      refine VarAt.below ?_ y2
      rw [hW1]; exact VarAt.new w _ _
    · rw [hk, ← z1]
      refine VarAt.below ?_ y3
      rw [hW2]; exact VarAt.new W1 _ _
    · rw [hkv, ← z2, hW3]
      exact VarAt.new W2 _ _)
  have HN3 := Lib.hid (h.below b3)
  have HB3 := Lib.hid b3
  have HKV := Lib.hid (And.intro hk hkv)
  have HLT := Lib.hid (show d < k ∧ m < k ∧ g < k from by rw [hk]; exact ⟨h.dk.lt, h.files.lt, h.eng.lt⟩)
  have HT := Lib.hid hT
  have HRM := Lib.hid hroom
  have HWW := Lib.hid (And.intro hW1 (And.intro hW2 hW3))
  obtain ⟨-, c0, c1, c2, c3, c4, c5, c6, c7, c8, c9, c10, c11, c12, c13, c14, -⟩ := (h.below b2).eng.c
  clear b1 b3 y2 y3 z1 z2 h hT hroom
  go_enter Tryz.func46, Tryz.ntmps46
  go_upto_region 1 with fail
  rw [← hW1, ← hW2, ← hk]
  have HKW := Lib.hid hkw
  clear b2 hk hkv hkw hW1 hW2 hW3
  go_upto_region 2 with fail
  rw [← HKW.out]
  rw [← HWW.out.2.2]
  have HG0 := Lib.hid (show W3.grownBy W3.drew (some kv) from ⟨rfl, rfl, rfl, Nat.le_refl _, fun _ _ _ => rfl⟩)
  have HP0 := Lib.hid (show VarAt W3.drew kv 95 verZ from HA.out.2.2)
  have hcm : ∀ a b, W3.grownBy a (some kv) → Below a.heap.size a b → W3.grownBy b (some kv) := fun a b h hb => Rpl.grown_under h hb
  have hpr : ∀ (j : Nat) (a b : World), (j = 4 → (fun W => VarAt W kv 95 verZ) a) → Below a.heap.size a b → (j = 4 → (fun W => VarAt W kv 95 verZ) b) := fun j a b h hb e => (h e).below hb
  have HST := Lib.hid (show ∀ W, W3.grownBy W (some kv) → (W.cell? ⟨k, 0, none⟩ = some (.int .i64 0) ∧ W.cell? ⟨k, 1, none⟩ = some (.int .i64 0) ∧ W.cell? ⟨k, 2, none⟩ = some (.int .i64 0)) ∧ (W.cell? ⟨k + 1, 0, none⟩ = some (.int .i64 5) ∧ W.cell? ⟨k + 1, 1, none⟩ = some (.int .i64 0) ∧ W.cell? ⟨k + 1, 2, none⟩ = some (.int .i64 0)) from fun W hc => by
    have h1 : VarAt W k 37 [.int .i64 0, .int .i64 0, .int .i64 0] := (hc.block k HA.out.1.lt (by have := HKV.out; intro e; injection e; omega)).trans HA.out.1
    have h2 : VarAt W (k + 1) 37 [.int .i64 5, .int .i64 0, .int .i64 0] := (hc.block (k + 1) HA.out.2.1.lt (by have := HKV.out; intro e; injection e; omega)).trans HA.out.2.1
    exact ⟨⟨h1.get rfl, h1.get rfl, h1.get rfl⟩, ⟨h2.get rfl, h2.get rfl, h2.get rfl⟩⟩)
  clear c0 c1 c2 c3 c4 c5 c6 c7 c8 c9 c10 c11 c12 c13 c14
  refine RegLin.wp_region_lin (RegLin.useL [(4, 6)]) (fun W => W3.grownBy W (some kv)) (fun j W => j = 4 → (fun W => VarAt W kv 95 verZ) W) 8 [false, false, false, false, false, false, false, false, false, false, false, false, false, false, true, true, true, true, true, true, false, false, false, false, false, false, false, false, false, false, false, false, false, false, false, false, false, false, false, false, false]
    [sLit (.agg #[.int .i64 0, .int .i64 0, .int .i64 0]),
    sLit (.agg #[.int .i64 5, .int .i64 0, .int .i64 0]),
    sLit (.bool false),
    sLit (.pointer (some ⟨kv, 3, none⟩)),
    sVar kv verZ,
    sLit (.pointer (some ⟨kv, 6, none⟩)),
    sVar kv verF,
    sLit (.pointer (some ⟨kv, 12, none⟩))] (HG0.out) (fun j _ _ => HP0.out) (by kernel_rfl) (by kernel_rfl) (by kernel_rfl) (by kernel_rfl) (fun F hF => ?_)
  simp only [over, overL, Nat.reduceAdd] at hF
  obtain rfl := funext hF
  clear hF
  refine ⟨⟨?_, ?_, ?_, ?_, ?_, ?_, ?_, ?_, trivial⟩, ?_⟩
  · intro V W hc hp hd K hK _
    clear hd
    obtain ⟨m0, m1, m2⟩ := (HST.out W hc).1
    go_wp2_with fail
    refine hK _ _ ?_ ?_ ?_
    · rfl
    · exact RegLin.keeps_below hcm hpr hc (Below.refl _ _)
    · exact rfl
  · intro V W hc hp hd K hK _
    clear hd
    obtain ⟨m0, m1, m2⟩ := (HST.out W hc).2
    go_wp2_with fail
    refine hK _ _ ?_ ?_ ?_
    · rfl
    · exact RegLin.keeps_below hcm hpr hc (Below.refl _ _)
    · exact rfl
  · intro V W hc hp hd K hK _
    clear hd
    go_wp2_with fail
    refine hK _ _ ?_ ?_ ?_
    · rfl
    · exact RegLin.keeps_below hcm hpr hc (Below.refl _ _)
    · exact rfl
  · intro V W hc hp hd K hK _
    clear hd
    go_wp2_with fail
    refine hK _ _ ?_ ?_ ?_
    · rfl
    · exact RegLin.keeps_below hcm hpr hc (Below.refl _ _)
    · exact rfl
  · intro V W hc hp hd K hK _
    have h0 : (V 14) = .agg #[.int .i64 0, .int .i64 0, .int .i64 0] := hd 0 (by decide) (by kernel_rfl) (RegLin.useL_ok (by kernel_rfl))
    have h3 : (V 17) = .pointer (some ⟨kv, 3, none⟩) := hd 3 (by decide) (by kernel_rfl) (RegLin.useL_ok (by kernel_rfl))
    clear hd
    skip
    have HV := Lib.hid (hp rfl)
    have q0 : W.cell? ⟨kv, 3, none⟩ = some (.int .i64 0) := HV.out.get rfl
    have q1 : W.cell? ⟨kv, 4, none⟩ = some (.int .i64 0) := HV.out.get rfl
    have q2 : W.cell? ⟨kv, 5, none⟩ = some (.int .i64 0) := HV.out.get rfl
    have f0 := HV.out.frozen 3
    have f1 := HV.out.frozen 4
    have f2 := HV.out.frozen 5
    have HCW := Lib.hid hc
    clear hc hp
    go_wp2_with fail
    refine hK _ _ ?_ ?_ ?_
    · rfl
    · refine RegLin.keeps_by (by refine grown_setCell ?_ (Or.inl rfl) _; refine grown_setCell ?_ (Or.inl rfl) _; refine grown_setCell ?_ (Or.inl rfl) _; exact HCW.out) (by kernel_rfl) (fun j hj hne hl h => ?_)
      match j, hj, hne, hl, h with
      | 0, _, _, _, h => exact h
      | 1, _, _, _, h => exact h
      | 2, _, _, _, h => exact h
      | 3, _, _, _, h => exact h
      | 4, _, hne, _, _ => exact absurd rfl hne
      | 5, _, _, hl, _ => exact Bool.noConfusion (hl.symm.trans (show RegLin.liveB _ 8 [(4, 6)] 4 5 = false from by kernel_rfl))
      | 6, _, _, hl, _ => exact Bool.noConfusion (hl.symm.trans (show RegLin.liveB _ 8 [(4, 6)] 4 6 = false from by kernel_rfl))
      | 7, _, _, hl, _ => exact Bool.noConfusion (hl.symm.trans (show RegLin.liveB _ 8 [(4, 6)] 4 7 = false from by kernel_rfl))
      | j + 8, hj, _, _, _ => exact absurd hj (by omega)
    · exact ((HV.out.set 3 _).set 4 _).setK 5 _ rfl
  · intro V W hc hp hd K hK _
    clear hd
    go_wp2_with fail
    refine hK _ _ ?_ ?_ ?_
    · rfl
    · exact RegLin.keeps_below hcm hpr hc (Below.refl _ _)
    · exact rfl
  · intro V W hc hp hd K hK _
    have h1 : (V 15) = .agg #[.int .i64 5, .int .i64 0, .int .i64 0] := hd 1 (by decide) (by kernel_rfl) (RegLin.useL_ok (by kernel_rfl))
    have h4 : VarAt W kv 95 verZ := hd 4 (by decide) (by kernel_rfl) (RegLin.useL_ok (by kernel_rfl))
    have h5 : (V 18) = .pointer (some ⟨kv, 6, none⟩) := hd 5 (by decide) (by kernel_rfl) (RegLin.useL_ok (by kernel_rfl))
    clear hd
    skip
    have HV := Lib.hid h4
    have q0 : W.cell? ⟨kv, 6, none⟩ = some (.int .i64 0) := HV.out.get rfl
    have q1 : W.cell? ⟨kv, 7, none⟩ = some (.int .i64 0) := HV.out.get rfl
    have q2 : W.cell? ⟨kv, 8, none⟩ = some (.int .i64 0) := HV.out.get rfl
    have f0 := HV.out.frozen 6
    have f1 := HV.out.frozen 7
    have f2 := HV.out.frozen 8
    have HCW := Lib.hid hc
    clear hc hp h4
    go_wp2_with fail
    refine hK _ _ ?_ ?_ ?_
    · rfl
    · refine RegLin.keeps_by (by refine grown_setCell ?_ (Or.inl rfl) _; refine grown_setCell ?_ (Or.inl rfl) _; refine grown_setCell ?_ (Or.inl rfl) _; exact HCW.out) (by kernel_rfl) (fun j hj hne hl h => ?_)
      match j, hj, hne, hl, h with
      | 0, _, _, _, h => exact h
      | 1, _, _, _, h => exact h
      | 2, _, _, _, h => exact h
      | 3, _, _, _, h => exact h
      | 4, _, _, hl, _ => exact Bool.noConfusion (hl.symm.trans (show RegLin.liveB _ 8 [(4, 6)] 6 4 = false from by kernel_rfl))
      | 5, _, _, _, h => exact h
      | 6, _, hne, _, _ => exact absurd rfl hne
      | 7, _, _, hl, _ => exact Bool.noConfusion (hl.symm.trans (show RegLin.liveB _ 8 [(4, 6)] 6 7 = false from by kernel_rfl))
      | j + 8, hj, _, _, _ => exact absurd hj (by omega)
    · exact ((HV.out.set 6 _).set 7 _).setK 8 _ rfl
  · intro V W hc hp hd K hK _
    clear hd
    go_wp2_with fail
    refine hK _ _ ?_ ?_ ?_
    · rfl
    · exact RegLin.keeps_below hcm hpr hc (Below.refl _ _)
    · exact rfl
  · intro V W hc hd
    have h2 : (V 16) = .bool false := hd 2 (by decide) rfl
    have h6 : VarAt W kv 95 verF := hd 6 (by decide) rfl
    have h7 : (V 19) = .pointer (some ⟨kv, 12, none⟩) := hd 7 (by decide) rfl
    clear hd
    simp only [List.drop_succ_cons, List.drop_zero]
    have HVW := Lib.hid h6
    have q12 : W.cell? ⟨kv, 12, none⟩ = some (.bool false) := HVW.out.get rfl
    have f12 := HVW.out.frozen 12
    obtain ⟨W5, hW5⟩ : ∃ X, X = W.setCell ⟨kv, 12, none⟩ (.bool false) := ⟨_, rfl⟩
    have HV5 := Lib.hid (show VarAt W5 kv 95 verF from by rw [hW5]; exact HVW.out.setK 12 _ rfl)
    have HG5 := Lib.hid (show W3.grownBy W5 (some kv) from by rw [hW5]; exact grown_setCell hc (Or.inl rfl) _)
    have HB5 := Lib.hid (show Below w.heap.size w W5 from HB3.out.grown HG5.out HB3.out.size (fun j e => by injection e with e; have := HKV.out; omega))
    have HN5 := Lib.hid (show New W5 pw room g d m mm tb from by
      have hn := HN3.out
      refine ⟨(HG5.out.block g hn.eng.lt ?_).trans hn.eng, (HG5.out.block d hn.dk.lt ?_).trans hn.dk, hn.files.kept HG5.out ?_, hn.md, hn.pre⟩
      all_goals (intro e; injection e with e; have := HKV.out; have := HLT.out; omega))
    have HW5 := Lib.hid hW5
    clear h6 hc hW5
    rw [h2, h7]
    clear h2 h7
    go_upto_region 3 with fail
    rw [← HW5.out]
    obtain ⟨-, c0, c1, c2, c3, c4, c5, c6, c7, c8, c9, c10, c11, c12, c13, c14, c15, c16, c17, c18, c19, c20, c21, c22⟩ := HN5.out.eng.c
    obtain ⟨-, v0, v1, v2, v3, v4, v5, v6, v7, v8, v9, v10, v11, v12⟩ := VerC.at (p := 5) HV5.out
    have HRI := Lib.hid (verRight_5 W5)
    go_wp2_with fail
    refine HRI.out.mono ?_
    rintro e w6 ⟨rfl, hb6⟩
    have HB6 := Lib.hid (below_then HB5.out (Nat.le_refl _) hb6)
    have HN6 := Lib.hid (HN5.out.below hb6)
    have HV6 := Lib.hid (HV5.out.below hb6)
    clear hb6 v0 v1 v2 v3 v4 v5 v6 v7 v8 v9 v10 v11 v12 c0 c1 c2 c3 c4 c5 c6 c7 c8 c9 c10 c11 c12 c13 c14 c15 c16 c17 c18 c19 c20 c21 c22
    go_wp2_with fail
    obtain ⟨hgl, c0, c1, c2, c3, c4, c5, c6, c7, c8, c9, c10, c11, c12, c13, c14, c15, c16, c17, c18, c19, c20, c21, c22⟩ := HN6.out.eng.c
    obtain ⟨hkl, v0, v1, v2, v3, v4, v5, v6, v7, v8, v9, v10, v11, v12⟩ := VerC.at (p := 5) HV6.out
    refine wp_region_calm (by kernel_rfl) (by kernel_rfl) ?_
    repeat (go_big_quiet_step (first | (go_at_call 80; exact calm (same_50 _))))
    refine wpQuiet_nil ?_
    rintro _ ⟨y, rfl⟩
    obtain ⟨Y, hY⟩ : ∃ Y, Y = y.at := ⟨_, rfl⟩
    have hby : Below w6.heap.size w6 Y := by rw [hY]; exact y.below
    have HBY := Lib.hid (below_then HB6.out (Nat.le_refl _) hby)
    have HNY := Lib.hid (HN6.out.below hby)
    have HVY := Lib.hid (HV6.out.below hby)
    rw [← hY]
    clear hY hby hgl hkl v0 v1 v2 v3 v4 v5 v6 v7 v8 v9 v10 v11 v12 c0 c1 c2 c3 c4 c5 c6 c7 c8 c9 c10 c11 c12 c13 c14 c15 c16 c17 c18 c19 c20 c21 c22
    obtain ⟨-, v0, v1, v2, v3, v4, v5, v6, v7, v8, v9, v10, v11, v12⟩ := VerC.at (p := 5) HVY.out
    go_wp2_with fail
    refine (write_new pw room g d m mm tb Y (HT.out.below HBY.out) HNY.out HRM.out).mono ?_
    rintro e w7 ⟨rfl, he7, hs7⟩
    have HS7 := Lib.hid hs7
    have HM7 := Lib.hid (met_ok w7 he7)
    clear he7 hs7 v0 v1 v2 v3 v4 v5 v6 v7 v8 v9 v10 v11 v12
    go_wp2_with fail
    refine HM7.out.mono ?_
    rintro e w8 ⟨rfl, he8, hs8⟩
    have HE8 := Lib.hid (And.intro he8 hs8)
    clear he8 hs8
    go_wp2_with fail
    go_ret
    exact ⟨rfl, HE8.out.1, ((SaveL.below HBY.out).trans HS7.out).trans (HE8.out.2.more (by simp))⟩
end Go.Proofs.YtmjelcjdfamikaaGreatDoor.Eng

namespace Go.Proofs.YtmjelcjdfamikaaGreatDoor.Eng
open Go.RowKit Go.Maps Go.Proofs.YtmjelcjdfamikaaGreatDoor.Dsk Go.Proofs.YtmjelcjdfamikaaGreatDoor.Trc Go.Proofs.YtmjelcjdfamikaaGreatDoor.Mut Go.Proofs.YtmjelcjdfamikaaGreatDoor.Rd Go.Proofs.YtmjelcjdfamikaaGreatDoor.RegInv Go.Proofs.YtmjelcjdfamikaaGreatDoor.Mrk
set_option linter.unusedSectionVars false
variable [Inhabited Lim]

abbrev RepAt (w : World) (x g : Nat) : Prop := VarAt w x 72 [.pointer (some ⟨g, 0, none⟩)]
def ROpenP (pw : ByteArray) (room : Int) (d m : Nat) (w : World) (e : Ending) (w' : World) : Prop := ∃ x g mm tb, e = .returned (.tuple #[.pointer (some ⟨x, 0, none⟩), .int .i64 0]) ∧ RepAt w' x g ∧ New w' pw room g d m mm tb ∧ w.heap.size ≤ g ∧ w.heap.size ≤ x ∧ Below w.heap.size w w'
theorem ropen_any {pw : ByteArray} (hpw : Pre pw) (room : Int) (d m : Nat) (w : World) (hd : DkAt w d m room ⟨false, false, 0, 0⟩) (hf : Files w m none) (hmd : m < d) : Calls Tryz.prog 40 #[.pointer (some ⟨d, 0, none⟩), .string pw] w (ROpenP pw room d m w) := by
  have HO := Lib.hid (open_any hpw room d m w hd hf hmd)
  clear hd hf hmd hpw
  go_enter Tryz.func40, Tryz.ntmps40
  go_wp2_with fail
  refine HO.out.mono ?_
  rintro e w1 ⟨g, mm, tb, rfl, hn, hg, hb⟩
  have HN := Lib.hid hn
  have HG := Lib.hid hg
  have HB := Lib.hid hb
  clear hn hg hb
  go_wp2_with fail
  go_ret2
  have hb2 : Below w1.heap.size w1 (w1.alloc (.cells #[.pointer (some ⟨g, 0, none⟩)] 72)) := (Below.refl _ _).alloc (Nat.le_refl _) _
  exact ⟨w1.heap.size, g, mm, tb, rfl, VarAt.new w1 _ _, HN.out.below hb2, HG.out, HB.out.size, below_then HB.out (Nat.le_refl _) hb2⟩
def LOpenP (w : World) (e : Ending) (w' : World) : Prop := ∃ x g d m mm tb, e = .returned (.pointer (some ⟨x, 0, none⟩)) ∧ RepAt w' x g ∧ New w' ⟨#[114, 48]⟩ 1048576 g d m mm tb ∧ w.heap.size ≤ g ∧ w.heap.size ≤ x ∧ w.heap.size ≤ d ∧ w.heap.size ≤ m ∧ Below w.heap.size w w'
theorem lopen_any (w : World) : Calls Tryz.prog 24 #[] w (LOpenP w) := by
  have HN := Lib.hid (new_any 1048576 w (by decide) (by decide))
  obtain ⟨wm, hwm⟩ : ∃ x, x = w.heap.size := ⟨_, rfl⟩
  go_enter Tryz.func24, Tryz.ntmps24
  go_wp2_with fail
  refine HN.out.mono ?_
  rintro e w1 ⟨rfl, hd, hf, hb, -⟩
  have HO := Lib.hid (ropen_any (Or.inl rfl) 1048576 (w.heap.size + 1) w.heap.size w1 hd hf (by omega))
  have HB := Lib.hid hb
  rw [← hwm] at HO ⊢
  have HWM := Lib.hid hwm
  clear hd hf hb hwm
  go_wp2_with fail
  refine HO.out.mono ?_
  rintro e w2 ⟨x, g, mm, tb, rfl, hr, hn, hg, hx, hb2⟩
  have HR := Lib.hid (And.intro hr (And.intro hn (And.intro hg (And.intro hx hb2))))
  clear hr hn hg hx hb2
  go_wp2_with fail
  go_ret
  have hs := HB.out.size
  have h0 := HWM.out
  exact ⟨x, g, wm + 1, wm, mm, tb, rfl, HR.out.1, HR.out.2.1, Nat.le_trans hs HR.out.2.2.1, Nat.le_trans hs HR.out.2.2.2.1, by omega, by omega, below_then HB.out (Nat.le_refl _) HR.out.2.2.2.2⟩

theorem rep_ne {w : World} {pw : ByteArray} {room : Int} {x g d m mm tb : Nat} (hx : RepAt w x g) (h : New w pw room g d m mm tb) : x ≠ d ∧ x ≠ m ∧ x ≠ g := by
  have h1 : w.heap[x]? = some (.cells (#[.pointer (some ⟨g, 0, none⟩)]) 72 (0, 0)) := hx
  refine ⟨fun e => ?_, fun e => ?_, fun e => ?_⟩
  · have h2 := h.dk
    unfold DkAt at h2
    rw [e, h2] at h1
    simp at h1
  · obtain ⟨es, clock, h2, -⟩ := h.files
    rw [e, h2] at h1
    simp at h1
  · have h2 : w.heap[g]? = some (.cells (eng pw d mm tb 0).toArray 99 (0, 0)) := h.eng
    rw [e, h2] at h1
    simp at h1
theorem less05 (w : World) : Calls Tryz.prog 42 #[.agg #[.int .i64 0, .int .i64 0, .int .i64 0], .agg #[.int .i64 5, .int .i64 0, .int .i64 0]] w fun e w' => e = .returned (.bool true) ∧ Below w.heap.size w w' := by
  have h := stless_any ⟨0, 0, 0⟩ ⟨5, 0, 0⟩ w
  rw [show decide (stC ⟨0, 0, 0⟩ ⟨5, 0, 0⟩ < 0) = true from by decide] at h
  refine h.mono ?_
  rintro e w1 ⟨rfl, hb⟩
  exact ⟨rfl, hb.below⟩
theorem less55 (w : World) : Calls Tryz.prog 42 #[.agg #[.int .i64 5, .int .i64 0, .int .i64 0], .agg #[.int .i64 5, .int .i64 0, .int .i64 0]] w fun e w' => e = .returned (.bool false) ∧ Below w.heap.size w w' := by
  have h := stless_any ⟨5, 0, 0⟩ ⟨5, 0, 0⟩ w
  rw [show decide (stC ⟨5, 0, 0⟩ ⟨5, 0, 0⟩ < 0) = false from by decide] at h
  refine h.mono ?_
  rintro e w1 ⟨rfl, hb⟩
  exact ⟨rfl, hb.below⟩
theorem max00 (w : World) : Calls Tryz.prog 43 #[.agg #[.int .i64 0, .int .i64 0, .int .i64 0], .agg #[.int .i64 0, .int .i64 0, .int .i64 0]] w fun e w' => e = .returned (.agg #[.int .i64 0, .int .i64 0, .int .i64 0]) ∧ Below w.heap.size w w' := max_any ⟨0, 0, 0⟩ ⟨0, 0, 0⟩ w
theorem upto_zero {v : Value} {w : World} (hv : IsC zeroC v w) : Calls Tryz.prog 49 #[v, .agg #[.int .i64 5, .int .i64 0, .int .i64 0]] w (RetC zeroC w) := c_upto ⟨5, 0, 0⟩ hv zero_good (by decide)

def PrepP (pw : ByteArray) (x g d m mm tb : Nat) (w : World) (e : Ending) (w' : World) : Prop := ∃ o1 n1 k1 o2 n2 k2 o3 n3 k3, e = .returned (.tuple #[.agg #[.slice o1 n1 k1, .slice o2 n2 k2, .slice o3 n3 k3, .int .i64 0, .int .i64 0, .int .i64 0, .bool false], .int .i64 0]) ∧ RepAt w' x g ∧ EngAt w' g pw d mm tb 5 ∧ SaveL [d, m, g] w w'
theorem eFence0 {pw : ByteArray} {g d mm tb : Nat} {p : Int} (w : World) (h : EngAt w g pw d mm tb p) : Calls Tryz.prog 44 #[.pointer (some ⟨g, 0, none⟩)] w fun e w' => e = .returned (.agg #[.int .i64 0, .int .i64 0, .int .i64 0]) ∧ Below w.heap.size w w' := eFloor w h
def IsRep (v : Value) : Prop := ∃ o1 n1 k1 o2 n2 k2 o3 n3 k3, v = .agg #[.slice o1 n1 k1, .slice o2 n2 k2, .slice o3 n3 k3, .int .i64 0, .int .i64 0, .int .i64 0, .bool false]
def sRep : RSpec := sOne (fun v _ => IsRep v) (fun _ _ _ h _ => h)
set_option maxRecDepth 100000 in
set_option maxHeartbeats 8000000 in
theorem prepare_new (pw : ByteArray) (room : Int) (x g d m mm tb : Nat) (w0 w : World) (hT0 : Tabs w0) (hb0 : Below w0.heap.size w0 w) (h0 : ∀ y ∈ [d, m, g], w0.heap.size ≤ y) (hx : RepAt w x g) (h : New w pw room g d m mm tb) (hxd : x ≠ d ∧ x ≠ m ∧ x ≠ g) (hroom : room = 1048576) :
    Calls Tryz.prog 25 #[.pointer (some ⟨x, 0, none⟩), .agg #[.int .i64 5, .int .i64 0, .int .i64 0]] w (PrepP pw x g d m mm tb w) := by
  obtain ⟨W1, hW1⟩ : ∃ W, W = w.alloc (.cells #[.int .i64 5, .int .i64 0, .int .i64 0] 37) := ⟨_, rfl⟩
  obtain ⟨W2, hW2⟩ : ∃ W, W = W1.alloc (.cells #[.slice none 0 0, .slice none 0 0, .slice none 0 0, .int .i64 0, .int .i64 0, .int .i64 0, .bool false] 52) := ⟨_, rfl⟩
  have z1 : W1.heap.size = w.heap.size + 1 := by rw [hW1]; simp
  have b1 : Below w.heap.size w W1 := by rw [hW1]; exact (Below.refl _ _).alloc (Nat.le_refl _) _
  have b2 : Below w.heap.size w W2 := by rw [hW2]; exact b1.alloc b1.size _
  obtain ⟨k, hk⟩ : ∃ k, k = w.heap.size := ⟨_, rfl⟩
  have HS := Lib.hid (show VarAt W2 k 37 [.int .i64 5, .int .i64 0, .int .i64 0] from by
    rw [hk]
    refine VarAt.below ?_ (show Below W1.heap.size W1 W2 from by rw [hW2]; exact (Below.refl _ _).alloc (Nat.le_refl _) _)
    rw [hW1]; exact VarAt.new w _ _)
  have HP := Lib.hid (show VarAt W2 (k + 1) 52 [.slice none 0 0, .slice none 0 0, .slice none 0 0, .int .i64 0, .int .i64 0, .int .i64 0, .bool false] from by
    rw [hk, ← z1, hW2]; exact VarAt.new W1 _ _)
  have HX := Lib.hid (hx.below b2)
  have HN := Lib.hid (h.below b2)
  have HB := Lib.hid b2
  have HLT := Lib.hid (show (d < k ∧ m < k ∧ g < k ∧ x < k) ∧ (x ≠ d ∧ x ≠ m ∧ x ≠ g) ∧ k = w.heap.size from by rw [hk]; exact ⟨⟨h.dk.lt, h.files.lt, h.eng.lt, hx.lt⟩, hxd, rfl⟩)
  have HT := Lib.hid (hT0.below hb0)
  have HT0 := Lib.hid (And.intro hT0 (And.intro hb0 h0))
  have HRM := Lib.hid hroom
  have HWW := Lib.hid (And.intro hW1 hW2)
  clear b1 b2 z1 hx h hT0 hb0 h0 hroom hxd hW1 hW2
  go_enter Tryz.func25, Tryz.ntmps25
  go_upto_region 1 with fail
  rw [← hk, ← HWW.out.1, ← HWW.out.2]
  clear HWW hk
  have x0 := HX.out.get (k := 0) rfl
  have s0 := HS.out.get (k := 0) rfl
  have s1 := HS.out.get (k := 1) rfl
  have s2 := HS.out.get (k := 2) rfl
  have hxl := HX.out.lt
  have hkl := HS.out.lt
  refine wp_region_calm (by kernel_rfl) (by kernel_rfl) ?_
  repeat (go_big_quiet_step (first
    | (go_at_call 44; exact calm (eFloor _ (HN.out.eng.below (BW.below _))))
    | (go_at_call 45; exact calm (eFence _ (HN.out.eng.below (BW.below _))))
    | (go_at_call 43; exact calm (max00 _))
    | (go_at_call 42; exact calm (less05 _))))
  refine wpQuiet_nil ?_
  rintro _ ⟨y, rfl⟩
  obtain ⟨Y, hY⟩ : ∃ Y, Y = y.at := ⟨_, rfl⟩
  have hby : Below W2.heap.size W2 Y := by rw [hY]; exact y.below
  have HBY := Lib.hid (below_then HB.out (Nat.le_refl _) hby)
  have HNY := Lib.hid (HN.out.below hby)
  have HXY := Lib.hid (HX.out.below hby)
  have HSY := Lib.hid (HS.out.below hby)
  have HPY := Lib.hid (HP.out.below hby)
  rw [← hY]
  clear hY hby x0 s0 s1 s2 hxl hkl HS HN HX HP
  go_upto_region 3 with fail
  have x0 := HXY.out.get (k := 0) rfl
  have s0 := HSY.out.get (k := 0) rfl
  have s1 := HSY.out.get (k := 1) rfl
  have s2 := HSY.out.get (k := 2) rfl
  have hxl := HXY.out.lt
  have hkl := HSY.out.lt
  refine wp_region_calm_tail 15 (by kernel_rfl) (by kernel_rfl) ?_
  simp only [List.take_succ_cons, List.take_zero, List.drop_succ_cons, List.drop_zero]
  repeat (go_big_quiet_step (first
    | (go_at_call 44; exact calm (eFloor _ (HNY.out.eng.below (BW.below _))))
    | (go_at_call 47; exact calm_same (eQuar _ (HNY.out.eng.below (BW.below _))))))
  refine wpQuiet_nil ?_
  rintro _ ⟨y, rfl⟩
  obtain ⟨Z, hZ⟩ : ∃ Y, Y = y.at := ⟨_, rfl⟩
  have hby : Below Y.heap.size Y Z := by rw [hZ]; exact y.below
  have HBZ := Lib.hid (below_then HBY.out (Nat.le_refl _) hby)
  have HSE := Lib.hid (set_new pw room g d m mm tb Z (HT.out.below HBZ.out) (HNY.out.below hby) HRM.out)
  have HXZ := Lib.hid (HXY.out.below hby)
  have HSZ := Lib.hid (HSY.out.below hby)
  have HPZ := Lib.hid (HPY.out.below hby)
  rw [← hZ]
  clear hZ hby x0 s0 s1 s2 hxl hkl HNY HXY HSY HPY
  go_wp2_with fail
  refine HSE.out.mono ?_
  rintro e W4 ⟨rfl, he4, hs4⟩
  have HS4 := Lib.hid hs4
  have HE4 := Lib.hid he4
  have HX4 := Lib.hid (show RepAt W4 x g from (hs4.block x HXZ.out.lt (by have := HLT.out.2.1; simp; omega)).trans HXZ.out)
  have HST := Lib.hid (show VarAt W4 k 37 [.int .i64 5, .int .i64 0, .int .i64 0] from (hs4.block k HSZ.out.lt (by have := HLT.out.1; simp; omega)).trans HSZ.out)
  have HPT := Lib.hid (show VarAt W4 (k + 1) 52 [.slice none 0 0, .slice none 0 0, .slice none 0 0, .int .i64 0, .int .i64 0, .int .i64 0, .bool false] from (hs4.block (k + 1) HPZ.out.lt (by have := HLT.out.1; simp; omega)).trans HPZ.out)
  have HT4 := Lib.hid (show Tabs W4 from HT0.out.1.below (SaveL.under (below_then HT0.out.2.1 (Nat.le_refl _) HBZ.out) hs4 HT0.out.2.2 (Nat.le_trans HT0.out.2.1.size HBZ.out.size)))
  clear he4 hs4 HXZ HSZ HPZ
  go_upto_region 6 with fail
  have HS3 := Lib.hid (fun W (hb : Below W4.heap.size W4 W) => And.intro ((HST.out.below hb).get (k := 0) rfl) (And.intro ((HST.out.below hb).get (k := 1) rfl) ((HST.out.below hb).get (k := 2) rfl)))
  refine wp_region_told [] 18 [false, false, false, false, false, false, false, false, false, false, false, false, false, false, false, false, false, false, false, false, false, false, false, false, false, false, false, false, false, false, false, false, false, false, false, false, false, false, false, false, false, false, true, true, true, true, true, true, true, true, true, true, true, true, true, true, true, true, true, true]
    [sLit (.pointer (some ⟨x, 0, none⟩)),
    sLit (.pointer (some ⟨x, 0, none⟩)),
    sLit (.pointer (some ⟨x, 0, none⟩)),
    sLit (.pointer (some ⟨g, 0, none⟩)),
    sOne (fun v W => IsC zeroC v W) (fun _ _ _ h hb => h.below hb),
    sLit (.agg #[.int .i64 5, .int .i64 0, .int .i64 0]),
    sOne (fun v W => IsC zeroC v W) (fun _ _ _ h hb => h.below hb),
    sLit (.pointer (some ⟨x, 0, none⟩)),
    sLit (.pointer (some ⟨x, 0, none⟩)),
    sLit (.pointer (some ⟨x, 0, none⟩)),
    sLit (.pointer (some ⟨g, 0, none⟩)),
    sLit (.agg #[.int .i64 0, .int .i64 0, .int .i64 0]),
    sLit (.pointer (some ⟨x, 0, none⟩)),
    sLit (.pointer (some ⟨x, 0, none⟩)),
    sLit (.pointer (some ⟨x, 0, none⟩)),
    sLit (.pointer (some ⟨g, 0, none⟩)),
    sLit (.bool false),
    sRep] (by kernel_rfl) (by kernel_rfl) (by kernel_rfl) (fun F hF => ?_)
  simp only [over, overL, Nat.reduceAdd] at hF
  obtain rfl := funext hF
  clear hF
  refine ⟨⟨?_, ?_, ?_, ?_, ?_, ?_, ?_, ?_, ?_, ?_, ?_, ?_, ?_, ?_, ?_, ?_, ?_, ?_, trivial⟩, ?_⟩
  · intro V W hb hd K hK _
    clear hd
    go_wp2_with fail
    refine hK _ _ ?_ ?_ ?_ ?_
    · rfl
    · exact Below.refl _ _
    · exact rfl
    · trivial
  · intro V W hb hd K hK _
    have h0 : (V 42) = .pointer (some ⟨x, 0, none⟩) := hd 0 (by kernel_rfl)
    clear hd
    go_wp2_with fail
    refine hK _ _ ?_ ?_ ?_ ?_
    · rfl
    · exact Below.refl _ _
    · exact rfl
    · trivial
  · intro V W hb hd K hK _
    have h1 : (V 43) = .pointer (some ⟨x, 0, none⟩) := hd 1 (by kernel_rfl)
    clear hd
    go_wp2_with fail
    refine hK _ _ ?_ ?_ ?_ ?_
    · rfl
    · exact Below.refl _ _
    · exact rfl
    · trivial
  · intro V W hb hd K hK _
    have h2 : (V 44) = .pointer (some ⟨x, 0, none⟩) := hd 2 (by kernel_rfl)
    clear hd
    obtain m0 := (HX4.out.below hb).get (k := 0) rfl
    go_wp2_with fail
    refine hK _ _ ?_ ?_ ?_ ?_
    · rfl
    · exact Below.refl _ _
    · exact rfl
    · trivial
  · intro V W hb hd K hK _
    have h3 : (V 45) = .pointer (some ⟨g, 0, none⟩) := hd 3 (by kernel_rfl)
    clear hd
    have HC := Lib.hid (eContent W (HT4.out.below hb) (HE4.out.below hb))
    go_wp2_with fail
    refine HC.out.mono ?_
    rintro e w1 ⟨v1, rfl, hc1, hb1⟩
    obtain ⟨o1, n1, k1, o2, n2, k2, o3, n3, k3, rfl, hl1⟩ := hc1.form
    have HC1 := Lib.hid hc1
    clear hc1 hl1
    go_wp2_with fail
    refine hK _ _ ?_ ?_ ?_ ?_
    · rfl
    · exact hb1
    · exact HC1.out
    · trivial
  · intro V W hb hd K hK _
    clear hd
    obtain ⟨m0, m1, m2⟩ := (HS3.out W hb)
    go_wp2_with fail
    refine hK _ _ ?_ ?_ ?_ ?_
    · rfl
    · exact Below.refl _ _
    · exact rfl
    · trivial
  · intro V W hb hd K hK _
    have h4 : IsC zeroC (V 46) W := hd 4 (by kernel_rfl)
    have h5 : (V 47) = .agg #[.int .i64 5, .int .i64 0, .int .i64 0] := hd 5 (by kernel_rfl)
    clear hd
    obtain ⟨o1, n1, k1, o2, n2, k2, o3, n3, k3, e4, -⟩ := h4.form
    have HU := Lib.hid (upto_zero h4)
    rw [e4] at HU
    go_wp2_with (first | rw [e4])
    refine HU.out.mono ?_
    rintro e w1 ⟨v1, rfl, hc1, hb1⟩
    obtain ⟨p1, q1, r1, p2, q2, r2, p3, q3, r3, rfl, hl1⟩ := hc1.form
    have HC1 := Lib.hid hc1
    clear hc1 hl1
    go_wp2_with fail
    refine hK _ _ ?_ ?_ ?_ ?_
    · rfl
    · exact hb1
    · exact HC1.out
    · trivial
  · intro V W hb hd K hK _
    clear hd
    go_wp2_with fail
    refine hK _ _ ?_ ?_ ?_ ?_
    · rfl
    · exact Below.refl _ _
    · exact rfl
    · trivial
  · intro V W hb hd K hK _
    have h7 : (V 49) = .pointer (some ⟨x, 0, none⟩) := hd 7 (by kernel_rfl)
    clear hd
    go_wp2_with fail
    refine hK _ _ ?_ ?_ ?_ ?_
    · rfl
    · exact Below.refl _ _
    · exact rfl
    · trivial
  · intro V W hb hd K hK _
    have h8 : (V 50) = .pointer (some ⟨x, 0, none⟩) := hd 8 (by kernel_rfl)
    clear hd
    go_wp2_with fail
    refine hK _ _ ?_ ?_ ?_ ?_
    · rfl
    · exact Below.refl _ _
    · exact rfl
    · trivial
  · intro V W hb hd K hK _
    have h9 : (V 51) = .pointer (some ⟨x, 0, none⟩) := hd 9 (by kernel_rfl)
    clear hd
    obtain m0 := (HX4.out.below hb).get (k := 0) rfl
    go_wp2_with fail
    refine hK _ _ ?_ ?_ ?_ ?_
    · rfl
    · exact Below.refl _ _
    · exact rfl
    · trivial
  · intro V W hb hd K hK _
    have h10 : (V 52) = .pointer (some ⟨g, 0, none⟩) := hd 10 (by kernel_rfl)
    clear hd
    go_wp2_with fail
    refine (eFence0 W (HE4.out.below hb)).mono ?_
    rintro e w1 ⟨rfl, hb1⟩
    go_wp2_with fail
    refine hK _ _ ?_ ?_ ?_ ?_
    · rfl
    · exact hb1
    · rfl
    · trivial
  · intro V W hb hd K hK _
    clear hd
    go_wp2_with fail
    refine hK _ _ ?_ ?_ ?_ ?_
    · rfl
    · exact Below.refl _ _
    · exact rfl
    · trivial
  · intro V W hb hd K hK _
    have h12 : (V 54) = .pointer (some ⟨x, 0, none⟩) := hd 12 (by kernel_rfl)
    clear hd
    go_wp2_with fail
    refine hK _ _ ?_ ?_ ?_ ?_
    · rfl
    · exact Below.refl _ _
    · exact rfl
    · trivial
  · intro V W hb hd K hK _
    have h13 : (V 55) = .pointer (some ⟨x, 0, none⟩) := hd 13 (by kernel_rfl)
    clear hd
    go_wp2_with fail
    refine hK _ _ ?_ ?_ ?_ ?_
    · rfl
    · exact Below.refl _ _
    · exact rfl
    · trivial
  · intro V W hb hd K hK _
    have h14 : (V 56) = .pointer (some ⟨x, 0, none⟩) := hd 14 (by kernel_rfl)
    clear hd
    obtain m0 := (HX4.out.below hb).get (k := 0) rfl
    go_wp2_with fail
    refine hK _ _ ?_ ?_ ?_ ?_
    · rfl
    · exact Below.refl _ _
    · exact rfl
    · trivial
  · intro V W hb hd K hK _
    have h15 : (V 57) = .pointer (some ⟨g, 0, none⟩) := hd 15 (by kernel_rfl)
    clear hd
    go_wp2_with fail
    refine (eQuar W (HE4.out.below hb)).mono ?_
    rintro e w1 ⟨rfl, rfl⟩
    go_wp2_with fail
    refine hK _ _ ?_ ?_ ?_ ?_
    · rfl
    · exact Below.refl _ _
    · rfl
    · trivial
  · intro V W hb hd K hK _
    have h6 : IsC zeroC (V 48) W := hd 6 (by kernel_rfl)
    have h11 : (V 53) = .agg #[.int .i64 0, .int .i64 0, .int .i64 0] := hd 11 (by kernel_rfl)
    have h16 : (V 58) = .bool false := hd 16 (by kernel_rfl)
    clear hd
    obtain ⟨o1, n1, k1, o2, n2, k2, o3, n3, k3, e6, -⟩ := h6.form
    go_wp2_with (first | rw [e6] | rw [h11] | rw [h16])
    refine hK _ _ ?_ ?_ ?_ ?_
    · rfl
    · exact Below.refl _ _
    · exact ⟨o1, n1, k1, o2, n2, k2, o3, n3, k3, by first | rfl | (rw [e6, h11, h16]; rfl)⟩
    · trivial
  · intro V W hb hd hap
    have h17 : IsRep (V 59) := hd 17 (by decide)
    clear hd hap
    simp only [List.drop_succ_cons, List.drop_zero]
    obtain ⟨o1, n1, k1, o2, n2, k2, o3, n3, k3, e17⟩ := h17
    have HP5 := Lib.hid (HPT.out.below hb)
    have HB5 := Lib.hid hb
    have HST5 := Lib.hid (VarAt.storeAll (P := Tryz.prog) HP5.out 52 7 [.slice o1 n1 k1, .slice o2 n2 k2, .slice o3 n3 k3, .int .i64 0, .int .i64 0, .int .i64 0, .bool false] rfl rfl (by kernel_rfl) rfl)
    rw [e17]
    clear hb e17
    go_wp2_with (refine wpList_store_run rfl 52 _ _ rfl (.pointer (some ⟨k + 1, 0, none⟩)) (.agg #[.slice o1 n1 k1, .slice o2 n2 k2, .slice o3 n3 k3, .int .i64 0, .int .i64 0, .int .i64 0, .bool false]) rfl rfl HST5.out ?_)
    have HR5 := Lib.hid (HP5.out.row [.slice o1 n1 k1, .slice o2 n2 k2, .slice o3 n3 k3, .int .i64 0, .int .i64 0, .int .i64 0, .bool false])
    have u0 := HR5.out.get (k := 0) rfl
    have u1 := HR5.out.get (k := 1) rfl
    have u2 := HR5.out.get (k := 2) rfl
    have u3 := HR5.out.get (k := 3) rfl
    have u4 := HR5.out.get (k := 4) rfl
    have u5 := HR5.out.get (k := 5) rfl
    have u6 := HR5.out.get (k := 6) rfl
    refine bodyPost_ret (v := .tuple #[.agg #[.slice o1 n1 k1, .slice o2 n2 k2, .slice o3 n3 k3, .int .i64 0, .int .i64 0, .int .i64 0, .bool false], .int .i64 0]) (by simp [results, Tryz.f25, go_sem, u0, u1, u2, u3, u4, u5, u6]) rfl ?_
    have hne : x ≠ k + 1 ∧ g ≠ k + 1 := by have := HLT.out.1; omega
    refine ⟨o1, n1, k1, o2, n2, k2, o3, n3, k3, rfl, (HX4.out.below HB5.out).row_other _ hne.1, (HE4.out.below HB5.out).row_other _ hne.2, ?_⟩
    have hs := ((SaveL.below (l := [d, m, g]) HBZ.out).trans HS4.out).trans (SaveL.below HB5.out)
    exact ⟨hs.os, hs.tape, hs.output, Nat.le_trans hs.size (by simp), fun i hi hn => (setRow_other W (k + 1) i _ (by have := HLT.out.2.2; omega)).trans (hs.block i hi hn)⟩

theorem rfence_5 {pw : ByteArray} {x g d mm tb : Nat} (w : World) (hx : RepAt w x g) (h : EngAt w g pw d mm tb 5) : Calls Tryz.prog 27 #[.pointer (some ⟨x, 0, none⟩)] w fun e w' => e = .returned (.agg #[.int .i64 5, .int .i64 0, .int .i64 0]) ∧ Below w.heap.size w w' := by
  obtain ⟨W1, hW1⟩ : ∃ W, W = w.alloc (.cells #[.int .i64 0, .int .i64 0, .int .i64 0] 37) := ⟨_, rfl⟩
  have hb1 : Below w.heap.size w W1 := by rw [hW1]; exact (Below.refl _ _).alloc (Nat.le_refl _) _
  obtain ⟨k, hk⟩ : ∃ k, k = w.heap.size := ⟨_, rfl⟩
  have HS := Lib.hid (show S3 W1 k zeroS from by rw [hk, hW1]; exact S3.new w zeroS)
  have HF := Lib.hid (eFence W1 (h.below hb1))
  have HB := Lib.hid hb1
  have HK := Lib.hid hk
  have x0 := (VarAt.below hx hb1).get (k := 0) rfl
  clear hx h hb1
  go_enter Tryz.func27, Tryz.ntmps27
  go_upto_region 1 with fail
  rw [← hW1, ← hk]
  clear hW1 hk
  go_wp2_with fail
  refine HF.out.mono ?_
  rintro e w2 ⟨rfl, hb2⟩
  have HS2 := Lib.hid (HS.out.below hb2)
  have HB2 := Lib.hid (below_then HB.out (Nat.le_refl _) hb2)
  obtain ⟨-, t0, t1, t2, f0, f1, f2⟩ := HS2.out
  clear hb2
  go_wp2_with fail
  obtain ⟨-, u0, u1, u2, -⟩ := s3_put HS2.out ⟨5, 0, 0⟩
  refine bodyPost_ret (v := .agg #[.int .i64 5, .int .i64 0, .int .i64 0]) (by simp [results, Tryz.f27, go_sem, u0, u1, u2]) rfl ?_
  exact ⟨rfl, s3_put_below HB2.out (by rw [HK.out]; exact Nat.le_refl _) _ _ _⟩
set_option maxRecDepth 100000 in
set_option maxHeartbeats 4000000 in
theorem rwrite_5 {pw : ByteArray} {x g d mm tb : Nat} (w : World) (hx : RepAt w x g) (h : EngAt w g pw d mm tb 5) : Calls Tryz.prog 26 #[.pointer (some ⟨x, 0, none⟩), .agg #[.int .i64 1, .int .i64 1, .string ⟨#[107]⟩, .string ⟨#[]⟩, .string ⟨#[]⟩, .int .i64 0, .int .i64 5, .int .i64 0, .int .i64 0, .slice none 0 0]] w fun e w' => e = .returned (.int .i64 180) ∧ Below w.heap.size w w' := by
  obtain ⟨W1, hW1⟩ : ∃ W, W = w.alloc (.cells #[.int .i64 1, .int .i64 1, .string ⟨#[107]⟩, .string ⟨#[]⟩, .string ⟨#[]⟩, .int .i64 0, .int .i64 5, .int .i64 0, .int .i64 0, .slice none 0 0] 40) := ⟨_, rfl⟩
  have hb1 : Below w.heap.size w W1 := by rw [hW1]; exact (Below.refl _ _).alloc (Nat.le_refl _) _
  obtain ⟨k, hk⟩ : ∃ k, k = w.heap.size := ⟨_, rfl⟩
  have HM := Lib.hid (show VarAt W1 k 40 [.int .i64 1, .int .i64 1, .string ⟨#[107]⟩, .string ⟨#[]⟩, .string ⟨#[]⟩, .int .i64 0, .int .i64 5, .int .i64 0, .int .i64 0, .slice none 0 0] from by rw [hk, hW1]; exact VarAt.new w _ _)
  have HX := Lib.hid (VarAt.below hx hb1)
  have HE := Lib.hid (h.below hb1)
  have HQ := Lib.hid (eQuar W1 (h.below hb1))
  have HB := Lib.hid hb1
  have x0 := HX.out.get (k := 0) rfl
  have hxl := HX.out.lt
  have hkl := HM.out.lt
  have m6 := HM.out.get (k := 6) rfl
  have m7 := HM.out.get (k := 7) rfl
  have m8 := HM.out.get (k := 8) rfl
  clear hx h hb1
  go_enter Tryz.func26, Tryz.ntmps26
  go_upto_region 1 with fail
  rw [← hW1, ← hk]
  clear hW1 hk
  go_wp2_with fail
  refine HQ.out.mono ?_
  rintro e w1 ⟨rfl, rfl⟩
  go_upto_region 3 with fail
  refine wp_region_calm (by kernel_rfl) (by kernel_rfl) ?_
  repeat (go_big_quiet_step (first
    | (go_at_call 44; exact calm (eFloor _ (HE.out.below (BW.below _))))
    | (go_at_call 42; exact calm (less05 _))))
  refine wpQuiet_nil ?_
  rintro _ ⟨y, rfl⟩
  obtain ⟨Y, hY⟩ : ∃ Y, Y = y.at := ⟨_, rfl⟩
  have hby : Below W1.heap.size W1 Y := by rw [hY]; exact y.below
  have HBY := Lib.hid (below_then HB.out (Nat.le_refl _) hby)
  have HEY := Lib.hid (HE.out.below hby)
  have HXY := Lib.hid (HX.out.below hby)
  have HMY := Lib.hid (HM.out.below hby)
  rw [← hY]
  clear hY hby x0 hxl hkl m6 m7 m8
  have x0 := HXY.out.get (k := 0) rfl
  have hxl := HXY.out.lt
  have hkl := HMY.out.lt
  have m6 := HMY.out.get (k := 6) rfl
  have m7 := HMY.out.get (k := 7) rfl
  have m8 := HMY.out.get (k := 8) rfl
  go_upto_region 5 with fail
  refine wp_region_calm (by kernel_rfl) (by kernel_rfl) ?_
  repeat (go_big_quiet_step (first
    | (go_at_call 45; exact calm (eFence _ (HEY.out.below (BW.below _))))
    | (go_at_call 42; exact calm (less55 _))))
  refine wpQuiet_nil ?_
  rintro _ ⟨y, rfl⟩
  have HBZ := Lib.hid (below_then HBY.out (Nat.le_refl _) y.below)
  clear x0 hxl hkl m6 m7 m8
  go_wp2_with fail
  go_ret
  exact ⟨rfl, HBZ.out⟩

set_option maxRecDepth 100000 in
set_option maxHeartbeats 4000000 in
theorem alive27_any (w : World) (hT : Tabs w) : Calls Tryz.prog 10 #[] w (RetB true w) := by
  have HO := Lib.hid (lopen_any w)
  have HT := Lib.hid hT
  have hn := eqlT_run ⟨5, 0, 0⟩ ⟨5, 0, 0⟩ true (by decide)
  simp only [] at hn
  have hg := guardT_run .eql
  clear hT
  go_enter Tryz.func10, Tryz.ntmps10
  go_wp2_with fail
  refine HO.out.mono ?_
  rintro e w1 ⟨x, g, d, m, mm, tb, rfl, hr, hnw, hg1, hx1, hd1, hm1, hb1⟩
  have HNE := Lib.hid (show x ≠ d ∧ x ≠ m ∧ x ≠ g from rep_ne hr hnw)
  have HP := Lib.hid (prepare_new _ _ x g d m mm tb w w1 HT.out hb1 (by intro y hy; simp only [List.mem_cons, List.not_mem_nil, or_false] at hy; rcases hy with rfl | rfl | rfl; exact hd1; exact hm1; exact hg1) hr hnw HNE.out rfl)
  have HB1 := Lib.hid (And.intro hb1 (And.intro hg1 (And.intro hx1 (And.intro hd1 hm1))))
  clear hr hnw hg1 hx1 hd1 hm1 hb1
  go_wp2_with fail
  refine HP.out.mono ?_
  rintro e w2 ⟨o1, n1, k1, o2, n2, k2, o3, n3, k3, rfl, hr2, he2, hs2⟩
  have HS2 := Lib.hid (SaveL.under HB1.out.1 hs2 (by intro y hy; simp only [List.mem_cons, List.not_mem_nil, or_false] at hy; rcases hy with rfl | rfl | rfl; exact HB1.out.2.2.2.1; exact HB1.out.2.2.2.2; exact HB1.out.2.1) HB1.out.1.size)
  have HR2 := Lib.hid (And.intro hr2 he2)
  clear hr2 he2 hs2
  go_upto_region 6 with fail
  obtain ⟨W3, hW3⟩ : ∃ X, X = w2.alloc (.cells #[.slice o1 n1 k1, .slice o2 n2 k2, .slice o3 n3 k3, .int .i64 0, .int .i64 0, .int .i64 0, .bool false] 52) := ⟨_, rfl⟩
  obtain ⟨W4, hW4⟩ : ∃ X, X = W3.alloc (.cells #[.int .i64 1, .int .i64 1, .string ⟨#[107]⟩, .string ⟨#[]⟩, .string ⟨#[]⟩, .int .i64 0, .int .i64 5, .int .i64 0, .int .i64 0, .slice none 0 0] 40) := ⟨_, rfl⟩
  have b3 : Below w2.heap.size w2 W3 := by rw [hW3]; exact (Below.refl _ _).alloc (Nat.le_refl _) _
  have b4 : Below w2.heap.size w2 W4 := by rw [hW4]; exact b3.alloc b3.size _
  have z3 : W3.heap.size = w2.heap.size + 1 := by rw [hW3]; simp
  obtain ⟨km, hkm⟩ : ∃ k, k = w2.heap.size + 1 := ⟨_, rfl⟩
  have HM := Lib.hid (show VarAt W4 km 40 [.int .i64 1, .int .i64 1, .string ⟨#[107]⟩, .string ⟨#[]⟩, .string ⟨#[]⟩, .int .i64 0, .int .i64 5, .int .i64 0, .int .i64 0, .slice none 0 0] from by rw [hkm, ← z3, hW4]; exact VarAt.new W3 _ _)
  have HR4 := Lib.hid (And.intro (VarAt.below HR2.out.1 b4) (HR2.out.2.below b4))
  have HB4 := Lib.hid (below_then HS2.out (Nat.le_refl _) b4)
  rw [← hW3, ← hW4, ← hkm]
  clear hW3 hW4 hkm b3 b4 z3
  have m0 := HM.out.get (k := 0) rfl
  have m1 := HM.out.get (k := 1) rfl
  have m2 := HM.out.get (k := 2) rfl
  have m3 := HM.out.get (k := 3) rfl
  have m4 := HM.out.get (k := 4) rfl
  have m5 := HM.out.get (k := 5) rfl
  have m6 := HM.out.get (k := 6) rfl
  have m7 := HM.out.get (k := 7) rfl
  have m8 := HM.out.get (k := 8) rfl
  have m9 := HM.out.get (k := 9) rfl
  have HWR := Lib.hid (rwrite_5 W4 HR4.out.1 HR4.out.2)
  go_wp2_with fail
  refine HWR.out.mono ?_
  rintro e w5 ⟨rfl, hb5⟩
  have HFE := Lib.hid (rfence_5 w5 (VarAt.below HR4.out.1 hb5) (HR4.out.2.below hb5))
  have HB5 := Lib.hid (below_then HB4.out (Nat.le_refl _) hb5)
  clear hb5 m0 m1 m2 m3 m4 m5 m6 m7 m8 m9
  go_wp2_with fail
  refine HFE.out.mono ?_
  rintro e w6 ⟨rfl, hb6⟩
  have HB6 := Lib.hid (below_then HB5.out (Nat.le_refl _) hb6)
  clear hb6
  go_wp2_with fail
  go_ret
  exact ⟨rfl, HB6.out⟩
end Go.Proofs.YtmjelcjdfamikaaGreatDoor.Eng

namespace Go.Proofs.YtmjelcjdfamikaaGreatDoor.Rpl
open Go.RowKit Go.Proofs.YtmjelcjdfamikaaGreatDoor.Mut Go.Proofs.YtmjelcjdfamikaaGreatDoor.RegInv
set_option linter.unusedSectionVars false
variable [Inhabited Lim]

theorem part_filter {c : Con} {n : Nat} (h : Mut.Good c n) (fr tt : ByteArray) : ∃ p : Mu → Bool, partF fr tt c = c.filter p := by
  classical
  refine ⟨fun m => if isW m then reachKey fr tt m else inKey fr tt m.key, ?_⟩
  unfold partF Con.filter
  rw [Con.mk.injEq]
  refine ⟨List.filter_congr fun m hm => ?_, List.filter_congr fun m hm => ?_, List.filter_congr fun m hm => ?_⟩
  · rw [if_neg]
    exact fun k => absurd k.2 (h.reps.cells m hm).2.2
  · rw [if_pos (h.reps.wipes m hm).2]
  · rw [if_neg]
    exact fun k => k.1 ((h.reps.sibs m).1 hm).2
theorem part_good {c : Con} {n : Nat} (h : Mut.Good c n) (fr tt : ByteArray) : Mut.Good (partF fr tt c) n := by
  obtain ⟨p, e⟩ := part_filter h fr tt
  rw [e]
  exact h.filter p

set_option maxHeartbeats 4000000 in
set_option maxRecDepth 100000 in
theorem parts_any (v1 : Value) (A : List Ro) (fr tt : ByteArray) (w : World) (hT : Tabs w) (hA : MRow w v1 A) (zA : ∀ x ∈ A, x.1.key.size ≤ maxLen ∧ x.1.fin.size ≤ maxLen ∧ x.1.val.size ≤ maxLen) :
    Calls Tryz.prog 3 #[v1, .string fr, .string tt] w (RetB true w) := by
  have HGa := Lib.hid (great_any v1 A 40 w hA (by decide) zA)
  obtain ⟨ga, hga⟩ : ∃ q, q = greatF (A.map (·.1)) 40 := ⟨_, rfl⟩
  rw [← hga] at HGa
  obtain ⟨la, hla⟩ : ∃ l, l = A.map (·.1) := ⟨_, rfl⟩
  rw [← hla] at hga
  have HRA := Lib.hid (show Reads w v1 la from ⟨A, hla.symm, hA⟩)
  obtain ⟨ao, ac, rfl, -, -⟩ := hA.form
  obtain ⟨na, hna⟩ : ∃ k, k = A.length := ⟨_, rfl⟩
  rw [← hna] at HGa HRA ⊢
  have HT := Lib.hid hT
  have HGG := Lib.hid hga
  clear hT hA zA hga hna hla
  obtain ⟨x, hx⟩ : ∃ x, x = Mut.leftOf la := ⟨_, rfl⟩
  have HXY := Lib.hid hx
  clear hx
  go_enter Tryz.func3, Tryz.ntmps3
  go_wp2_with fail
  refine HGa.out.mono ?_
  rintro e w1 ⟨rfl, rfl⟩
  cases ga
  case true =>
    go_wp2_with fail
    go_ret
    exact ⟨rfl, Below.refl _ _⟩
  obtain ⟨lA, sA⟩ := great_small HGG.out.symm
  have HO := Lib.hid (show ∀ W, RowKit.Below w.heap.size w W → Calls Tryz.prog 7 #[.slice ao na ac] W (RetC x W) ∧ Calls Tryz.prog 9 #[.slice ao na ac] W (RetC x W) from by
    rw [HXY.out]
    exact fun W h => ⟨c_of (HT.out.below h) (HRA.out.below h) (by omega) sA, c_refof (HT.out.below h) (HRA.out.below h) (by omega) sA⟩)
  have HG := Lib.hid (show Mut.Good x 40 from by rw [HXY.out]; exact (Mut.leftOf_good la).more lA)
  have HPG := Lib.hid (part_good HG.out fr tt)
  clear lA sA HGG HGa HRA HXY
  go_wp2_with fail
  refine (HO.out _ (Below.refl _ _)).1.mono ?_
  rintro e w1 ⟨vv, rfl, hl, hb⟩
  obtain ⟨p1, q1, r1, p2, q2, r2, p3, q3, r3, rfl, hl1⟩ := hl.form
  have HB1 := Lib.hid hb
  have HP1 := Lib.hid (part_any fr tt hl1.is HG.out (by decide))
  clear hl hb hl1
  go_wp2_with fail
  refine HP1.out.mono ?_
  rintro e w2 ⟨vv, rfl, hl, hb⟩
  obtain ⟨p4, q4, r4, p5, q5, r5, p6, q6, r6, rfl, hl1⟩ := hl.form
  have HX2 := Lib.hid hl1
  have HB2 := Lib.hid (below_then HB1.out (Nat.le_refl _) hb)
  clear hl hb hl1 HP1
  go_wp2_with fail
  refine (HO.out _ HB2.out).2.mono ?_
  rintro e w3 ⟨vv, rfl, hl, hb⟩
  obtain ⟨o1, n1, k1, o2, n2, k2, o3, n3, k3, rfl, hl1⟩ := hl.form
  have HB3 := Lib.hid (below_then HB2.out (Nat.le_refl _) hb)
  have HX3 := Lib.hid (HX2.out.below hb)
  have HP3 := Lib.hid (partref_any fr tt hl1.is HG.out (by decide))
  clear hl hb hl1 HX2
  go_wp2_with fail
  refine HP3.out.mono ?_
  rintro e w4 ⟨vv, rfl, hl, hb⟩
  obtain ⟨o4, n4, k4, o5, n5, k5, o6, n6, k6, rfl, hl1⟩ := hl.form
  have HB4 := Lib.hid (below_then HB3.out (Nat.le_refl _) hb)
  have HI := Lib.hid (c_is true (by simp) (HX3.out.below hb).is HPG.out hl1.is HPG.out)
  clear hl hb hl1 HX3 HP3
  go_wp2_with fail
  refine HI.out.mono ?_
  rintro e w5 ⟨rfl, hb⟩
  have HB5 := Lib.hid (below_then HB4.out (Nat.le_refl _) hb)
  have HAL := Lib.hid (Eng.alive27_any w5 (HT.out.below HB5.out))
  clear hb
  go_wp2_with fail
  refine HAL.out.mono ?_
  rintro e w6 ⟨rfl, hb⟩
  have HB6 := Lib.hid (below_then HB5.out (Nat.le_refl _) hb)
  clear hb
  go_wp2_with fail
  go_ret
  exact ⟨rfl, HB6.out⟩
end Go.Proofs.YtmjelcjdfamikaaGreatDoor.Rpl
