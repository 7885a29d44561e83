/- Stamps' maxima; rows of reports; the greatest floor (layers 4, 25). -/
import Derived.Test.YthdbilggnjjkhaaGreatDoorUniPlain
import Derived.Test.YthdbilggnjjkhaaGreatDoorSup
set_option linter.unusedSimpArgs false
set_option linter.unusedVariables false
namespace Go.Proofs.YthdbilggnjjkhaaGreatDoor.Mut
open Go.RowKit Go.Sort Go.Proofs.YthdbilggnjjkhaaGreatDoor.Ord Go.Proofs.YthdbilggnjjkhaaGreatDoor.RegInv
set_option linter.unusedSectionVars false
variable [Inhabited Lim]

/-! ## A stamp's variable -/
structure S3 (w : World) (k : Nat) (s : Stp) : Prop where
  lt : k < w.heap.size
  c0 : w.cell? ⟨k, 0, none⟩ = some (.int .i64 s.p)
  c1 : w.cell? ⟨k, 1, none⟩ = some (.int .i64 s.l)
  c2 : w.cell? ⟨k, 2, none⟩ = some (.int .i64 s.w)
  f0 : w.frozen? ⟨k, 0, none⟩ = false
  f1 : w.frozen? ⟨k, 1, none⟩ = false
  f2 : w.frozen? ⟨k, 2, none⟩ = false
theorem S3.new (w : World) (s : Stp) : S3 (w.alloc (.cells #[.int .i64 s.p, .int .i64 s.l, .int .i64 s.w] 23)) w.heap.size s :=
  ⟨by simp, by go_simp, by go_simp, by go_simp, by go_simp, by go_simp, by go_simp⟩
theorem S3.below {w w' : World} {k : Nat} {s : Stp} (h : S3 w k s) (hb : RowKit.Below w.heap.size w w') : S3 w' k s := by
  have e : ∀ o, w'.cell? ⟨k, o, none⟩ = w.cell? ⟨k, o, none⟩ := fun o => hb.cell (p := ⟨k, o, none⟩) h.lt
  have f : ∀ o, w'.frozen? ⟨k, o, none⟩ = w.frozen? ⟨k, o, none⟩ := fun o => hb.frozen (p := ⟨k, o, none⟩) h.lt
  obtain ⟨h0, h1, h2, h3, h4, h5, h6⟩ := h
  exact ⟨Nat.lt_of_lt_of_le h0 hb.size, (e _).trans h1, (e _).trans h2, (e _).trans h3, (f _).trans h4, (f _).trans h5, (f _).trans h6⟩
theorem s3_put {w : World} {k : Nat} {s : Stp} (h : S3 w k s) (t : Stp) : S3 (((w.setCell ⟨k, 0, none⟩ (.int .i64 t.p)).setCell ⟨k, 1, none⟩ (.int .i64 t.l)).setCell ⟨k, 2, none⟩ (.int .i64 t.w)) k t := by
  obtain ⟨h0, h1, h2, h3, h4, h5, h6⟩ := h
  exact ⟨by simpa using h0, by go_simp, by go_simp, by go_simp, by go_simp, by go_simp, by go_simp⟩
theorem S3.other {w : World} {k j o : Nat} {s : Stp} {u : Value} (h : S3 w k s) (hj : j ≠ k) : S3 (w.setCell ⟨j, o, none⟩ u) k s := by
  have e : ∀ i, (w.setCell ⟨j, o, none⟩ u).cell? ⟨k, i, none⟩ = w.cell? ⟨k, i, none⟩ := fun i => World.cell?_of_block (a := ⟨k, i, none⟩) (heap_setCell_far w ⟨j, o, none⟩ u k hj)
  have f : ∀ i, (w.setCell ⟨j, o, none⟩ u).frozen? ⟨k, i, none⟩ = w.frozen? ⟨k, i, none⟩ := fun i => by
    unfold World.frozen?
    rw [heap_setCell_far w ⟨j, o, none⟩ u k hj]
  obtain ⟨h0, h1, h2, h3, h4, h5, h6⟩ := h
  exact ⟨by simpa using h0, (e _).trans h1, (e _).trans h2, (e _).trans h3, (f _).trans h4, (f _).trans h5, (f _).trans h6⟩
theorem s3_put_below {w0 w : World} {k n : Nat} (h : RowKit.Below n w0 w) (hk : n ≤ k) (a b d : Value) : RowKit.Below n w0 (((w.setCell ⟨k, 0, none⟩ a).setCell ⟨k, 1, none⟩ b).setCell ⟨k, 2, none⟩ d) :=
  ((h.setCell (p := ⟨k, 0, none⟩) hk _).setCell (p := ⟨k, 1, none⟩) hk _).setCell (p := ⟨k, 2, none⟩) hk _

def maxS (a b : Stp) : Stp := if stC a b < 0 then b else a
def zeroS : Stp := ⟨0, 0, 0⟩
/-- A known stamp comes back. -/
def RetS (s : Stp) (w : World) (e : Ending) (w' : World) : Prop := e = .returned (vS s) ∧ RowKit.Below w.heap.size w w'

set_option maxHeartbeats 2000000 in
set_option maxRecDepth 100000 in
theorem max_any (a b : Stp) (w : World) : Calls Tryz.prog 59 #[vS a, vS b] w (RetS (maxS a b) w) := by
  have HL := Lib.hid (fun W => stless_any a b W)
  obtain ⟨Q, hQ⟩ : ∃ Q, Q = decide (stC a b < 0) := ⟨_, rfl⟩
  rw [← hQ] at HL
  obtain ⟨M, hM⟩ : ∃ M, M = maxS a b := ⟨_, rfl⟩
  have HM := Lib.hid (show M = if Q = true then b else a by rw [hM, hQ]; unfold maxS; simp only [decide_eq_true_eq])
  rw [← hM]
  obtain ⟨W0, hW0⟩ : ∃ W0, W0 = ((w.alloc (.cells #[.int .i64 a.p, .int .i64 a.l, .int .i64 a.w] 23)).alloc (.cells #[.int .i64 b.p, .int .i64 b.l, .int .i64 b.w] 23)).alloc (.cells #[.int .i64 0, .int .i64 0, .int .i64 0] 23) := ⟨_, rfl⟩
  have hb0 : RowKit.Below w.heap.size w W0 := by rw [hW0]; exact (((Below.refl _ w).alloc (Nat.le_refl _) _).alloc (by simp) _).alloc (by simp; omega) _
  have hA : S3 W0 w.heap.size a := by
    rw [hW0]
    exact ((S3.new w a).below ((Below.refl _ _).alloc (Nat.le_refl _) _)).below ((Below.refl _ _).alloc (Nat.le_refl _) _)
  have hB : S3 W0 (w.heap.size + 1) b := by
    rw [hW0]
    have := S3.new (w.alloc (.cells #[.int .i64 a.p, .int .i64 a.l, .int .i64 a.w] 23)) b
    rw [World.size_alloc] at this
    exact this.below ((Below.refl _ _).alloc (Nat.le_refl _) _)
  have hT : S3 W0 (w.heap.size + 1 + 1) zeroS := by
    rw [hW0]
    have := S3.new ((w.alloc (.cells #[.int .i64 a.p, .int .i64 a.l, .int .i64 a.w] 23)).alloc (.cells #[.int .i64 b.p, .int .i64 b.l, .int .i64 b.w] 23)) zeroS
    rw [World.size_alloc, World.size_alloc] at this
    exact this
  have HA := Lib.hid hA
  have HB := Lib.hid hB
  have HT := Lib.hid hT
  have HB0 := Lib.hid hb0
  have HW := Lib.hid hW0
  clear hA hB hT hb0 hW0 hQ hM
  obtain ⟨ap, al, aw⟩ := a
  obtain ⟨bp, bl, bw⟩ := b
  unfold RetS
  unfold vS at HL ⊢
  simp only [] at HL ⊢
  go_enter Tryz.func59, Tryz.ntmps59
  go_upto_region 1 with fail
  rw [← HW.out]
  clear HW
  obtain ⟨-, a0, a1, a2, -⟩ := HA.out
  obtain ⟨-, b0, b1, b2, -⟩ := HB.out
  simp only [] at a0 a1 a2 b0 b1 b2
  go_wp2_with fail
  refine (HL.out _).mono ?_
  rintro e w1 ⟨rfl, hb⟩
  have HB1 := Lib.hid (show RowKit.Below W0.heap.size W0 w1 from hb.below)
  have HT1 := Lib.hid (HT.out.below hb.below)
  have HA1 := Lib.hid (HA.out.below hb.below)
  have HBb := Lib.hid (HB.out.below hb.below)
  clear hb a0 a1 a2 b0 b1 b2
  obtain ⟨-, a0, a1, a2, -⟩ := HA1.out
  obtain ⟨-, b0, b1, b2, -⟩ := HBb.out
  obtain ⟨-, t0, t1, t2, f0, f1, f2⟩ := HT1.out
  simp only [] at a0 a1 a2 b0 b1 b2 t0 t1 t2
  cases Q
  · go_wp2_with fail
    obtain ⟨-, u0, u1, u2, -⟩ := s3_put HT1.out ⟨ap, al, aw⟩
    simp only [] at u0 u1 u2
    refine bodyPost_ret (v := .agg #[.int .i64 ap, .int .i64 al, .int .i64 aw]) (by simp [results, Tryz.f59, go_sem, u0, u1, u2]) rfl ?_
    exact ⟨by rw [HM.out]; rfl, s3_put_below (below_then HB0.out (Nat.le_refl _) HB1.out) (by omega) _ _ _⟩
  · go_wp2_with fail
    obtain ⟨-, u0, u1, u2, -⟩ := s3_put HT1.out ⟨bp, bl, bw⟩
    simp only [] at u0 u1 u2
    refine bodyPost_ret (v := .agg #[.int .i64 bp, .int .i64 bl, .int .i64 bw]) (by simp [results, Tryz.f59, go_sem, u0, u1, u2]) rfl ?_
    exact ⟨by rw [HM.out]; rfl, s3_put_below (below_then HB0.out (Nat.le_refl _) HB1.out) (by omega) _ _ _⟩

/-! ## Rows of reports -/
structure Rp where
  a : Value
  b : Value
  d : Value
  c : Con
  f : Stp
  q : Bool
def enR (x : Rp) : List Value := [x.a, x.b, x.d, .int .i64 x.f.p, .int .i64 x.f.l, .int .i64 x.f.w, .bool x.q]
def vR (x : Rp) : Value := .agg #[x.a, x.b, x.d, .int .i64 x.f.p, .int .i64 x.f.l, .int .i64 x.f.w, .bool x.q]
theorem enR_len (x : Rp) : (enR x).length = 7 := rfl
structure RRow (w : World) (v : Value) (R : List Rp) : Prop where
  row : Lst 7 enR w v R
  con : ∀ x ∈ R, Lies w x.a x.b x.d x.c
theorem RRow.below {w w' : World} {v : Value} {R : List Rp} (h : RRow w v R) (hb : RowKit.Below w.heap.size w w') : RRow w' v R := ⟨Lst.below h.row hb, fun x hx => (h.con x hx).below hb⟩
theorem RRow.form {w : World} {v : Value} {R : List Rp} (h : RRow w v R) : ∃ ao cap, v = .slice ao R.length cap ∧ R.length ≤ cap ∧ cap ≤ maxLen := Lst.form h.row
theorem RRow.get {w : World} {ao : Option Addr} {n cap : Nat} {R : List Rp} (h : RRow w (.slice ao n cap) R) {k : Nat} (hk : k < R.length) :
    ∃ b off, ao = some ⟨b, off, none⟩ ∧ b < w.heap.size ∧ w.cell? ⟨b, off + k * 7, none⟩ = some R[k].a ∧ w.cell? ⟨b, off + k * 7 + 1, none⟩ = some R[k].b ∧ w.cell? ⟨b, off + k * 7 + 2, none⟩ = some R[k].d ∧
      w.cell? ⟨b, off + k * 7 + 3, none⟩ = some (.int .i64 R[k].f.p) ∧ w.cell? ⟨b, off + k * 7 + 4, none⟩ = some (.int .i64 R[k].f.l) ∧ w.cell? ⟨b, off + k * 7 + 5, none⟩ = some (.int .i64 R[k].f.w) ∧ w.cell? ⟨b, off + k * 7 + 6, none⟩ = some (.bool R[k].q) := by
  obtain ⟨b, off, e, h1, h2⟩ := Lst.get h.row hk
  exact ⟨b, off, e, h1, h2 0 (by omega), h2 1 (by omega), h2 2 (by omega), h2 3 (by omega), h2 4 (by omega), h2 5 (by omega), h2 6 (by omega)⟩
/-- The greatest floor of those that aren't in quarantine; is there one? -/
def baseStep (acc : Stp × Bool) (x : Rp) : Stp × Bool := if x.q then acc else (maxS acc.1 x.f, true)
def baseF (R : List Rp) : Stp × Bool := R.foldl baseStep (zeroS, false)
set_option maxHeartbeats 4000000 in
set_option maxRecDepth 100000 in
theorem base_any (v : Value) (R : List Rp) (w : World) (hv : RRow w v R) (hn : R.length ≤ 1000) :
    Calls Tryz.prog 34 #[v] w fun e w' => e = .returned (.tuple #[vS (baseF R).1, .bool (baseF R).2]) ∧ RowKit.Below w.heap.size w w' := by
  obtain ⟨ao, cap, rfl, -, -⟩ := hv.form
  obtain ⟨n, hN⟩ : ∃ n, n = R.length := ⟨_, rfl⟩
  rw [← hN] at hv hn ⊢
  obtain ⟨Q, hQ⟩ : ∃ Q, Q = baseF R := ⟨_, rfl⟩
  rw [← hQ]
  have HV := Lib.hid hv
  have HN := Lib.hid hN
  have HQ := Lib.hid hQ
  obtain ⟨W0, hW0⟩ : ∃ W0, W0 = (w.alloc (.cells #[.int .i64 0, .int .i64 0, .int .i64 0] 23)).alloc (.cells #[.int .i64 0, .int .i64 0, .int .i64 0] 23) := ⟨_, rfl⟩
  have HB0 := Lib.hid (show RowKit.Below w.heap.size w W0 by rw [hW0]; exact ((Below.refl _ w).alloc (Nat.le_refl _) _).alloc (by simp) _)
  have H2 := Lib.hid (show S3 W0 w.heap.size zeroS by rw [hW0]; exact (S3.new w zeroS).below ((Below.refl _ _).alloc (Nat.le_refl _) _))
  have H4 := Lib.hid (show S3 W0 (w.heap.size + 1) zeroS by
    rw [hW0]
    have := S3.new (w.alloc (.cells #[.int .i64 0, .int .i64 0, .int .i64 0] 23)) zeroS
    rwa [World.size_alloc] at this)
  have HW := Lib.hid hW0
  clear hv hN hQ hW0
  unfold vS
  go_enter Tryz.func34, Tryz.ntmps34
  go_upto_region 2 with fail
  rw [← HW.out]
  clear HW
  go_wp2_with fail
  go_loopw [5, 11] (fun ov iv wr => ∃ (k : Nat) (acc : Stp × Bool), k ≤ n ∧ iv = .int .i64 k ∧ ov = .bool acc.2 ∧ Hid ((R.drop k).foldl baseStep acc = Q) ∧ Hid (S3 wr (w.heap.size + 1) acc.1) ∧ Hid (S3 wr w.heap.size zeroS) ∧ Hid (RowKit.Below w.heap.size w wr)) (fun _ iv _ => n - (intOf iv).toNat)
  case atStart => exact ⟨0, (zeroS, false), by omega, rfl, rfl, Lib.hid (by rw [HQ.out]; rfl), H4, H2, HB0⟩
  case round =>
    obtain ⟨k, acc, hk, rfl, rfl, hput, h4, h2, hl⟩ := hrel
    by_cases hlt : k < n
    · have hkr : k < R.length := by have := HN.out; omega
      obtain ⟨xb, xoff, hao, hbl, a0, a1, a2, a3, a4, a5, a6⟩ := (HV.out.below hl.out).get hkr
      cases hao
      have hlie := (HV.out.below hl.out).con R[k] (List.getElem_mem hkr)
      have hst := hput.out
      rw [List.drop_eq_getElem_cons hkr, List.foldl_cons] at hst
      generalize R[k] = x at *
      obtain ⟨xa, xb', xd, xc, ⟨fp, fl, fw⟩, xq⟩ := x
      obtain ⟨o1, n1, k1, e1⟩ := hlie.cells.slice
      obtain ⟨o2, n2, k2, e2⟩ := hlie.wipes.slice
      obtain ⟨o3, n3, k3, e3⟩ := hlie.sibs.slice
      simp only [] at e1 e2 e3
      subst e1 e2 e3
      have HST := Lib.hid hst
      clear hst hlie hput
      simp only [] at a0 a1 a2 a3 a4 a5 a6
      have j0 : (0 : Int) ≤ (k : Int) := by omega
      have j1 : (k : Int) < (n : Int) := by omega
      have HBm := Lib.hid ((Below.refl wr.heap.size wr).alloc (Nat.le_refl _) (.cells #[.slice o1 n1 k1, .slice o2 n2 k2, .slice o3 n3 k3, .int .i64 fp, .int .i64 fl, .int .i64 fw, .bool xq] 47))
      cases xq
      · have H4m := Lib.hid (h4.out.below HBm.out)
        have H2m := Lib.hid (h2.out.below HBm.out)
        obtain ⟨accs, accb⟩ := acc
        obtain ⟨sp, sl, sw⟩ := accs
        obtain ⟨hl4, s0, s1, s2, -⟩ := H4m.out
        simp only [] at s0 s1 s2
        have HM := Lib.hid (fun W => max_any ⟨sp, sl, sw⟩ ⟨fp, fl, fw⟩ W)
        unfold RetS at HM
        obtain ⟨mx, hmx⟩ : ∃ mx, mx = maxS ⟨sp, sl, sw⟩ ⟨fp, fl, fw⟩ := ⟨_, rfl⟩
        rw [← hmx] at HM
        have HS2 := Lib.hid (show (R.drop (k + 1)).foldl baseStep (mx, true) = Q by rw [← HST.out, hmx]; rfl)
        clear hmx
        obtain ⟨mp, ml, mw⟩ := mx
        unfold vS at HM
        simp only [] at HM
        go_wp2_with fail
        refine (HM.out _).mono ?_
        rintro e w2 ⟨rfl, hb⟩
        have H4a := Lib.hid (H4m.out.below hb)
        have H2a := Lib.hid (H2m.out.below hb)
        have HBa := Lib.hid (below_then hl.out (Nat.le_refl _) (below_then HBm.out (Nat.le_refl _) hb))
        clear hb s0 s1 s2 hl4 a0 a1 a2 a3 a4 a5 a6
        obtain ⟨hl4, s0, s1, s2, f0, f1, f2⟩ := H4a.out
        simp only [] at s0 s1 s2
        go_wp2_with fail
        go_roundw
        case rel => exact ⟨k + 1, (⟨mp, ml, mw⟩, true), by omega, by go_num, rfl, HS2, Lib.hid (s3_put H4a.out ⟨mp, ml, mw⟩), Lib.hid (((H2a.out.other (by omega)).other (by omega)).other (by omega)), Lib.hid (s3_put_below HBa.out (by omega) _ _ _)⟩
        case measure => simp [intOf]; omega
      · have HS2 := Lib.hid (show (R.drop (k + 1)).foldl baseStep acc = Q from HST.out)
        go_wp2_with fail
        go_roundw
        case rel => exact ⟨k + 1, acc, by omega, by go_num, rfl, HS2, Lib.hid (h4.out.below HBm.out), Lib.hid (h2.out.below HBm.out), Lib.hid (below_then hl.out (Nat.le_refl _) HBm.out)⟩
        case measure => simp [intOf]; omega
    · obtain rfl : k = n := by omega
      have HQ2 := Lib.hid (show acc = Q by have h := hput.out; rw [List.drop_of_length_le (by have := HN.out; omega)] at h; exact h)
      obtain ⟨hl4, s0, s1, s2, -⟩ := h4.out
      obtain ⟨hl2, t0, t1, t2, f0, f1, f2⟩ := h2.out
      go_wp2_with fail
      obtain ⟨-, u0, u1, u2, -⟩ := s3_put h2.out acc.1
      refine bodyPost_ret (v := .tuple #[.agg #[.int .i64 acc.1.p, .int .i64 acc.1.l, .int .i64 acc.1.w], .bool acc.2]) (by simp [results, Tryz.f34, go_sem, u0, u1, u2]) rfl ?_
      exact ⟨by rw [← HQ2.out], s3_put_below hl.out (by omega) _ _ _⟩
end Go.Proofs.YthdbilggnjjkhaaGreatDoor.Mut
