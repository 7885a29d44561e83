/- Rows of replies; the greatest floor, what all have together (layer 29). PRINTED by wip/genreply.py. -/
import Derived.Test.YtipoeigehabbmaaGreatDoorCombine
set_option linter.unusedSimpArgs false
set_option linter.unusedVariables false
namespace Go.Proofs.YtipoeigehabbmaaGreatDoor.Mut
open Go.RowKit Go.Sort Go.Proofs.YtipoeigehabbmaaGreatDoor.Ord Go.Proofs.YtipoeigehabbmaaGreatDoor.RegInv
set_option linter.unusedSectionVars false
variable [Inhabited Lim]

structure Ry where
  from_ : Int
  no : Int
  a : Value
  b : Value
  d : Value
  c : Con
  f : Stp
def enY (x : Ry) : List Value := [.int .i64 x.from_, .int .i64 x.no, x.a, x.b, x.d, .int .i64 x.f.p, .int .i64 x.f.l, .int .i64 x.f.w]
def vY (x : Ry) : Value := .agg #[.int .i64 x.from_, .int .i64 x.no, x.a, x.b, x.d, .int .i64 x.f.p, .int .i64 x.f.l, .int .i64 x.f.w]
theorem enY_len (x : Ry) : (enY x).length = 8 := rfl
structure YRow (w : World) (v : Value) (R : List Ry) : Prop where
  row : Lst 8 enY w v R
  con : ∀ x ∈ R, Lies w x.a x.b x.d x.c
theorem YRow.below {w w' : World} {v : Value} {R : List Ry} (h : YRow w v R) (hb : RowKit.Below w.heap.size w w') : YRow w' v R := ⟨Lst.below h.row hb, fun x hx => (h.con x hx).below hb⟩
theorem YRow.form {w : World} {v : Value} {R : List Ry} (h : YRow w v R) : ∃ ao cap, v = .slice ao R.length cap ∧ R.length ≤ cap ∧ cap ≤ maxLen := Lst.form h.row
theorem YRow.get {w : World} {ao : Option Addr} {n cap : Nat} {R : List Ry} (h : YRow w (.slice ao n cap) R) {k : Nat} (hk : k < R.length) :
    ∃ b off, ao = some ⟨b, off, none⟩ ∧ b < w.heap.size ∧ w.cell? ⟨b, off + k * 8, none⟩ = some (.int .i64 R[k].from_) ∧ w.cell? ⟨b, off + k * 8 + 1, none⟩ = some (.int .i64 R[k].no) ∧ w.cell? ⟨b, off + k * 8 + 2, none⟩ = some R[k].a ∧ w.cell? ⟨b, off + k * 8 + 3, none⟩ = some R[k].b ∧ w.cell? ⟨b, off + k * 8 + 4, none⟩ = some R[k].d ∧
      w.cell? ⟨b, off + k * 8 + 5, none⟩ = some (.int .i64 R[k].f.p) ∧ w.cell? ⟨b, off + k * 8 + 6, none⟩ = some (.int .i64 R[k].f.l) ∧ w.cell? ⟨b, off + k * 8 + 7, none⟩ = some (.int .i64 R[k].f.w) := by
  obtain ⟨b, off, e, h1, h2⟩ := Lst.get h.row hk
  exact ⟨b, off, e, h1, h2 0 (by omega), h2 1 (by omega), h2 2 (by omega), h2 3 (by omega), h2 4 (by omega), h2 5 (by omega), h2 6 (by omega), h2 7 (by omega)⟩
theorem neqT_run (x y : Stp) (q : Bool) (h : eqT x y = q) (w : World) : (binOp .neq 32 (.agg #[.int .i64 x.p, .int .i64 x.l, .int .i64 x.w]) (.agg #[.int .i64 y.p, .int .i64 y.l, .int .i64 y.w])).run Tryz.prog w = .ok (.bool (!q)) w := by
  rw [run_neq_struct, eqT_run, h]; rfl

/-- The greatest floor of all. -/
def floorF (R : List Ry) : Stp := R.foldl (fun s x => maxS s x.f) zeroS
set_option maxHeartbeats 4000000 in
set_option maxRecDepth 100000 in
theorem floor_any (v : Value) (R : List Ry) (w : World) (hv : YRow w v R) (hn : R.length ≤ 1000) :
    Calls Tryz.prog 32 #[v] w (RetS (floorF R) w) := by
  obtain ⟨ao, cap, rfl, -, -⟩ := hv.form
  obtain ⟨n, hN⟩ : ∃ n, n = R.length := ⟨_, rfl⟩
  rw [← hN] at hv hn ⊢
  obtain ⟨Q, hQ⟩ : ∃ Q, Q = floorF R := ⟨_, rfl⟩
  rw [← hQ]
  have HV := Lib.hid hv
  have HN := Lib.hid hN
  have HQ := Lib.hid hQ
  obtain ⟨W0, hW0⟩ : ∃ W0, W0 = (w.alloc (.cells #[.int .i64 0, .int .i64 0, .int .i64 0] 32)).alloc (.cells #[.int .i64 0, .int .i64 0, .int .i64 0] 32) := ⟨_, rfl⟩
  have HB0 := Lib.hid (show RowKit.Below w.heap.size w W0 by rw [hW0]; exact ((Below.refl _ w).alloc (Nat.le_refl _) _).alloc (by simp) _)
  have H2 := Lib.hid (show S3 W0 w.heap.size zeroS by rw [hW0]; exact (S3.new w zeroS).below ((Below.refl _ _).alloc (Nat.le_refl _) _))
  have H4 := Lib.hid (show S3 W0 (w.heap.size + 1) zeroS by
    rw [hW0]
    have := S3.new (w.alloc (.cells #[.int .i64 0, .int .i64 0, .int .i64 0] 32)) zeroS
    rwa [World.size_alloc] at this)
  have HW := Lib.hid hW0
  clear hv hN hQ hW0
  unfold RetS vS
  go_enter Tryz.func32, Tryz.ntmps32
  go_upto_region 2 with fail
  rw [← HW.out]
  clear HW
  go_wp2_with fail
  go_loopw [9] (fun iv wr => ∃ (k : Nat) (acc : Stp), k ≤ n ∧ iv = .int .i64 k ∧ Hid ((R.drop k).foldl (fun s x => maxS s x.f) acc = Q) ∧ Hid (S3 wr (w.heap.size + 1) acc) ∧ Hid (S3 wr w.heap.size zeroS) ∧ Hid (RowKit.Below w.heap.size w wr)) (fun iv _ => n - (intOf iv).toNat)
  case atStart => exact ⟨0, zeroS, by omega, rfl, Lib.hid (by rw [HQ.out]; rfl), H4, H2, HB0⟩
  case round =>
    obtain ⟨k, acc, hk, rfl, hput, h4, h2, hl⟩ := hrel
    by_cases hlt : k < n
    · have hkr : k < R.length := by have := HN.out; omega
      obtain ⟨xb, xoff, hao, hbl, a0, a1, a2, a3, a4, a5, a6, a7⟩ := (HV.out.below hl.out).get hkr
      cases hao
      have hlie := (HV.out.below hl.out).con R[k] (List.getElem_mem hkr)
      have hst := hput.out
      rw [List.drop_eq_getElem_cons hkr, List.foldl_cons] at hst
      generalize R[k] = x at *
      obtain ⟨xf, xn, xa, xb', xd, xc, ⟨fp, fl, fw⟩⟩ := x
      obtain ⟨o1, n1, k1, e1⟩ := hlie.cells.slice
      obtain ⟨o2, n2, k2, e2⟩ := hlie.wipes.slice
      obtain ⟨o3, n3, k3, e3⟩ := hlie.sibs.slice
      simp only [] at e1 e2 e3
      subst e1 e2 e3
      have HST := Lib.hid hst
      clear hst hlie hput
      simp only [] at a0 a1 a2 a3 a4 a5 a6 a7
      have j0 : (0 : Int) ≤ (k : Int) := by omega
      have j1 : (k : Int) < (n : Int) := by omega
      have HBm := Lib.hid ((Below.refl wr.heap.size wr).alloc (Nat.le_refl _) (.cells #[.int .i64 xf, .int .i64 xn, .slice o1 n1 k1, .slice o2 n2 k2, .slice o3 n3 k3, .int .i64 fp, .int .i64 fl, .int .i64 fw] 81))
      have H4m := Lib.hid (h4.out.below HBm.out)
      have H2m := Lib.hid (h2.out.below HBm.out)
      obtain ⟨sp, sl, sw⟩ := acc
      obtain ⟨hl4, s0, s1, s2, -⟩ := H4m.out
      simp only [] at s0 s1 s2
      have HM := Lib.hid (fun W => max_any ⟨sp, sl, sw⟩ ⟨fp, fl, fw⟩ W)
      unfold RetS at HM
      obtain ⟨mx, hmx⟩ : ∃ mx, mx = maxS ⟨sp, sl, sw⟩ ⟨fp, fl, fw⟩ := ⟨_, rfl⟩
      rw [← hmx] at HM
      have HS2 := Lib.hid (show (R.drop (k + 1)).foldl (fun s x => maxS s x.f) mx = Q by rw [← HST.out, hmx])
      clear hmx
      obtain ⟨mp, ml, mw⟩ := mx
      unfold vS at HM
      simp only [] at HM
      go_wp2_with fail
      refine (HM.out _).mono ?_
      rintro e w2 ⟨rfl, hb⟩
      have H4a := Lib.hid (H4m.out.below hb)
      have H2a := Lib.hid (H2m.out.below hb)
      have HBa := Lib.hid (below_then hl.out (Nat.le_refl _) (below_then HBm.out (Nat.le_refl _) hb))
      clear hb s0 s1 s2 hl4 a0 a1 a2 a3 a4 a5 a6 a7
      obtain ⟨hl4, s0, s1, s2, f0, f1, f2⟩ := H4a.out
      simp only [] at s0 s1 s2
      go_wp2_with fail
      go_roundw
      case rel => exact ⟨k + 1, ⟨mp, ml, mw⟩, by omega, by go_num, HS2, Lib.hid (s3_put H4a.out ⟨mp, ml, mw⟩), Lib.hid (((H2a.out.other (by omega)).other (by omega)).other (by omega)), Lib.hid (s3_put_below HBa.out (by omega) _ _ _)⟩
      case measure => simp [intOf]; omega
    · obtain rfl : k = n := by omega
      have HQ2 := Lib.hid (show acc = Q by have h := hput.out; rw [List.drop_of_length_le (by have := HN.out; omega)] at h; exact h)
      obtain ⟨hl4, s0, s1, s2, -⟩ := h4.out
      obtain ⟨hl2, t0, t1, t2, f0, f1, f2⟩ := h2.out
      go_wp2_with fail
      obtain ⟨-, u0, u1, u2, -⟩ := s3_put h2.out acc
      refine bodyPost_ret (v := .agg #[.int .i64 acc.p, .int .i64 acc.l, .int .i64 acc.w]) (by simp [results, Tryz.f32, go_sem, u0, u1, u2]) rfl ?_
      exact ⟨by rw [← HQ2.out], s3_put_below hl.out (by omega) _ _ _⟩

/-! ## What all have together -/
def countsY (s : Stp) (x : Ry) : Con := if eqT x.f s = true then x.c else x.c.filter (aboveB s)
theorem countsY_good {x : Ry} {n : Nat} (h : Good x.c n) (s : Stp) : Good (countsY s x) n := by
  unfold countsY
  split
  · exact h
  · exact h.filter _
def mergeF (R : List Ry) : Con := (R.map (countsY (floorF R))).foldl joinC ⟨[], [], []⟩
theorem mergeF_good {R : List Ry} {m : Nat} (h : ∀ x ∈ R, Good x.c m) : Good (mergeF R) (m * R.length) := by
  unfold mergeF
  have h2 := join_good (R.map (countsY (floorF R))) ⟨[], [], []⟩ 0 m empty_good (fun d hd => by
    obtain ⟨x, hx, rfl⟩ := List.mem_map.1 hd
    exact countsY_good (h x hx) _)
  rw [List.length_map, Nat.zero_add] at h2
  exact h2

set_option maxHeartbeats 8000000 in
set_option maxRecDepth 100000 in
theorem merge_any (v : Value) (R : List Ry) (m : Nat) (w : World) (hT : Tabs w) (hv : YRow w v R) (hG : ∀ x ∈ R, Good x.c m) (hn : R.length ≤ 100) (hm : m ≤ 100) :
    Calls Tryz.prog 31 #[v] w (RetC (mergeF R) w) := by
  have HFl := Lib.hid (fun W (h : RowKit.Below w.heap.size w W) => floor_any v R W (hv.below h) (by omega))
  obtain ⟨ao, cap, rfl, -, -⟩ := hv.form
  obtain ⟨n, hN⟩ : ∃ n, n = R.length := ⟨_, rfl⟩
  rw [← hN] at hv hn HFl ⊢
  obtain ⟨Q, hQ⟩ : ∃ Q, Q = mergeF R := ⟨_, rfl⟩
  rw [← hQ]
  obtain ⟨s, hs⟩ : ∃ s, s = floorF R := ⟨_, rfl⟩
  rw [← hs] at HFl
  unfold mergeF at hQ
  rw [← hs] at hQ
  obtain ⟨sp, sl, sw⟩ := s
  have HQ := Lib.hid hQ
  have HV := Lib.hid hv
  have HN := Lib.hid hN
  have HG := Lib.hid hG
  have HT := Lib.hid hT
  obtain ⟨W0, hW0⟩ : ∃ W0, W0 = w.alloc (.cells #[.slice none 0 0, .slice none 0 0, .slice none 0 0] 25) := ⟨_, rfl⟩
  have HB0 := Lib.hid (show RowKit.Below w.heap.size w W0 by rw [hW0]; exact (Below.refl _ w).alloc (Nat.le_refl _) _)
  have HC0 := Lib.hid (show C3 W0 w.heap.size (.slice none 0 0) (.slice none 0 0) (.slice none 0 0) by rw [hW0]; exact C3.new w _ _ _)
  have HW := Lib.hid hW0
  clear hv hN hQ hW0 hs hG hT
  unfold RetS at HFl
  unfold RetC
  unfold vS at HFl
  simp only [] at HFl
  obtain ⟨k2, hk2⟩ : ∃ k, k = w.heap.size := ⟨_, rfl⟩
  rw [← hk2] at HC0
  go_enter Tryz.func31, Tryz.ntmps31
  go_upto_region 1 with fail
  rw [← HW.out, ← hk2]
  have HK2 := Lib.hid hk2
  clear HW hk2
  go_wp2_with fail
  refine (HFl.out _ HB0.out).mono ?_
  rintro e w1 ⟨rfl, hb⟩
  have HB1 := Lib.hid (below_then HB0.out (Nat.le_refl _) hb)
  have HC1 := Lib.hid (HC0.out.below hb)
  clear hb HC0 HB0 HFl
  go_upto_region 3 with fail
  obtain ⟨W2, hW2⟩ : ∃ W2, W2 = (w1.alloc (.cells #[.int .i64 sp, .int .i64 sl, .int .i64 sw] 32)).alloc (.cells #[.slice none 0 0, .slice none 0 0, .slice none 0 0] 25) := ⟨_, rfl⟩
  rw [← hW2]
  have hb2 : RowKit.Below w1.heap.size w1 W2 := by rw [hW2]; exact ((Below.refl _ w1).alloc (Nat.le_refl _) _).alloc (by simp) _
  have h3 : S3 W2 w1.heap.size ⟨sp, sl, sw⟩ := by rw [hW2]; exact (S3.new w1 ⟨sp, sl, sw⟩).below ((Below.refl _ _).alloc (Nat.le_refl _) _)
  have h4 : C3 W2 (w1.heap.size + 1) (.slice none 0 0) (.slice none 0 0) (.slice none 0 0) := by
    rw [hW2]
    have := C3.new (w1.alloc (.cells #[.int .i64 sp, .int .i64 sl, .int .i64 sw] 32)) (.slice none 0 0) (.slice none 0 0) (.slice none 0 0)
    rwa [World.size_alloc] at this
  have hk : k2 < w1.heap.size := HC1.out.lt
  obtain ⟨k3, hk3⟩ : ∃ k, k = w1.heap.size := ⟨_, rfl⟩
  have hkk : k2 < k3 := by omega
  rw [← hk3] at h3 h4 ⊢
  obtain ⟨k4, hk4⟩ : ∃ k, k = k3 + 1 := ⟨_, rfl⟩
  have hk34 : k3 < k4 := by omega
  have hkw : w.heap.size ≤ k2 := by have := HK2.out; omega
  rw [← hk4] at h4 ⊢
  have H3 := Lib.hid h3
  have H4 := Lib.hid (show ∃ o4 n4 c4 o5 n5 c5 o6 n6 c6, C3 W2 k4 (.slice o4 n4 c4) (.slice o5 n5 c5) (.slice o6 n6 c6) ∧ Lies W2 (.slice o4 n4 c4) (.slice o5 n5 c5) (.slice o6 n6 c6) ⟨[], [], []⟩ from ⟨none, 0, 0, none, 0, 0, none, 0, 0, h4, Lies.none _⟩)
  have HC2 := Lib.hid (HC1.out.below hb2)
  have HB2 := Lib.hid (below_then HB1.out (Nat.le_refl _) hb2)
  clear hW2 hb2 h3 h4 hk hk3 hk4 HC1 HB1
  go_wp2_with fail
  go_loopw [13] (fun iv wr => ∃ (k : Nat) (acc : Con), k ≤ n ∧ iv = .int .i64 k ∧ Hid (((R.drop k).map (countsY ⟨sp, sl, sw⟩)).foldl joinC acc = Q) ∧ Hid (Good acc (m * k)) ∧ Hid (∃ o4 n4 c4 o5 n5 c5 o6 n6 c6, C3 wr k4 (.slice o4 n4 c4) (.slice o5 n5 c5) (.slice o6 n6 c6) ∧ Lies wr (.slice o4 n4 c4) (.slice o5 n5 c5) (.slice o6 n6 c6) acc) ∧
    Hid (S3 wr k3 ⟨sp, sl, sw⟩) ∧ Hid (C3 wr k2 (.slice none 0 0) (.slice none 0 0) (.slice none 0 0)) ∧ Hid (RowKit.Below w.heap.size w wr)) (fun iv _ => n - (intOf iv).toNat)
  case atStart => exact ⟨0, ⟨[], [], []⟩, by omega, rfl, Lib.hid HQ.out.symm, Lib.hid (by simpa using empty_good), H4, H3, HC2, HB2⟩
  case round =>
    clear H3 H4 HC2 HB2
    obtain ⟨k, acc, hk, rfl, hput, hgood, h4, h3, hc2, hl⟩ := hrel
    by_cases hlt : k < n
    · have hkr : k < R.length := by have := HN.out; omega
      obtain ⟨xbk, xoff, hao, hbl, a0, a1, a2, a3, a4, a5, a6, a7⟩ := (HV.out.below hl.out).get hkr
      cases hao
      have hlie := (HV.out.below hl.out).con R[k] (List.getElem_mem hkr)
      have hgx := HG.out R[k] (List.getElem_mem hkr)
      have hst := hput.out
      rw [List.drop_eq_getElem_cons hkr, List.map_cons, List.foldl_cons] at hst
      obtain ⟨cx, hcx⟩ : ∃ cx, cx = countsY ⟨sp, sl, sw⟩ R[k] := ⟨_, rfl⟩
      rw [← hcx] at hst
      have hgc : Good cx m := by rw [hcx]; exact countsY_good hgx _
      obtain ⟨jx, hjx⟩ : ∃ jx, jx = joinC acc cx := ⟨_, rfl⟩
      rw [← hjx] at hst
      have HGJ := Lib.hid (show Good jx (m * (k + 1)) by rw [hjx, Nat.mul_succ]; exact joinC_good hgood.out hgc)
      have hmk : m * k ≤ 100 * 100 := Nat.mul_le_mul (by omega) (by omega)
      have HJN := Lib.hid (fun v W (hv : IsC acc v W) {v' : Value} (hv' : IsC cx v' W) (hTW : Tabs W) => show Calls Tryz.prog 53 #[v, v'] W (RetC jx W) from by rw [hjx]; exact c_join (n := m * k) (n' := m) hTW hv hgood.out hv' hgc (by omega))
      have HAB := Lib.hid (fun v W (hv : IsC R[k].c v W) => show Calls Tryz.prog 40 #[v, .agg #[.int .i64 sp, .int .i64 sl, .int .i64 sw]] W (RetC (R[k].c.filter (aboveB ⟨sp, sl, sw⟩)) W) from c_above (n := m) ⟨sp, sl, sw⟩ hv hgx (by omega))
      have hcx2 : cx = if eqT R[k].f ⟨sp, sl, sw⟩ = true then R[k].c else R[k].c.filter (aboveB ⟨sp, sl, sw⟩) := hcx
      have HST := Lib.hid hst
      clear hst hjx hcx hgc hgx hput
      generalize R[k] = x at *
      obtain ⟨xf, xn, xa, xb', xd, xc, ⟨fp, fl, fw⟩⟩ := x
      obtain ⟨o1, n1, k1, e1⟩ := hlie.cells.slice
      obtain ⟨o2, n2, k2', e2⟩ := hlie.wipes.slice
      obtain ⟨o3, n3, k3', e3⟩ := hlie.sibs.slice
      simp only [] at e1 e2 e3
      subst e1 e2 e3
      simp only [] at a0 a1 a2 a3 a4 a5 a6 a7 hcx2 HAB hlie
      obtain ⟨E, hE⟩ : ∃ E, eqT ⟨fp, fl, fw⟩ ⟨sp, sl, sw⟩ = E := ⟨_, rfl⟩
      rw [hE] at hcx2
      have hq1 := neqT_run _ _ _ hE
      simp only [] at hq1
      have hq2 := guardT_run .neq
      have HCX := Lib.hid hcx2
      have HLX := Lib.hid hlie
      clear hcx2 hE hlie
      have j0 : (0 : Int) ≤ (k : Int) := by omega
      have j1 : (k : Int) < (n : Int) := by omega
      obtain ⟨o4, n4, c4, o5, n5, c5, o6, n6, c6, hc4, hl4⟩ := h4.out
      obtain ⟨W3, hW3⟩ : ∃ W3, W3 = (wr.alloc (.cells #[.int .i64 xf, .int .i64 xn, .slice o1 n1 k1, .slice o2 n2 k2', .slice o3 n3 k3', .int .i64 fp, .int .i64 fl, .int .i64 fw] 81)).alloc (.cells #[.slice o1 n1 k1, .slice o2 n2 k2', .slice o3 n3 k3'] 25) := ⟨_, rfl⟩
      have hb3 : RowKit.Below wr.heap.size wr W3 := by rw [hW3]; exact ((Below.refl _ wr).alloc (Nat.le_refl _) _).alloc (by simp) _
      have y5 : W3.cell? ⟨wr.heap.size, 5, none⟩ = some (.int .i64 fp) := by rw [hW3]; go_simp
      have y6 : W3.cell? ⟨wr.heap.size, 6, none⟩ = some (.int .i64 fl) := by rw [hW3]; go_simp
      have y7 : W3.cell? ⟨wr.heap.size, 7, none⟩ = some (.int .i64 fw) := by rw [hW3]; go_simp
      have hc7 : C3 W3 (wr.heap.size + 1) (.slice o1 n1 k1) (.slice o2 n2 k2') (.slice o3 n3 k3') := by
        rw [hW3]
        have := C3.new (wr.alloc (.cells #[.int .i64 xf, .int .i64 xn, .slice o1 n1 k1, .slice o2 n2 k2', .slice o3 n3 k3', .int .i64 fp, .int .i64 fl, .int .i64 fw] 81)) (.slice o1 n1 k1) (.slice o2 n2 k2') (.slice o3 n3 k3')
        rwa [World.size_alloc] at this
      have hk4r : k4 < wr.heap.size := hc4.lt
      have HC7 := Lib.hid hc7
      have HC4 := Lib.hid (hc4.below hb3)
      have HL4 := Lib.hid (hl4.below hb3)
      have HLX3 := Lib.hid (HLX.out.below hb3)
      have HS3 := Lib.hid (h3.out.below hb3)
      have HC23 := Lib.hid (hc2.out.below hb3)
      have HB3 := Lib.hid (below_then hl.out (Nat.le_refl _) hb3)
      have hwr : w.heap.size ≤ wr.heap.size := hl.out.size
      have HW3 := Lib.hid hW3
      clear hb3 hW3 hc7 hc4 hl4 HLX
      go_upto_region 7 with fail
      rw [← HW3.out]
      clear HW3 a0 a1 a2 a3 a4 a5 a6 a7
      obtain ⟨k7, hk7⟩ : ∃ k, k = wr.heap.size + 1 := ⟨_, rfl⟩
      have hk47 : k4 < k7 := by omega
      have hw7 : w.heap.size ≤ k7 := by omega
      have hk67 : wr.heap.size ≠ k7 := by omega
      rw [← hk7] at HC7 ⊢
      clear hk7
      obtain ⟨-, s0, s1, s2, -⟩ := HS3.out
      obtain ⟨-, t0, t1, t2, g0, g1, g2⟩ := HC7.out
      obtain ⟨-, u0, u1, u2, v0, v1, v2⟩ := HC4.out
      simp only [] at s0 s1 s2
      cases E
      case true =>
        have HCE := Lib.hid (show cx = xc by have h := HCX.out; simpa using h)
        have HL7 := Lib.hid (show Lies W3 (.slice o1 n1 k1) (.slice o2 n2 k2') (.slice o3 n3 k3') cx by rw [HCE.out]; exact HLX3.out)
        go_wp2_with fail
        refine (HJN.out _ W3 HL4.out.is HL7.out.is (HT.out.below HB3.out)).mono ?_
        rintro e w6 ⟨v6, rfl, hc6, hb6⟩
        obtain ⟨o7, n7, c7, o8, n8, c8, o9, n9, c9, rfl, hl6⟩ := hc6.form
        have HL6 := Lib.hid hl6
        have HC46 := Lib.hid (HC4.out.below hb6)
        have HS6 := Lib.hid (HS3.out.below hb6)
        have HC26 := Lib.hid (HC23.out.below hb6)
        have HB6 := Lib.hid (below_then HB3.out (Nat.le_refl _) hb6)
        clear hl6 hc6 hb6 s0 s1 s2 t0 t1 t2 g0 g1 g2 u0 u1 u2 v0 v1 v2 y5 y6 y7
        obtain ⟨-, u0, u1, u2, v0, v1, v2⟩ := HC46.out
        go_wp2_with fail
        go_roundw
        case rel => exact ⟨k + 1, jx, by omega, by go_num, HST, HGJ, Lib.hid ⟨_, _, _, _, _, _, _, _, _, c3_put HC46.out (.slice o7 n7 c7) (.slice o8 n8 c8) (.slice o9 n9 c9), HL6.out.plain3 (plain3 HC46.out _ _ _)⟩, Lib.hid (((HS6.out.other (by omega)).other (by omega)).other (by omega)), Lib.hid (((HC26.out.other (by omega)).other (by omega)).other (by omega)), Lib.hid (c3_put_below HB6.out (by omega) _ _ _)⟩
        case measure => simp [intOf]; omega
      case false =>
        have HCE := Lib.hid (show cx = xc.filter (aboveB ⟨sp, sl, sw⟩) by have h := HCX.out; simpa using h)
        go_wp2_with fail
        refine (HAB.out _ W3 HLX3.out.is).mono ?_
        rintro e w4 ⟨v4, rfl, hc5, hb4⟩
        obtain ⟨p1, q1, r1, p2, q2, r2, p3, q3, r3, rfl, hl5⟩ := hc5.form
        have HL5 := Lib.hid (show Lies w4 (.slice p1 q1 r1) (.slice p2 q2 r2) (.slice p3 q3 r3) cx by rw [HCE.out]; exact hl5)
        have HC75 := Lib.hid (HC7.out.below hb4)
        have HC45 := Lib.hid (HC4.out.below hb4)
        have HL45 := Lib.hid (HL4.out.below hb4)
        have HS5 := Lib.hid (HS3.out.below hb4)
        have HC25 := Lib.hid (HC23.out.below hb4)
        have HB5 := Lib.hid (below_then HB3.out (Nat.le_refl _) hb4)
        clear hl5 hc5 hb4 s0 s1 s2 t0 t1 t2 g0 g1 g2 u0 u1 u2 v0 v1 v2 y5 y6 y7
        obtain ⟨-, t0, t1, t2, g0, g1, g2⟩ := HC75.out
        go_upto_region 9 with fail
        obtain ⟨W5, hW5⟩ : ∃ W5, W5 = (((w4.setCell ⟨k7, 0, none⟩ (.slice p1 q1 r1)).setCell ⟨k7, 1, none⟩ (.slice p2 q2 r2)).setCell ⟨k7, 2, none⟩ (.slice p3 q3 r3)) := ⟨_, rfl⟩
        rw [← hW5]
        have HC7n := Lib.hid (show C3 W5 k7 (.slice p1 q1 r1) (.slice p2 q2 r2) (.slice p3 q3 r3) by rw [hW5]; exact c3_put HC75.out _ _ _)
        have HL7n := Lib.hid (show Lies W5 (.slice p1 q1 r1) (.slice p2 q2 r2) (.slice p3 q3 r3) cx by rw [hW5]; exact HL5.out.plain3 (plain3 HC75.out _ _ _))
        have HL4n := Lib.hid (show Lies W5 (.slice o4 n4 c4) (.slice o5 n5 c5) (.slice o6 n6 c6) acc by rw [hW5]; exact HL45.out.plain3 (plain3 HC75.out _ _ _))
        have HC4n := Lib.hid (show C3 W5 k4 (.slice o4 n4 c4) (.slice o5 n5 c5) (.slice o6 n6 c6) by rw [hW5]; exact ((HC45.out.other (by omega)).other (by omega)).other (by omega))
        have HS5n := Lib.hid (show S3 W5 k3 ⟨sp, sl, sw⟩ by rw [hW5]; exact ((HS5.out.other (by omega)).other (by omega)).other (by omega))
        have HC2n := Lib.hid (show C3 W5 k2 (.slice none 0 0) (.slice none 0 0) (.slice none 0 0) by rw [hW5]; exact ((HC25.out.other (by omega)).other (by omega)).other (by omega))
        have HB5n := Lib.hid (show RowKit.Below w.heap.size w W5 by rw [hW5]; exact c3_put_below HB5.out hw7 _ _ _)
        clear hW5 t0 t1 t2 g0 g1 g2
        obtain ⟨-, t0, t1, t2, g0, g1, g2⟩ := HC7n.out
        obtain ⟨-, u0, u1, u2, v0, v1, v2⟩ := HC4n.out
        go_wp2_with fail
        refine (HJN.out _ W5 HL4n.out.is HL7n.out.is (HT.out.below HB5n.out)).mono ?_
        rintro e w6 ⟨v6, rfl, hc6, hb6⟩
        obtain ⟨o7, n7, c7, o8, n8, c8, o9, n9, c9, rfl, hl6⟩ := hc6.form
        have HL6 := Lib.hid hl6
        have HC46 := Lib.hid (HC4n.out.below hb6)
        have HS6 := Lib.hid (HS5n.out.below hb6)
        have HC26 := Lib.hid (HC2n.out.below hb6)
        have HB6 := Lib.hid (below_then HB5n.out (Nat.le_refl _) hb6)
        clear hl6 hc6 hb6 t0 t1 t2 g0 g1 g2 u0 u1 u2 v0 v1 v2
        obtain ⟨-, u0, u1, u2, v0, v1, v2⟩ := HC46.out
        go_wp2_with fail
        go_roundw
        case rel => exact ⟨k + 1, jx, by omega, by go_num, HST, HGJ, Lib.hid ⟨_, _, _, _, _, _, _, _, _, c3_put HC46.out (.slice o7 n7 c7) (.slice o8 n8 c8) (.slice o9 n9 c9), HL6.out.plain3 (plain3 HC46.out _ _ _)⟩, Lib.hid (((HS6.out.other (by omega)).other (by omega)).other (by omega)), Lib.hid (((HC26.out.other (by omega)).other (by omega)).other (by omega)), Lib.hid (c3_put_below HB6.out (by omega) _ _ _)⟩
        case measure => simp [intOf]; omega
    · obtain rfl : k = n := by omega
      have HQ2 := Lib.hid (show acc = Q by have h := hput.out; rw [List.drop_of_length_le (by have := HN.out; omega)] at h; exact h)
      obtain ⟨o4, n4, c4, o5, n5, c5, o6, n6, c6, hc4, hl4⟩ := h4.out
      have HL4 := Lib.hid hl4
      clear hl4
      obtain ⟨-, u0, u1, u2, -⟩ := hc4
      obtain ⟨-, t0, t1, t2, g0, g1, g2⟩ := hc2.out
      go_wp2_with fail
      obtain ⟨-, x0, x1, x2, -⟩ := c3_put hc2.out (.slice o4 n4 c4) (.slice o5 n5 c5) (.slice o6 n6 c6)
      refine bodyPost_ret (v := .agg #[.slice o4 n4 c4, .slice o5 n5 c5, .slice o6 n6 c6]) (by simp [results, Tryz.f31, go_sem, x0, x1, x2]) rfl ?_
      exact ⟨_, rfl, by rw [← HQ2.out]; exact (HL4.out.plain3 (plain3 hc2.out _ _ _)).is, c3_put_below hl.out hkw _ _ _⟩
end Go.Proofs.YtipoeigehabbmaaGreatDoor.Mut
