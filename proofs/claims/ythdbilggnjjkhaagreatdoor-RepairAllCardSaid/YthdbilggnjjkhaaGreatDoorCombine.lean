/- What counts of a report, and what all have (layer 25). PRINTED by wip/gencombine.py. -/
import Derived.Test.YthdbilggnjjkhaaGreatDoorRepRow
import Derived.Test.YthdbilggnjjkhaaGreatDoorPkRs
set_option linter.unusedSimpArgs false
set_option linter.unusedVariables false
namespace Go.Proofs.YthdbilggnjjkhaaGreatDoor.Mut
open Go.RowKit Go.Sort Go.Proofs.YthdbilggnjjkhaaGreatDoor.Ord Go.Proofs.YthdbilggnjjkhaaGreatDoor.RegInv
set_option linter.unusedSectionVars false
variable [Inhabited Lim]

/-- A variable of a zero stamp, and nothing behind it. -/
structure Z3 (w : World) (k : Nat) : Prop where
  s : S3 w k zeroS
  far : ∀ o, 3 ≤ o → w.cell? ⟨k, o, none⟩ = none
theorem Z3.new (w : World) : Z3 (w.alloc (.cells #[.int .i64 zeroS.p, .int .i64 zeroS.l, .int .i64 zeroS.w] 23)) w.heap.size := by
  refine ⟨S3.new w zeroS, fun o ho => ?_⟩
  obtain ⟨j, rfl⟩ : ∃ j, o = j + 3 := ⟨o - 3, by omega⟩
  go_simp
theorem Z3.below {w w' : World} {k : Nat} (h : Z3 w k) (hb : RowKit.Below w.heap.size w w') : Z3 w' k :=
  ⟨h.s.below hb, fun o ho => (hb.cell (p := ⟨k, o, none⟩) h.s.lt).trans (h.far o ho)⟩
theorem Z3.other {w : World} {k j o : Nat} {u : Value} (h : Z3 w k) (hj : j ≠ k) : Z3 (w.setCell ⟨j, o, none⟩ u) k :=
  ⟨h.s.other hj, fun i hi => (World.cell?_of_block (a := ⟨k, i, none⟩) (heap_setCell_far w ⟨j, o, none⟩ u k hj)).trans (h.far i hi)⟩
theorem lst_zero {α : Type} {sz : Nat} {en : α → List Value} {w : World} {v : Value} {l : List α} {k : Nat} (h : Lst sz en w v l) (hz : Z3 w k) (hl : ∀ x, (en x).length = sz) (hne : sz = 10 ∨ (sz = 3 ∧ ∀ x ∈ l, en x ≠ [.int .i64 0, .int .i64 0, .int .i64 0])) (a b d : Value) : Lst sz en (((w.setCell ⟨k, 0, none⟩ a).setCell ⟨k, 1, none⟩ b).setCell ⟨k, 2, none⟩ d) v l := by
  obtain ⟨ao, cap, e, h1, h2, h3⟩ := h
  refine ⟨ao, cap, e, h1, h2, h3.imp id ?_⟩
  rintro ⟨g, off, e1, hb, hc⟩
  refine ⟨g, off, e1, by simpa using hb, fun i x hi j hj => ?_⟩
  have hgk : g ≠ k := by
    rintro rfl
    have h5 : off + i * sz + (sz - 1) < 3 := by
      apply Decidable.byContradiction
      intro hh
      have h4 := hc i x hi (sz - 1) (by omega)
      rw [hz.far _ (by omega), List.getElem?_eq_getElem (by rw [hl]; omega)] at h4
      cases h4
    rcases hne with h | ⟨h, hx⟩
    · subst h
      omega
    · subst h
      have ho : off = 0 := by omega
      have hi0 : i = 0 := by omega
      subst ho hi0
      refine hx x (List.mem_of_getElem? hi) ?_
      have c0 := hc 0 x hi 0 (by omega)
      have c1 := hc 0 x hi 1 (by omega)
      have c2 := hc 0 x hi 2 (by omega)
      have z0 := hz.s.c0
      have z1 := hz.s.c1
      have z2 := hz.s.c2
      simp only [Nat.zero_mul, Nat.add_zero, Nat.zero_add] at c0 c1 c2
      rw [z0] at c0
      rw [z1] at c1
      rw [z2] at c2
      have hle := hl x
      generalize en x = y at c0 c1 c2 hle
      match y, hle with
      | [p, q, r], _ =>
        simp only [List.getElem?_cons_zero, List.getElem?_cons_succ, Option.some.injEq] at c0 c1 c2
        rw [← c0, ← c1, ← c2]
        rfl
  have q : ∀ m, (⟨k, m, none⟩ : Addr) ≠ ⟨g, off + i * sz + j, none⟩ := fun m e => by
    injection e with e
    exact hgk e.symm
  rw [World.cell?_setCell_other (h := q 2), World.cell?_setCell_other (h := q 1), World.cell?_setCell_other (h := q 0)]
  exact hc i x hi j hj
theorem over_right : ∀ (l : List Stp) (t : Stp) (o : Option Stp), overFrom t o l = true → ∀ s ∈ l, stR s = true
  | [], _, _, _, s, hs => by cases hs
  | x :: l, t, o, h, s, hs => by
    unfold overFrom at h
    simp only [Bool.and_eq_true] at h
    rcases List.mem_cons.1 hs with rfl | hs
    · exact h.1
    · exact over_right l t _ h.2.2.2 s hs
theorem right_over {m : Mu} (h : rightF m = true) : ∀ s ∈ m.over, stR s = true := by
  unfold rightF rightG at h
  simp only [Bool.and_eq_true] at h
  have h2 : overF m.over m.at_ = true := by simp_all
  unfold overF at h2
  simp only [Bool.and_eq_true] at h2
  exact over_right _ _ _ h2.1
theorem reads_zero {w : World} {v : Value} {l : List Mu} {k : Nat} (h : Reads w v l) (hz : Z3 w k) (hr : ∀ m ∈ l, rightF m = true) (a b d : Value) : Reads (((w.setCell ⟨k, 0, none⟩ a).setCell ⟨k, 1, none⟩ b).setCell ⟨k, 2, none⟩ d) v l := by
  obtain ⟨R, e, hR⟩ := h
  refine ⟨R, e, lst_zero hR.row hz enM_len (Or.inl rfl) a b d, fun x hx => ⟨lst_zero (hR.over x hx).lst hz enS_len (Or.inr ⟨rfl, fun s hs he => ?_⟩) a b d, (hR.over x hx).zn⟩⟩
  have h1 := right_over (hr x.1 (by rw [← e]; exact List.mem_map.2 ⟨x, hx, rfl⟩)) s hs
  unfold enS at he
  simp only [List.cons.injEq, Value.int.injEq, true_and, and_true] at he
  obtain ⟨e1, e2, e3⟩ := he
  unfold stR at h1
  simp [e1, e2, e3] at h1
theorem lies_zero {w : World} {a b d : Value} {c : Con} {n k : Nat} (h : Lies w a b d c) (hg : Good c n) (hz : Z3 w k) (u0 u1 u2 : Value) : Lies (((w.setCell ⟨k, 0, none⟩ u0).setCell ⟨k, 1, none⟩ u1).setCell ⟨k, 2, none⟩ u2) a b d c :=
  ⟨reads_zero h.cells hz (fun m hm => hg.okc.right m (by unfold Con.all; simp [hm])) u0 u1 u2, reads_zero h.wipes hz (fun m hm => hg.okc.right m (by unfold Con.all; simp [hm])) u0 u1 u2, reads_zero h.sibs hz (fun m hm => hg.okc.right m (by unfold Con.all; simp [hm])) u0 u1 u2⟩

def aboveB (s : Stp) (m : Mu) : Bool := decide (stC s m.at_ < 0)
/-- What counts of a report. -/
def countsF (x : Rp) (s : Stp) : Con := if (!x.q && eqT x.f s) = true then x.c else x.c.filter (aboveB s)
theorem countsF_good {x : Rp} {n : Nat} (h : Good x.c n) (s : Stp) : Good (countsF x s) n := by
  unfold countsF
  split
  · exact h
  · exact h.filter _

set_option maxHeartbeats 4000000 in
set_option maxRecDepth 100000 in
theorem c_counts (x : Rp) (n : Nat) (s : Stp) (w : World) (hl : Lies w x.a x.b x.d x.c) (hG : Good x.c n) (hn : n ≤ 100000) :
    Calls Tryz.prog 35 #[vR x, vS s] w (RetC (countsF x s) w) := by
  have HAb := Lib.hid (fun W (h : RowKit.Below w.heap.size w W) => c_above (n := n) s (hl.below h).is hG hn)
  have hcf : countsF x s = if (!x.q && eqT x.f s) = true then x.c else x.c.filter (aboveB s) := rfl
  have hab : (fun m : Mu => decide (stC s m.at_ < 0)) = aboveB s := rfl
  rw [hab] at HAb
  obtain ⟨xa, xb, xd, xc, ⟨fp, fl, fw⟩, xq⟩ := x
  obtain ⟨sp, sl, sw⟩ := s
  obtain ⟨o1, n1, k1, e1⟩ := hl.cells.slice
  obtain ⟨o2, n2, k2, e2⟩ := hl.wipes.slice
  obtain ⟨o3, n3, k3, e3⟩ := hl.sibs.slice
  simp only [] at e1 e2 e3
  subst e1 e2 e3
  obtain ⟨E, hE⟩ : ∃ E, eqT ⟨fp, fl, fw⟩ ⟨sp, sl, sw⟩ = E := ⟨_, rfl⟩
  simp only [] at hcf HAb hl
  rw [hE] at hcf
  have hq1 := eqlT_run _ _ _ hE
  simp only [] at hq1
  have hq2 := guardT_run .eql
  obtain ⟨CF, hCF⟩ : ∃ CF, CF = countsF ⟨.slice o1 n1 k1, .slice o2 n2 k2, .slice o3 n3 k3, xc, ⟨fp, fl, fw⟩, xq⟩ ⟨sp, sl, sw⟩ := ⟨_, rfl⟩
  rw [← hCF] at hcf ⊢
  have HCF := Lib.hid hcf
  have HL := Lib.hid hl
  unfold vR
  unfold vS at HAb ⊢
  simp only [] at HAb ⊢
  clear hcf hab hE hCF hl hG hn
  obtain ⟨W0, hW0⟩ : ∃ W0, W0 = ((w.alloc (.cells #[.slice o1 n1 k1, .slice o2 n2 k2, .slice o3 n3 k3, .int .i64 fp, .int .i64 fl, .int .i64 fw, .bool xq] 47)).alloc (.cells #[.int .i64 sp, .int .i64 sl, .int .i64 sw] 23)).alloc (.cells #[.slice none 0 0, .slice none 0 0, .slice none 0 0] 45) := ⟨_, rfl⟩
  have hb0 : RowKit.Below w.heap.size w W0 := by rw [hW0]; exact (((Below.refl _ w).alloc (Nat.le_refl _) _).alloc (by simp) _).alloc (by simp; omega) _
  have hT : C3 W0 (w.heap.size + 1 + 1) (.slice none 0 0) (.slice none 0 0) (.slice none 0 0) := by
    rw [hW0]
    have := C3.new ((w.alloc (.cells #[.slice o1 n1 k1, .slice o2 n2 k2, .slice o3 n3 k3, .int .i64 fp, .int .i64 fl, .int .i64 fw, .bool xq] 47)).alloc (.cells #[.int .i64 sp, .int .i64 sl, .int .i64 sw] 23)) (.slice none 0 0) (.slice none 0 0) (.slice none 0 0)
    rwa [World.size_alloc, World.size_alloc] at this
  have hS : S3 W0 (w.heap.size + 1) ⟨sp, sl, sw⟩ := by
    rw [hW0]
    have := S3.new (w.alloc (.cells #[.slice o1 n1 k1, .slice o2 n2 k2, .slice o3 n3 k3, .int .i64 fp, .int .i64 fl, .int .i64 fw, .bool xq] 47)) ⟨sp, sl, sw⟩
    rw [World.size_alloc] at this
    exact this.below ((Below.refl _ _).alloc (Nat.le_refl _) _)
  have c0 : W0.cell? ⟨w.heap.size, 0, none⟩ = some (.slice o1 n1 k1) := by rw [hW0]; go_simp
  have c1 : W0.cell? ⟨w.heap.size, 1, none⟩ = some (.slice o2 n2 k2) := by rw [hW0]; go_simp
  have c2 : W0.cell? ⟨w.heap.size, 2, none⟩ = some (.slice o3 n3 k3) := by rw [hW0]; go_simp
  have c3 : W0.cell? ⟨w.heap.size, 3, none⟩ = some (.int .i64 fp) := by rw [hW0]; go_simp
  have c4 : W0.cell? ⟨w.heap.size, 4, none⟩ = some (.int .i64 fl) := by rw [hW0]; go_simp
  have c5 : W0.cell? ⟨w.heap.size, 5, none⟩ = some (.int .i64 fw) := by rw [hW0]; go_simp
  have c6 : W0.cell? ⟨w.heap.size, 6, none⟩ = some (.bool xq) := by rw [hW0]; go_simp
  have HT := Lib.hid hT
  have HS := Lib.hid hS
  have HB0 := Lib.hid hb0
  have HW := Lib.hid hW0
  clear hT hS hb0 hW0
  go_enter Tryz.func35, Tryz.ntmps35
  go_upto_region 1 with fail
  rw [← HW.out]
  clear HW
  obtain ⟨hls, s0, s1, s2, -⟩ := HS.out
  simp only [] at s0 s1 s2
  obtain ⟨-, t0, t1, t2, f0, f1, f2⟩ := HT.out
  have done : ∀ (W : World) (p1 p2 p3 : Value), True := fun _ _ _ _ => trivial
  cases xq <;> cases E
  case false.true =>
    have HC := Lib.hid (show CF = xc from HCF.out)
    go_wp2_with fail
    obtain ⟨-, u0, u1, u2, -⟩ := c3_put HT.out (.slice o1 n1 k1) (.slice o2 n2 k2) (.slice o3 n3 k3)
    refine bodyPost_ret (v := .agg #[.slice o1 n1 k1, .slice o2 n2 k2, .slice o3 n3 k3]) (by simp [results, Tryz.f35, go_sem, u0, u1, u2]) rfl ?_
    exact ⟨_, rfl, by rw [HC.out]; exact ((HL.out.below HB0.out).plain3 (plain3 HT.out _ _ _)).is, c3_put_below HB0.out (by omega) _ _ _⟩
  all_goals
    have HC := Lib.hid (show CF = xc.filter (aboveB ⟨sp, sl, sw⟩) from HCF.out)
    go_wp2_with fail
    refine (HAb.out _ HB0.out).mono ?_
    rintro e w1 ⟨v1, rfl, hc, hb⟩
    obtain ⟨o4, n4, k4, o5, n5, k5, o6, n6, k6, rfl, hl1⟩ := hc.form
    have HL1 := Lib.hid hl1
    have HB1 := Lib.hid (below_then HB0.out (Nat.le_refl _) hb)
    have HT1 := Lib.hid (HT.out.below hb)
    clear hc hb hl1 t0 t1 t2 f0 f1 f2 s0 s1 s2 c0 c1 c2 c3 c4 c5 c6
    obtain ⟨-, t0, t1, t2, f0, f1, f2⟩ := HT1.out
    go_wp2_with fail
    obtain ⟨-, u0, u1, u2, -⟩ := c3_put HT1.out (.slice o4 n4 k4) (.slice o5 n5 k5) (.slice o6 n6 k6)
    refine bodyPost_ret (v := .agg #[.slice o4 n4 k4, .slice o5 n5 k5, .slice o6 n6 k6]) (by simp [results, Tryz.f35, go_sem, u0, u1, u2]) rfl ?_
    exact ⟨_, rfl, by rw [HC.out]; exact (HL1.out.plain3 (plain3 HT1.out _ _ _)).is, c3_put_below HB1.out (by omega) _ _ _⟩

def uptoB (s : Stp) (m : Mu) : Bool := !decide (stC s m.at_ < 0)
def partR (se0 base : Stp) (x : Rp) : Con := (countsF x base).filter (uptoB se0)
def combC (R : List Rp) (se0 base : Stp) : Con := (R.map (partR se0 base)).foldl joinC ⟨[], [], []⟩
/-- What all have up to a se0, the base, and whether there is one. -/
def combF (R : List Rp) (se0 : Stp) : Con × Stp × Bool := if (baseF R).2 = true then (combC R se0 (baseF R).1, (baseF R).1, true) else (⟨[], [], []⟩, zeroS, false)
theorem partR_good {x : Rp} {n : Nat} (h : Good x.c n) (se0 base : Stp) : Good (partR se0 base x) n := (countsF_good h base).filter _
theorem empty_good : Good ⟨[], [], []⟩ 0 := ⟨Reps.none.same fun m => ⟨fun h => h.elim, fun h => by simp [Con.all] at h⟩, ⟨fun m h => by simp [Con.all] at h, Nat.le_refl _⟩⟩
/-- A content, a stamp, a truth value come back. -/
def RetCSB (c : Con) (s : Stp) (q : Bool) (w : World) (e : Ending) (w' : World) : Prop := ∃ v, e = .returned (.tuple #[v, vS s, .bool q]) ∧ IsC c v w' ∧ RowKit.Below w.heap.size w w'

set_option maxHeartbeats 8000000 in
set_option maxRecDepth 100000 in
theorem c_combine (v : Value) (R : List Rp) (m : Nat) (se0 : Stp) (w : World) (hT : Tabs w) (hv : RRow w v R) (hG : ∀ x ∈ R, Good x.c m) (hn : R.length ≤ 100) (hm : m ≤ 100) :
    Calls Tryz.prog 20 #[vS se0, v] w (RetCSB (combF R se0).1 (combF R se0).2.1 (combF R se0).2.2 w) := by
  have HBase := Lib.hid (fun W (h : RowKit.Below w.heap.size w W) => base_any v R W (hv.below h) (by omega))
  obtain ⟨ao, cap, rfl, -, -⟩ := hv.form
  obtain ⟨n, hN⟩ : ∃ n, n = R.length := ⟨_, rfl⟩
  rw [← hN] at hv hn HBase ⊢
  obtain ⟨Q, hQ⟩ : ∃ Q, Q = combF R se0 := ⟨_, rfl⟩
  rw [← hQ]
  obtain ⟨qc, qs, qb⟩ := Q
  obtain ⟨bs, hbs⟩ : ∃ bs, bs = baseF R := ⟨_, rfl⟩
  rw [← hbs] at HBase
  obtain ⟨⟨bp, bl, bw⟩, bq⟩ := bs
  have HQ := Lib.hid (show (qc, qs, qb) = if bq = true then (combC R se0 ⟨bp, bl, bw⟩, (⟨bp, bl, bw⟩ : Stp), true) else (⟨[], [], []⟩, zeroS, false) by rw [hQ]; unfold combF; rw [← hbs])
  have HT := Lib.hid hT
  have HV := Lib.hid hv
  have HG := Lib.hid hG
  have HN := Lib.hid hN
  obtain ⟨sp, sl, sw⟩ := se0
  obtain ⟨W0, hW0⟩ : ∃ W0, W0 = ((w.alloc (.cells #[.int .i64 sp, .int .i64 sl, .int .i64 sw] 23)).alloc (.cells #[.slice none 0 0, .slice none 0 0, .slice none 0 0] 45)).alloc (.cells #[.int .i64 0, .int .i64 0, .int .i64 0] 23) := ⟨_, rfl⟩
  have HB0 := Lib.hid (show RowKit.Below w.heap.size w W0 by rw [hW0]; exact (((Below.refl _ w).alloc (Nat.le_refl _) _).alloc (by simp) _).alloc (by simp; omega) _)
  have HS0 := Lib.hid (show S3 W0 w.heap.size ⟨sp, sl, sw⟩ by
    rw [hW0]
    exact ((S3.new w ⟨sp, sl, sw⟩).below ((Below.refl _ _).alloc (Nat.le_refl _) _)).below ((Below.refl _ _).alloc (Nat.le_refl _) _))
  have HC0 := Lib.hid (show C3 W0 (w.heap.size + 1) (.slice none 0 0) (.slice none 0 0) (.slice none 0 0) by
    rw [hW0]
    have := C3.new (w.alloc (.cells #[.int .i64 sp, .int .i64 sl, .int .i64 sw] 23)) (.slice none 0 0) (.slice none 0 0) (.slice none 0 0)
    rw [World.size_alloc] at this
    exact this.below ((Below.refl _ _).alloc (Nat.le_refl _) _))
  have HZ0 := Lib.hid (show Z3 W0 (w.heap.size + 1 + 1) by
    rw [hW0]
    have := Z3.new ((w.alloc (.cells #[.int .i64 sp, .int .i64 sl, .int .i64 sw] 23)).alloc (.cells #[.slice none 0 0, .slice none 0 0, .slice none 0 0] 45))
    rwa [World.size_alloc, World.size_alloc] at this)
  have HW := Lib.hid hW0
  clear hT hv hG hN hQ hbs hW0
  unfold RetCSB
  unfold vS at HBase ⊢
  simp only [] at HBase ⊢
  go_enter Tryz.func20, Tryz.ntmps20
  go_upto_region 1 with fail
  rw [← HW.out]
  clear HW
  go_wp2_with fail
  refine (HBase.out _ HB0.out).mono ?_
  rintro e w1 ⟨rfl, hb⟩
  have HB1 := Lib.hid (below_then HB0.out (Nat.le_refl _) hb)
  have HS1 := Lib.hid (HS0.out.below hb)
  have HC1 := Lib.hid (HC0.out.below hb)
  have HZ1 := Lib.hid (HZ0.out.below hb)
  clear hb HS0 HC0 HZ0 HB0 HBase
  cases bq
  · -- all are in quarantine
    have HQ1 := Lib.hid (show qc = ⟨[], [], []⟩ ∧ qs = zeroS ∧ qb = false by have h := HQ.out; simpa using h)
    have hb2 := (Below.refl w1.heap.size w1).alloc (Nat.le_refl _) (.cells #[.int .i64 bp, .int .i64 bl, .int .i64 bw] 23)
    have HC2 := Lib.hid (HC1.out.below hb2)
    have HZ2 := Lib.hid (HZ1.out.below hb2)
    have HB2 := Lib.hid (below_then HB1.out (Nat.le_refl _) hb2)
    clear hb2
    obtain ⟨-, t0, t1, t2, f0, f1, f2⟩ := HC2.out
    obtain ⟨-, z0, z1, z2, g0, g1, g2⟩ := HZ2.out.s
    go_wp2_with fail
    have hc3 := c3_put HC2.out (.slice none 0 0) (.slice none 0 0) (.slice none 0 0)
    have hz3 := (((HZ2.out.other (j := w.heap.size + 1) (o := 0) (u := .slice none 0 0) (by omega)).other (j := w.heap.size + 1) (o := 1) (u := .slice none 0 0) (by omega)).other (j := w.heap.size + 1) (o := 2) (u := .slice none 0 0) (by omega))
    obtain ⟨-, y0, y1, y2, -⟩ := s3_put hz3.s zeroS
    obtain ⟨-, u0, u1, u2, -⟩ := ((hc3.other (j := w.heap.size + 1 + 1) (o := 0) (u := .int .i64 0) (by omega)).other (j := w.heap.size + 1 + 1) (o := 1) (u := .int .i64 0) (by omega)).other (j := w.heap.size + 1 + 1) (o := 2) (u := .int .i64 0) (by omega)
    simp only [zeroS] at y0 y1 y2
    refine bodyPost_ret (v := .tuple #[.agg #[.slice none 0 0, .slice none 0 0, .slice none 0 0], .agg #[.int .i64 0, .int .i64 0, .int .i64 0], .bool false]) (by simp [results, Tryz.f20, go_sem, u0, u1, u2, y0, y1, y2]) rfl ?_
    refine ⟨_, by rw [HQ1.out.2.1, HQ1.out.2.2]; rfl, by rw [HQ1.out.1]; exact (Lies.none _).is, s3_put_below (c3_put_below HB2.out (by omega) _ _ _) (by omega) _ _ _⟩
  · have HQ1 := Lib.hid (show qc = combC R ⟨sp, sl, sw⟩ ⟨bp, bl, bw⟩ ∧ qs = ⟨bp, bl, bw⟩ ∧ qb = true by have h := HQ.out; simpa using h)
    go_upto_region 5 with fail
    obtain ⟨W2, hW2⟩ : ∃ W2, W2 = (w1.alloc (.cells #[.int .i64 bp, .int .i64 bl, .int .i64 bw] 23)).alloc (.cells #[.slice none 0 0, .slice none 0 0, .slice none 0 0] 45) := ⟨_, rfl⟩
    rw [← hW2]
    have hb2 : RowKit.Below w1.heap.size w1 W2 := by rw [hW2]; exact ((Below.refl _ w1).alloc (Nat.le_refl _) _).alloc (by simp) _
    have h7 : S3 W2 w1.heap.size ⟨bp, bl, bw⟩ := by rw [hW2]; exact (S3.new w1 ⟨bp, bl, bw⟩).below ((Below.refl _ _).alloc (Nat.le_refl _) _)
    have h9 : C3 W2 (w1.heap.size + 1) (.slice none 0 0) (.slice none 0 0) (.slice none 0 0) := by
      rw [hW2]
      have := C3.new (w1.alloc (.cells #[.int .i64 bp, .int .i64 bl, .int .i64 bw] 23)) (.slice none 0 0) (.slice none 0 0) (.slice none 0 0)
      rwa [World.size_alloc] at this
    have hk : w.heap.size + 1 + 1 < w1.heap.size := HZ1.out.s.lt
    obtain ⟨k7, hk7⟩ : ∃ k, k = w1.heap.size := ⟨_, rfl⟩
    have hkk : w.heap.size + 1 + 1 < k7 := by omega
    rw [← hk7] at h7 h9 ⊢
    obtain ⟨k9, hk9⟩ : ∃ k, k = k7 + 1 := ⟨_, rfl⟩
    have hk97 : k7 < k9 := by omega
    rw [← hk9] at h9 ⊢
    have H7 := Lib.hid h7
    have H9 := Lib.hid (show ∃ o4 n4 c4 o5 n5 c5 o6 n6 c6, C3 W2 k9 (.slice o4 n4 c4) (.slice o5 n5 c5) (.slice o6 n6 c6) ∧ Lies W2 (.slice o4 n4 c4) (.slice o5 n5 c5) (.slice o6 n6 c6) ⟨[], [], []⟩ from ⟨none, 0, 0, none, 0, 0, none, 0, 0, h9, Lies.none _⟩)
    have HS2 := Lib.hid (HS1.out.below hb2)
    have HC2 := Lib.hid (HC1.out.below hb2)
    have HZ2 := Lib.hid (HZ1.out.below hb2)
    have HB2 := Lib.hid (below_then HB1.out (Nat.le_refl _) hb2)
    clear hW2 hb2 h7 h9 hk hk7 hk9 HS1 HC1 HZ1 HB1
    go_wp2_with fail
    go_loopw [24] (fun iv wr => ∃ (k : Nat) (acc : Con), k ≤ n ∧ iv = .int .i64 k ∧ Hid (((R.drop k).map (partR ⟨sp, sl, sw⟩ ⟨bp, bl, bw⟩)).foldl joinC acc = qc) ∧ Hid (Good acc (m * k)) ∧ Hid (∃ o4 n4 c4 o5 n5 c5 o6 n6 c6, C3 wr k9 (.slice o4 n4 c4) (.slice o5 n5 c5) (.slice o6 n6 c6) ∧ Lies wr (.slice o4 n4 c4) (.slice o5 n5 c5) (.slice o6 n6 c6) acc) ∧
      Hid (S3 wr k7 ⟨bp, bl, bw⟩) ∧ Hid (S3 wr w.heap.size ⟨sp, sl, sw⟩) ∧ Hid (C3 wr (w.heap.size + 1) (.slice none 0 0) (.slice none 0 0) (.slice none 0 0)) ∧ Hid (Z3 wr (w.heap.size + 1 + 1)) ∧ Hid (RowKit.Below w.heap.size w wr)) (fun iv _ => n - (intOf iv).toNat)
    case atStart => exact ⟨0, ⟨[], [], []⟩, by omega, rfl, Lib.hid HQ1.out.1.symm, Lib.hid (by simpa using empty_good), H9, H7, HS2, HC2, HZ2, HB2⟩
    case round =>
      clear H7 H9 HS2 HC2 HZ2 HB2
      obtain ⟨k, acc, hk, rfl, hput, hgood, h9, h7, hs2, hc2, hz2, hl⟩ := hrel
      by_cases hlt : k < n
      · have hkr : k < R.length := by have := HN.out; omega
        obtain ⟨xbk, xoff, hao, hbl, a0, a1, a2, a3, a4, a5, a6⟩ := (HV.out.below hl.out).get hkr
        cases hao
        have hlie := (HV.out.below hl.out).con R[k] (List.getElem_mem hkr)
        have hgx := HG.out R[k] (List.getElem_mem hkr)
        have hst := hput.out
        rw [List.drop_eq_getElem_cons hkr, List.map_cons, List.foldl_cons] at hst
        have hctx := fun W (h : RowKit.Below wr.heap.size wr W) => c_counts R[k] m ⟨bp, bl, bw⟩ W (hlie.below h) hgx (by omega)
        obtain ⟨cx, hcx⟩ : ∃ cx, cx = countsF R[k] ⟨bp, bl, bw⟩ := ⟨_, rfl⟩
        rw [← hcx] at hctx
        have hgc : Good cx m := by rw [hcx]; exact countsF_good hgx _
        obtain ⟨ux, hux⟩ : ∃ ux, ux = cx.filter (uptoB ⟨sp, sl, sw⟩) := ⟨_, rfl⟩
        have hgu : Good ux m := by rw [hux]; exact hgc.filter _
        have hpr : partR ⟨sp, sl, sw⟩ ⟨bp, bl, bw⟩ R[k] = ux := by unfold partR; rw [hux, hcx]
        rw [hpr] at hst
        obtain ⟨jx, hjx⟩ : ∃ jx, jx = joinC acc ux := ⟨_, rfl⟩
        rw [← hjx] at hst
        have HGJ := Lib.hid (show Good jx (m * (k + 1)) by rw [hjx, Nat.mul_succ]; exact joinC_good hgood.out hgu)
        have hmk : m * k ≤ 100 * 100 := Nat.mul_le_mul (by omega) (by omega)
        have HUP := Lib.hid (fun v W (hv : IsC cx v W) (h : RowKit.Below wr.heap.size wr W) => show Calls Tryz.prog 36 #[v, .agg #[.int .i64 sp, .int .i64 sl, .int .i64 sw]] W (RetC ux W) from by rw [hux]; exact c_upto (n := m) ⟨sp, sl, sw⟩ hv hgc (by omega))
        have HJN := Lib.hid (fun v W (hv : IsC acc v W) {v' : Value} (hv' : IsC ux v' W) (h : RowKit.Below wr.heap.size wr W) => show Calls Tryz.prog 19 #[v, v'] W (RetC jx W) from by rw [hjx]; exact c_join (n := m * k) (n' := m) (HT.out.below (below_then hl.out (Nat.le_refl _) h)) hv hgood.out hv' hgu (by omega))
        have HST := Lib.hid hst
        clear hst hpr hjx hux hcx hgc hgu hgx hput
        generalize R[k] = x at *
        obtain ⟨xa, xb', xd, xc, ⟨fp, fl, fw⟩, xq⟩ := x
        obtain ⟨o1, n1, k1, e1⟩ := hlie.cells.slice
        obtain ⟨o2, n2, k2, e2⟩ := hlie.wipes.slice
        obtain ⟨o3, n3, k3, e3⟩ := hlie.sibs.slice
        simp only [] at e1 e2 e3
        subst e1 e2 e3
        unfold vR vS at hctx
        simp only [] at hctx a0 a1 a2 a3 a4 a5 a6
        have HCT := Lib.hid hctx
        clear hctx hlie
        obtain ⟨o4, n4, k4, o5, n5, k5, o6, n6, k6, hc9, hl9⟩ := h9.out
        have j0 : (0 : Int) ≤ (k : Int) := by omega
        have j1 : (k : Int) < (n : Int) := by omega
        go_upto_region 8 with fail
        obtain ⟨Wm, hWm⟩ : ∃ Wm, Wm = wr.alloc (.cells #[.slice o1 n1 k1, .slice o2 n2 k2, .slice o3 n3 k3, .int .i64 fp, .int .i64 fl, .int .i64 fw, .bool xq] 47) := ⟨_, rfl⟩
        rw [← hWm]
        have hbm : RowKit.Below wr.heap.size wr Wm := by rw [hWm]; exact (Below.refl _ _).alloc (Nat.le_refl _) _
        have hr : ∀ (i : Nat) (u : Value), Wm.cell? ⟨wr.heap.size, i, none⟩ = some u → ∀ W, RowKit.Below Wm.heap.size Wm W → W.cell? ⟨wr.heap.size, i, none⟩ = some u := fun i u hu W h => (h.cell (p := ⟨wr.heap.size, i, none⟩) (by rw [hWm]; simp)).trans hu
        have HR := Lib.hid (fun W (h : RowKit.Below Wm.heap.size Wm W) => And.intro (hr 0 (.slice o1 n1 k1) (by rw [hWm]; go_simp) W h) (And.intro (hr 1 (.slice o2 n2 k2) (by rw [hWm]; go_simp) W h) (And.intro (hr 2 (.slice o3 n3 k3) (by rw [hWm]; go_simp) W h) (And.intro (hr 3 (.int .i64 fp) (by rw [hWm]; go_simp) W h) (And.intro (hr 4 (.int .i64 fl) (by rw [hWm]; go_simp) W h) (And.intro (hr 5 (.int .i64 fw) (by rw [hWm]; go_simp) W h) (hr 6 (.bool xq) (by rw [hWm]; go_simp) W h)))))))
        obtain ⟨nw, hnw⟩ : ∃ nw, nw = wr.heap.size := ⟨_, rfl⟩
        rw [← hnw] at HR ⊢
        have HWm := Lib.hid (fun W (h : RowKit.Below Wm.heap.size Wm W) => below_then hbm (Nat.le_refl _) h)
        have HC9 := Lib.hid (hc9.below hbm)
        have HAC := Lib.hid (hl9.below hbm)
        have HB7 := Lib.hid (h7.out.below hbm)
        have HS2 := Lib.hid (hs2.out.below hbm)
        have HC2 := Lib.hid (hc2.out.below hbm)
        have HZ2 := Lib.hid (hz2.out.below hbm)
        have HBm := Lib.hid (below_then hl.out (Nat.le_refl _) hbm)
        clear hWm hbm hr hnw hc9 hl9 h9 h7 hs2 hc2 hz2 a0 a1 a2 a3 a4 a5 a6 hbl
        go_wp2_with fail
        refine wp_region_told [] 7 [false, false, false, false, false, false, false, false, false, false, false, false, false, false, false, false, false, false, false, false, false, false, false, false, false, false, false, false, true, true, true, true, true, true, true, false, false, false]
          [sLit (.agg #[.slice o4 n4 k4, .slice o5 n5 k5, .slice o6 n6 k6]),
    sLit (.agg #[.slice o1 n1 k1, .slice o2 n2 k2, .slice o3 n3 k3, .int .i64 fp, .int .i64 fl, .int .i64 fw, .bool xq]),
    sLit (.agg #[.int .i64 bp, .int .i64 bl, .int .i64 bw]),
    sOne (IsC (cx)) (fun _ _ _ h hb => h.below hb),
    sLit (.agg #[.int .i64 sp, .int .i64 sl, .int .i64 sw]),
    sOne (IsC (ux)) (fun _ _ _ h hb => h.below hb),
    sOne (IsC (jx)) (fun _ _ _ h hb => h.below hb)] (by kernel_rfl) (by kernel_rfl) (by kernel_rfl) (fun F hF => ?_)
        simp only [over, overL, Nat.reduceAdd] at hF
        obtain rfl := funext hF
        clear hF
        refine ⟨⟨?_, ?_, ?_, ?_, ?_, ?_, ?_, trivial⟩, ?_⟩
        · intro V W hb hd K hK _
          clear hd
          obtain ⟨-, s0, s1, s2, -⟩ := HC9.out.below hb
          go_wp2_with fail
          refine hK _ _ ?_ ?_ ?_ ?_
          · rfl
          · exact Below.refl _ _
          · exact rfl
          · trivial
        · intro V W hb hd K hK _
          clear hd
          obtain ⟨r0, r1, r2, r3, r4, r5, r6⟩ := (HR.out W hb)
          go_wp2_with fail
          refine hK _ _ ?_ ?_ ?_ ?_
          · rfl
          · exact Below.refl _ _
          · exact rfl
          · trivial
        · intro V W hb hd K hK _
          clear hd
          obtain ⟨-, b0, b1, b2, -⟩ := HB7.out.below hb
          go_wp2_with fail
          refine hK _ _ ?_ ?_ ?_ ?_
          · rfl
          · exact Below.refl _ _
          · exact rfl
          · trivial
        · intro V W hb hd K hK _
          have h1 : (V 29) = .agg #[.slice o1 n1 k1, .slice o2 n2 k2, .slice o3 n3 k3, .int .i64 fp, .int .i64 fl, .int .i64 fw, .bool xq] := hd 1 (by kernel_rfl)
          have h2 : (V 30) = .agg #[.int .i64 bp, .int .i64 bl, .int .i64 bw] := hd 2 (by kernel_rfl)
          clear hd
          go_wp2_with fail
          refine (HCT.out W (HWm.out W hb)).mono ?_
          rintro e w1 ⟨v1, rfl, hv1, hb1⟩
          go_wp2_with fail
          refine hK _ _ ?_ ?_ ?_ ?_
          · rfl
          · exact hb1
          · exact hv1
          · trivial
        · intro V W hb hd K hK _
          clear hd
          obtain ⟨-, z0, z1, z2, -⟩ := HS2.out.below hb
          go_wp2_with fail
          refine hK _ _ ?_ ?_ ?_ ?_
          · rfl
          · exact Below.refl _ _
          · exact rfl
          · trivial
        · intro V W hb hd K hK _
          have h3 : IsC (cx) (V 31) W := hd 3 (by kernel_rfl)
          have h4 : (V 32) = .agg #[.int .i64 sp, .int .i64 sl, .int .i64 sw] := hd 4 (by kernel_rfl)
          clear hd
          go_wp2_with fail
          refine (HUP.out _ W h3 (HWm.out W hb)).mono ?_
          rintro e w1 ⟨v1, rfl, hv1, hb1⟩
          go_wp2_with fail
          refine hK _ _ ?_ ?_ ?_ ?_
          · rfl
          · exact hb1
          · exact hv1
          · trivial
        · intro V W hb hd K hK _
          have h0 : (V 28) = .agg #[.slice o4 n4 k4, .slice o5 n5 k5, .slice o6 n6 k6] := hd 0 (by kernel_rfl)
          have h5 : IsC (ux) (V 33) W := hd 5 (by kernel_rfl)
          clear hd
          go_wp2_with fail
          refine (HJN.out _ W (HAC.out.below hb).is h5 (HWm.out W hb)).mono ?_
          rintro e w1 ⟨v1, rfl, hv1, hb1⟩
          go_wp2_with fail
          refine hK _ _ ?_ ?_ ?_ ?_
          · rfl
          · exact hb1
          · exact hv1
          · trivial
        · intro V W hb hd hap
          have h6 : IsC (jx) (V 34) W := hd 6 (by decide)
          clear hd hap
          simp only [List.drop_succ_cons, List.drop_zero]
          obtain ⟨o7, n7, k7', o8, n8, k8', o9, n9, k9', e34, hlj⟩ := h6.form
          have HLJ := Lib.hid hlj
          have HCW := Lib.hid (HC9.out.below hb)
          have H7W := Lib.hid (HB7.out.below hb)
          have HSW := Lib.hid (HS2.out.below hb)
          have H2W := Lib.hid (HC2.out.below hb)
          have HZW := Lib.hid (HZ2.out.below hb)
          have HBW := Lib.hid (below_then HBm.out (Nat.le_refl _) hb)
          clear hlj hb h6
          obtain ⟨-, s0, s1, s2, f0, f1, f2⟩ := HCW.out
          go_wp2_with fail
          go_roundw
          case rel => exact ⟨k + 1, jx, by omega, by go_num, HST, HGJ, Lib.hid ⟨_, _, _, _, _, _, _, _, _, c3_put HCW.out _ _ _, HLJ.out.plain3 (plain3 HCW.out _ _ _)⟩, Lib.hid (((H7W.out.other (by omega)).other (by omega)).other (by omega)), Lib.hid (((HSW.out.other (by omega)).other (by omega)).other (by omega)), Lib.hid (((H2W.out.other (by omega)).other (by omega)).other (by omega)), Lib.hid (((HZW.out.other (by omega)).other (by omega)).other (by omega)), Lib.hid (c3_put_below HBW.out (by omega) _ _ _)⟩
          case measure => simp [intOf]; omega
      · obtain rfl : k = n := by omega
        have HAC := Lib.hid (show acc = qc by have h := hput.out; rw [List.drop_of_length_le (by have := HN.out; omega)] at h; simpa using h)
        obtain ⟨o4, n4, k4, o5, n5, k5, o6, n6, k6, hc9, hl9⟩ := h9.out
        have HC9 := Lib.hid hc9
        have HL9 := Lib.hid hl9
        have HB7 := h7
        have hS : wr.drew.cell? ⟨k9, 0, none⟩ = some (.slice o4 n4 k4) ∧ wr.drew.cell? ⟨k9, 1, none⟩ = some (.slice o5 n5 k5) ∧ wr.drew.cell? ⟨k9, 2, none⟩ = some (.slice o6 n6 k6) ∧ wr.drew.cell? ⟨k7, 0, none⟩ = some (.int .i64 bp) ∧ wr.drew.cell? ⟨k7, 1, none⟩ = some (.int .i64 bl) ∧ wr.drew.cell? ⟨k7, 2, none⟩ = some (.int .i64 bw) := ⟨hc9.c0, hc9.c1, hc9.c2, h7.out.c0, h7.out.c1, h7.out.c2⟩
        have HCd := Lib.hid (show C3 wr.drew (w.heap.size + 1) (.slice none 0 0) (.slice none 0 0) (.slice none 0 0) from hc2.out.below (Below.refl _ _).drew)
        have HZd := Lib.hid (show Z3 wr.drew (w.heap.size + 1 + 1) from hz2.out.below (Below.refl _ _).drew)
        have HLd := Lib.hid (show Lies wr.drew (.slice o4 n4 k4) (.slice o5 n5 k5) (.slice o6 n6 k6) acc from hl9.below (Below.refl _ _).drew)
        have HBd := Lib.hid (show RowKit.Below w.heap.size w wr.drew from hl.out.drew)
        have hn1 : ¬ k9 = w.heap.size + 1 := by omega
        have hn2 : ¬ k7 = w.heap.size + 1 := by omega
        have hn3 : ¬ k9 = w.heap.size + 1 + 1 := by omega
        have hn4 : ¬ k7 = w.heap.size + 1 + 1 := by omega
        have hn5 : ¬ w.heap.size + 1 = k9 := by omega
        have hn6 : ¬ w.heap.size + 1 = k7 := by omega
        have hn7 : ¬ w.heap.size + 1 + 1 = k9 := by omega
        have hn8 : ¬ w.heap.size + 1 + 1 = k7 := by omega
        clear hc9 hl9 hput h9 hlt
        obtain ⟨-, t0, t1, t2, f0, f1, f2⟩ := HCd.out
        obtain ⟨-, z0, z1, z2, g0, g1, g2⟩ := HZd.out.s
        go_wp2_with fail
        obtain ⟨s0, s1, s2, s3, s4, s5⟩ := hS
        refine wp_region_any (by kernel_rfl) ?_
        show wpAny _ _ _ _ 5 _ _ wr.drew
        generalize wr.drew = wd at HCd HZd HLd HBd t0 t1 t2 f0 f1 f2 z0 z1 z2 g0 g1 g2 s0 s1 s2 s3 s4 s5 ⊢
        refine Picks.wpAny_go [0, 1] (by kernel_rfl) (by simp) ?_
        intro i hi
        simp only [List.mem_cons, List.not_mem_nil, or_false] at hi
        rcases hi with rfl | rfl
        · refine Picks.wpOp_of_list rfl (fun K hK _ => ?_)
          go_wp2_with fail
          refine hK _ _ ?_
          clear hK
          refine Picks.wpAny_go [1, 2] (by kernel_rfl) (by simp) ?_
          intro i hi
          simp only [List.mem_cons, List.not_mem_nil, or_false] at hi
          rcases hi with rfl | rfl
          · refine Picks.wpOp_of_list rfl (fun K hK _ => ?_)
            go_wp2_with fail
            refine hK _ _ ?_
            clear hK
            refine Picks.wpAny_go [2] (by kernel_rfl) (by simp) ?_
            intro i hi
            simp only [List.mem_cons, List.not_mem_nil, or_false] at hi
            rcases hi with rfl
            · refine Picks.wpOp_of_list rfl (fun K hK _ => ?_)
              go_wp2_with fail
              refine hK _ _ ?_
              clear hK
              refine Picks.wpAny_go [3] (by kernel_rfl) (by simp) ?_
              intro i hi
              simp only [List.mem_cons, List.not_mem_nil, or_false] at hi
              rcases hi with rfl
              · refine Picks.wpOp_of_list rfl (fun K hK _ => ?_)
                go_wp2_with fail
                refine hK _ _ ?_
                clear hK
                refine Picks.wpAny_go [4] (by kernel_rfl) (by simp) ?_
                intro i hi
                simp only [List.mem_cons, List.not_mem_nil, or_false] at hi
                rcases hi with rfl
                · refine Picks.wpOp_of_list rfl (fun K hK _ => ?_)
                  go_wp2_with fail
                  refine hK _ _ ?_
                  clear hK
                  refine Picks.wpAny_end (by kernel_rfl) ?_
                  go_wp2_with fail
                  have hc3 := c3_put HCd.out (.slice o4 n4 k4) (.slice o5 n5 k5) (.slice o6 n6 k6)
                  have hz3 := (((HZd.out.other (j := w.heap.size + 1) (o := 0) (u := .slice o4 n4 k4) (by omega)).other (j := w.heap.size + 1) (o := 1) (u := .slice o5 n5 k5) (by omega)).other (j := w.heap.size + 1) (o := 2) (u := .slice o6 n6 k6) (by omega))
                  obtain ⟨-, y0, y1, y2, -⟩ := s3_put hz3.s ⟨bp, bl, bw⟩
                  obtain ⟨-, u0, u1, u2, -⟩ := ((hc3.other (j := w.heap.size + 1 + 1) (o := 0) (u := .int .i64 bp) (by omega)).other (j := w.heap.size + 1 + 1) (o := 1) (u := .int .i64 bl) (by omega)).other (j := w.heap.size + 1 + 1) (o := 2) (u := .int .i64 bw) (by omega)
                  simp only [] at y0 y1 y2
                  refine bodyPost_ret (v := .tuple #[.agg #[.slice o4 n4 k4, .slice o5 n5 k5, .slice o6 n6 k6], .agg #[.int .i64 bp, .int .i64 bl, .int .i64 bw], .bool true]) (by simp [results, Tryz.f20, go_sem, u0, u1, u2, y0, y1, y2]) rfl ?_
                  refine ⟨_, by rw [HQ1.out.2.1, HQ1.out.2.2], ?_, s3_put_below (c3_put_below HBd.out (by omega) _ _ _) (by omega) _ _ _⟩
                  rw [← HAC.out]
                  exact (lies_zero (HLd.out.plain3 (plain3 HCd.out _ _ _)) hgood.out hz3 _ _ _).is
          · refine Picks.wpOp_of_list rfl (fun K hK _ => ?_)
            go_wp2_with fail
            refine hK _ _ ?_
            clear hK
            refine Picks.wpAny_go [1] (by kernel_rfl) (by simp) ?_
            intro i hi
            simp only [List.mem_cons, List.not_mem_nil, or_false] at hi
            rcases hi with rfl
            · refine Picks.wpOp_of_list rfl (fun K hK _ => ?_)
              go_wp2_with fail
              refine hK _ _ ?_
              clear hK
              refine Picks.wpAny_go [3] (by kernel_rfl) (by simp) ?_
              intro i hi
              simp only [List.mem_cons, List.not_mem_nil, or_false] at hi
              rcases hi with rfl
              · refine Picks.wpOp_of_list rfl (fun K hK _ => ?_)
                go_wp2_with fail
                refine hK _ _ ?_
                clear hK
                refine Picks.wpAny_go [4] (by kernel_rfl) (by simp) ?_
                intro i hi
                simp only [List.mem_cons, List.not_mem_nil, or_false] at hi
                rcases hi with rfl
                · refine Picks.wpOp_of_list rfl (fun K hK _ => ?_)
                  go_wp2_with fail
                  refine hK _ _ ?_
                  clear hK
                  refine Picks.wpAny_end (by kernel_rfl) ?_
                  go_wp2_with fail
                  have hc3 := c3_put HCd.out (.slice o4 n4 k4) (.slice o5 n5 k5) (.slice o6 n6 k6)
                  have hz3 := (((HZd.out.other (j := w.heap.size + 1) (o := 0) (u := .slice o4 n4 k4) (by omega)).other (j := w.heap.size + 1) (o := 1) (u := .slice o5 n5 k5) (by omega)).other (j := w.heap.size + 1) (o := 2) (u := .slice o6 n6 k6) (by omega))
                  obtain ⟨-, y0, y1, y2, -⟩ := s3_put hz3.s ⟨bp, bl, bw⟩
                  obtain ⟨-, u0, u1, u2, -⟩ := ((hc3.other (j := w.heap.size + 1 + 1) (o := 0) (u := .int .i64 bp) (by omega)).other (j := w.heap.size + 1 + 1) (o := 1) (u := .int .i64 bl) (by omega)).other (j := w.heap.size + 1 + 1) (o := 2) (u := .int .i64 bw) (by omega)
                  simp only [] at y0 y1 y2
                  refine bodyPost_ret (v := .tuple #[.agg #[.slice o4 n4 k4, .slice o5 n5 k5, .slice o6 n6 k6], .agg #[.int .i64 bp, .int .i64 bl, .int .i64 bw], .bool true]) (by simp [results, Tryz.f20, go_sem, u0, u1, u2, y0, y1, y2]) rfl ?_
                  refine ⟨_, by rw [HQ1.out.2.1, HQ1.out.2.2], ?_, s3_put_below (c3_put_below HBd.out (by omega) _ _ _) (by omega) _ _ _⟩
                  rw [← HAC.out]
                  exact (lies_zero (HLd.out.plain3 (plain3 HCd.out _ _ _)) hgood.out hz3 _ _ _).is
        · refine Picks.wpOp_of_list rfl (fun K hK _ => ?_)
          go_wp2_with fail
          refine hK _ _ ?_
          clear hK
          refine Picks.wpAny_go [0] (by kernel_rfl) (by simp) ?_
          intro i hi
          simp only [List.mem_cons, List.not_mem_nil, or_false] at hi
          rcases hi with rfl
          · refine Picks.wpOp_of_list rfl (fun K hK _ => ?_)
            go_wp2_with fail
            refine hK _ _ ?_
            clear hK
            refine Picks.wpAny_go [2] (by kernel_rfl) (by simp) ?_
            intro i hi
            simp only [List.mem_cons, List.not_mem_nil, or_false] at hi
            rcases hi with rfl
            · refine Picks.wpOp_of_list rfl (fun K hK _ => ?_)
              go_wp2_with fail
              refine hK _ _ ?_
              clear hK
              refine Picks.wpAny_go [3] (by kernel_rfl) (by simp) ?_
              intro i hi
              simp only [List.mem_cons, List.not_mem_nil, or_false] at hi
              rcases hi with rfl
              · refine Picks.wpOp_of_list rfl (fun K hK _ => ?_)
                go_wp2_with fail
                refine hK _ _ ?_
                clear hK
                refine Picks.wpAny_go [4] (by kernel_rfl) (by simp) ?_
                intro i hi
                simp only [List.mem_cons, List.not_mem_nil, or_false] at hi
                rcases hi with rfl
                · refine Picks.wpOp_of_list rfl (fun K hK _ => ?_)
                  go_wp2_with fail
                  refine hK _ _ ?_
                  clear hK
                  refine Picks.wpAny_end (by kernel_rfl) ?_
                  go_wp2_with fail
                  have hc3 := c3_put HCd.out (.slice o4 n4 k4) (.slice o5 n5 k5) (.slice o6 n6 k6)
                  have hz3 := (((HZd.out.other (j := w.heap.size + 1) (o := 0) (u := .slice o4 n4 k4) (by omega)).other (j := w.heap.size + 1) (o := 1) (u := .slice o5 n5 k5) (by omega)).other (j := w.heap.size + 1) (o := 2) (u := .slice o6 n6 k6) (by omega))
                  obtain ⟨-, y0, y1, y2, -⟩ := s3_put hz3.s ⟨bp, bl, bw⟩
                  obtain ⟨-, u0, u1, u2, -⟩ := ((hc3.other (j := w.heap.size + 1 + 1) (o := 0) (u := .int .i64 bp) (by omega)).other (j := w.heap.size + 1 + 1) (o := 1) (u := .int .i64 bl) (by omega)).other (j := w.heap.size + 1 + 1) (o := 2) (u := .int .i64 bw) (by omega)
                  simp only [] at y0 y1 y2
                  refine bodyPost_ret (v := .tuple #[.agg #[.slice o4 n4 k4, .slice o5 n5 k5, .slice o6 n6 k6], .agg #[.int .i64 bp, .int .i64 bl, .int .i64 bw], .bool true]) (by simp [results, Tryz.f20, go_sem, u0, u1, u2, y0, y1, y2]) rfl ?_
                  refine ⟨_, by rw [HQ1.out.2.1, HQ1.out.2.2], ?_, s3_put_below (c3_put_below HBd.out (by omega) _ _ _) (by omega) _ _ _⟩
                  rw [← HAC.out]
                  exact (lies_zero (HLd.out.plain3 (plain3 HCd.out _ _ _)) hgood.out hz3 _ _ _).is
end Go.Proofs.YthdbilggnjjkhaaGreatDoor.Mut
