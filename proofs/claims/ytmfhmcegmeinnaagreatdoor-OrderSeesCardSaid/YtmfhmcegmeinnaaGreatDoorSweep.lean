/- Sweeping contents, and the reference's answer (layer 10). PRINTED by wip/gensweep.py. -/
import Derived.Test.YtmfhmcegmeinnaaGreatDoorSup
set_option linter.unusedSimpArgs false
set_option linter.unusedVariables false
namespace Go.Proofs.YtmfhmcegmeinnaaGreatDoor.Mut
open Go.RowKit Go.Sort Go.Proofs.YtmfhmcegmeinnaaGreatDoor.Ord Go.Proofs.YtmfhmcegmeinnaaGreatDoor.RegInv
set_option linter.unusedSectionVars false
variable [Inhabited Lim]

def expF (m : Mu) (t : Int) : Bool := decide (m.kind = 1) && (decide (0 < m.expiry) && decide (m.expiry ≤ t))
def deadF (c : Con) (s : Stp) (m : Mu) : Bool := !decide (stC s m.at_ < 0) && ((!decide (m.kind = 1)) || (expF m s.p || (decide (m.table = 2) && supF c m.key m.at_)))
theorem ne_flag {a b : Int} (h : ¬ a = b) : (a == b) = false ∧ (a != b) = true := by simp [h]
theorem eq_flag {a b : Int} (h : a = b) : (a == b) = true ∧ (a != b) = false := by simp [h]

set_option maxHeartbeats 2000000 in
set_option maxRecDepth 100000 in
theorem exp_any (x : Ro) (t : Int) (w : World) (hx : ∃ ao n cap, x.2 = .slice ao n cap) : Calls Tryz.prog 109 #[vM x, .int .i64 t] w (RetB (expF x.1 t) w) := by
  obtain ⟨xo, xn, xc, ex⟩ := hx
  obtain ⟨⟨at1, ak1, akey1, afin1, aval1, aex1, ⟨ap1, al1, aw1⟩, aov1⟩, av1⟩ := x
  simp only [] at ex
  subst ex
  unfold vM
  simp only []
  have HB := Lib.hid ((Below.refl _ w).alloc (Nat.le_refl _) (.cells #[.int .i64 at1, .int .i64 ak1, .string akey1, .string afin1, .string aval1, .int .i64 aex1, .int .i64 ap1, .int .i64 al1, .int .i64 aw1, .slice xo xn xc] 51))
  obtain ⟨Q, hQ⟩ : ∃ Q, Q = expF ⟨at1, ak1, akey1, afin1, aval1, aex1, ⟨ap1, al1, aw1⟩, aov1⟩ t := ⟨_, rfl⟩
  rw [← hQ]
  have HQ := Lib.hid hQ
  clear hQ
  go_enter Tryz.func109, Tryz.ntmps109
  by_cases h1 : ak1 = 1
  · have hk := eq_flag h1
    by_cases h2 : 0 < aex1
    · have hd2 : decide (0 < aex1) = true := decide_eq_true h2
      by_cases h3 : aex1 ≤ t
      · have hd3 : decide (aex1 ≤ t) = true := decide_eq_true h3
        have HR := Lib.hid (show true = Q by rw [HQ.out]; simp [expF, h1, h2, h3])
        subst h1
        go_wp2_with fail
        go_ret
        exact ⟨ret_bool HR.out, HB.out⟩
      · have hd3 : decide (aex1 ≤ t) = false := decide_eq_false h3
        have HR := Lib.hid (show false = Q by rw [HQ.out]; simp [expF, h3])
        subst h1
        go_wp2_with fail
        go_ret
        exact ⟨ret_bool HR.out, HB.out⟩
    · have hd2 : decide (0 < aex1) = false := decide_eq_false h2
      have HR := Lib.hid (show false = Q by rw [HQ.out]; simp [expF, h2])
      subst h1
      go_wp2_with fail
      go_ret
      exact ⟨ret_bool HR.out, HB.out⟩
  · have hk := ne_flag h1
    have HR := Lib.hid (show false = Q by rw [HQ.out]; simp [expF, h1])
    go_wp2_with fail
    go_ret
    exact ⟨ret_bool HR.out, HB.out⟩

set_option maxHeartbeats 4000000 in
set_option maxRecDepth 100000 in
theorem dead_any {c : Con} {n : Nat} {v : Value} {w : World} (x : Ro) (s : Stp) (hv : IsC c v w) (h : Good c n) (hn : n ≤ 100000) (hx : ∃ ao n cap, x.2 = .slice ao n cap) :
    Calls Tryz.prog 62 #[v, vM x, vS s] w (RetB (deadF c s x.1) w) := by
  obtain ⟨o1, n1, k1, o2, n2, k2, o3, n3, k3, rfl, hl⟩ := hv.form
  have HE := Lib.hid (fun W => exp_any x s.p W hx)
  have HS := Lib.hid (fun W (hW : RowKit.Below w.heap.size w W) => c_sup (n := n) x.1.key x.1.at_ (hv.below hW) h hn)
  have HL := Lib.hid (fun W => stless_any s x.1.at_ W)
  have hfin : deadF c s x.1 = (!decide (stC s x.1.at_ < 0) && ((!decide (x.1.kind = 1)) || (expF x.1 s.p || (decide (x.1.table = 2) && supF c x.1.key x.1.at_)))) := rfl
  rw [hfin]
  obtain ⟨E, hE⟩ : ∃ E, E = expF x.1 s.p := ⟨_, rfl⟩
  obtain ⟨U, hU⟩ : ∃ U, U = supF c x.1.key x.1.at_ := ⟨_, rfl⟩
  obtain ⟨L, hL⟩ : ∃ L, L = decide (stC s x.1.at_ < 0) := ⟨_, rfl⟩
  rw [← hL] at HL
  rw [← hE] at HE ⊢
  rw [← hU] at HS ⊢
  rw [← hL]
  clear hv h hn hfin hE hU hl hL
  obtain ⟨xo, xn, xc, ex⟩ := hx
  obtain ⟨⟨at1, ak1, akey1, afin1, aval1, aex1, ⟨ap1, al1, aw1⟩, aov1⟩, av1⟩ := x
  simp only [] at ex
  subst ex
  obtain ⟨sp, sl, sw⟩ := s
  simp only [] at HE HS HL ⊢
  unfold vM at HE ⊢
  unfold vS at HS HL ⊢
  simp only [] at HE HS HL ⊢
  obtain ⟨W0, hW0⟩ : ∃ W0, W0 = ((w.alloc (.cells #[.slice o1 n1 k1, .slice o2 n2 k2, .slice o3 n3 k3] 28)).alloc (.cells #[.int .i64 at1, .int .i64 ak1, .string akey1, .string afin1, .string aval1, .int .i64 aex1, .int .i64 ap1, .int .i64 al1, .int .i64 aw1, .slice xo xn xc] 51)).alloc (.cells #[.int .i64 sp, .int .i64 sl, .int .i64 sw] 43) := ⟨_, rfl⟩
  have hb0 : RowKit.Below w.heap.size w W0 := by rw [hW0]; exact (((Below.refl _ w).alloc (Nat.le_refl _) _).alloc (by simp) _).alloc (by simp; omega) _
  have hP : C3 W0 w.heap.size (.slice o1 n1 k1) (.slice o2 n2 k2) (.slice o3 n3 k3) := by
    rw [hW0]
    exact ((C3.new w _ _ _).below ((Below.refl _ _).alloc (Nat.le_refl _) _)).below ((Below.refl _ _).alloc (Nat.le_refl _) _)
  have hM : A0 W0 (w.heap.size + 1) (⟨⟨at1, ak1, akey1, afin1, aval1, aex1, ⟨ap1, al1, aw1⟩, aov1⟩, .slice xo xn xc⟩ : Ro) := by
    rw [hW0]
    have := A0.of (At.new (w.alloc (.cells #[.slice o1 n1 k1, .slice o2 n2 k2, .slice o3 n3 k3] 28)) 51 (⟨⟨at1, ak1, akey1, afin1, aval1, aex1, ⟨ap1, al1, aw1⟩, aov1⟩, .slice xo xn xc⟩ : Ro))
    rw [World.size_alloc] at this
    exact this.below ((Below.refl _ _).alloc (Nat.le_refl _) _)
  have z0 : W0.cell? ⟨w.heap.size + 1 + 1, 0, none⟩ = some (.int .i64 sp) := by rw [hW0]; go_simp
  have z1 : W0.cell? ⟨w.heap.size + 1 + 1, 1, none⟩ = some (.int .i64 sl) := by rw [hW0]; go_simp
  have z2 : W0.cell? ⟨w.heap.size + 1 + 1, 2, none⟩ = some (.int .i64 sw) := by rw [hW0]; go_simp
  have hz : w.heap.size + 1 + 1 < W0.heap.size := by rw [hW0]; simp
  have HZ := Lib.hid (show ∀ W, RowKit.Below W0.heap.size W0 W → W.cell? ⟨w.heap.size + 1 + 1, 0, none⟩ = some (.int .i64 sp) ∧ W.cell? ⟨w.heap.size + 1 + 1, 1, none⟩ = some (.int .i64 sl) ∧ W.cell? ⟨w.heap.size + 1 + 1, 2, none⟩ = some (.int .i64 sw) from fun W h => ⟨(h.cell (p := ⟨w.heap.size + 1 + 1, 0, none⟩) hz).trans z0, (h.cell (p := ⟨w.heap.size + 1 + 1, 1, none⟩) hz).trans z1, (h.cell (p := ⟨w.heap.size + 1 + 1, 2, none⟩) hz).trans z2⟩)
  have HP := Lib.hid hP
  have HM := Lib.hid hM
  have HB0 := Lib.hid hb0
  have HW := Lib.hid hW0
  have HN := Lib.hid (Below.refl W0.heap.size W0)
  clear hb0 hP hM hW0 z0 z1 z2 hz
  go_enter Tryz.func62, Tryz.ntmps62
  go_upto_region 1 with fail
  rw [← HW.out]
  clear HW
  obtain ⟨z0, z1, z2⟩ := HZ.out W0 HN.out
  obtain ⟨-, m0, m1, m2, m3, m4, m5, m6, m7, m8, m9⟩ := HM.out
  simp only [] at m0 m1 m2 m3 m4 m5 m6 m7 m8 m9
  go_wp2_with fail
  refine (HL.out _).mono ?_
  rintro e w1 ⟨rfl, hb⟩
  have HB1 := Lib.hid (show RowKit.Below W0.heap.size W0 w1 from hb.below)
  clear hb z0 z1 z2 m0 m1 m2 m3 m4 m5 m6 m7 m8 m9
  have key : True := trivial
  cases L
  case true =>
    go_wp2_with fail
    go_ret
    exact ⟨rfl, below_then HB0.out (Nat.le_refl _) HB1.out⟩
  obtain ⟨z0, z1, z2⟩ := HZ.out w1 HB1.out
  obtain ⟨-, m0, m1, m2, m3, m4, m5, m6, m7, m8, m9⟩ := HM.out.below HB1.out
  simp only [] at m0 m1 m2 m3 m4 m5 m6 m7 m8 m9
  by_cases h1 : ak1 = 1
  case neg =>
    have hk := ne_flag h1
    have HR := Lib.hid (show true = (!false && ((!decide (ak1 = 1)) || (E || (decide (at1 = 2) && U)))) by simp [h1])
    go_wp2_with fail
    go_ret
    exact ⟨ret_bool HR.out, below_then HB0.out (Nat.le_refl _) HB1.out⟩
  subst h1
  go_wp2_with fail
  refine (HE.out _).mono ?_
  rintro e w2 ⟨rfl, hb⟩
  have HB2 := Lib.hid (below_then HB1.out (Nat.le_refl _) hb)
  clear hb z0 z1 z2 m0 m1 m2 m3 m4 m5 m6 m7 m8 m9
  cases E
  case true =>
    go_wp2_with fail
    go_ret
    exact ⟨rfl, below_then HB0.out (Nat.le_refl _) HB2.out⟩
  obtain ⟨-, p0, p1, p2, -⟩ := HP.out.below HB2.out
  obtain ⟨-, m0, m1, m2, m3, m4, m5, m6, m7, m8, m9⟩ := HM.out.below HB2.out
  simp only [] at m0 m1 m2 m3 m4 m5 m6 m7 m8 m9
  by_cases h2 : at1 = 2
  case neg =>
    have hk := ne_flag h2
    have HR := Lib.hid (show false = (!false && ((!decide ((1 : Int) = 1)) || (false || (decide (at1 = 2) && U)))) by simp [h2])
    go_wp2_with fail
    go_ret
    exact ⟨ret_bool HR.out, below_then HB0.out (Nat.le_refl _) HB2.out⟩
  subst h2
  go_wp2_with fail
  refine (HS.out _ (below_then HB0.out (Nat.le_refl _) HB2.out)).mono ?_
  rintro e w3 ⟨rfl, hb⟩
  have HB3 := Lib.hid (below_then HB2.out (Nat.le_refl _) hb)
  clear hb p0 p1 p2 m0 m1 m2 m3 m4 m5 m6 m7 m8 m9
  cases U
  all_goals
    go_wp2_with fail
    go_ret
    exact ⟨rfl, below_then HB0.out (Nat.le_refl _) HB3.out⟩

set_option maxHeartbeats 2000000 in
set_option maxRecDepth 100000 in
theorem ask_sweep {c : Con} {n : Nat} {a b d : Value} {W0 : World} (kb kc : Nat) (s : Stp) (hv : IsC c (.agg #[a, b, d]) W0) (h : Good c n) (hn : n ≤ 100000) (hP : C3 W0 kb a b d) (hc : kc < W0.heap.size) (f0 : W0.cell? ⟨kc, 0, none⟩ = some (.int .i64 s.p)) (f1 : W0.cell? ⟨kc, 1, none⟩ = some (.int .i64 s.l)) (f2 : W0.cell? ⟨kc, 2, none⟩ = some (.int .i64 s.w))
    (w : World) (hW : RowKit.Below W0.heap.size W0 w) (row : Option Nat) (hrow : ∀ k, row = some k → W0.heap.size ≤ k) : Asks w row 61 #[.pointer (some ⟨kb, 0, none⟩), .pointer (some ⟨kc, 0, none⟩)] (fun x => deadF c s x) := by
  intro x w1 hg hx
  have hb1 : RowKit.Below W0.heap.size W0 w1 := hW.grown hg hW.size hrow
  have HD := Lib.hid (fun W (h1 : RowKit.Below w1.heap.size w1 W) => dead_any (n := n) x s (hv.below (below_then hb1 (Nat.le_refl _) h1)) h hn hx)
  obtain ⟨hkb, p0, p1, p2, -⟩ := hP.below hb1
  have hkc : kc < w1.heap.size := Nat.lt_of_lt_of_le hc hb1.size
  have z0 := (hb1.cell (p := ⟨kc, 0, none⟩) hc).trans f0
  have z1 := (hb1.cell (p := ⟨kc, 1, none⟩) hc).trans f1
  have z2 := (hb1.cell (p := ⟨kc, 2, none⟩) hc).trans f2
  simp only []
  obtain ⟨Q, hQ⟩ : ∃ Q, Q = deadF c s x.1 := ⟨_, rfl⟩
  rw [← hQ] at HD ⊢
  obtain ⟨o1, n1, k1, o2, n2, k2, o3, n3, k3, e, hl⟩ := hv.form
  injection e with e
  injection e with e
  simp only [List.cons.injEq, and_true] at e
  obtain ⟨rfl, rfl, rfl⟩ := e
  clear hQ hv h hn hP hc f0 f1 f2 hW hrow hg hb1 hl
  obtain ⟨xo, xn, xc, ex⟩ := hx
  obtain ⟨⟨at1, ak1, akey1, afin1, aval1, aex1, ⟨ap1, al1, aw1⟩, aov1⟩, av1⟩ := x
  simp only [] at ex
  subst ex
  obtain ⟨sp, sl, sw⟩ := s
  unfold vM at HD ⊢
  unfold vS at HD
  simp only [] at HD z0 z1 z2 ⊢
  go_enter Tryz.func61, Tryz.ntmps61
  have hB := Lib.hid ((Below.refl _ w1).alloc (Nat.le_refl _) (.cells #[.int .i64 at1, .int .i64 ak1, .string akey1, .string afin1, .string aval1, .int .i64 aex1, .int .i64 ap1, .int .i64 al1, .int .i64 aw1, .slice xo xn xc] 51))
  go_wp2_with fail
  refine (HD.out _ hB.out).mono ?_
  rintro e w2 ⟨rfl, hb⟩
  have HB := Lib.hid (below_then hB.out (Nat.le_refl _) hb)
  clear hb
  go_wp2_with fail
  go_ret
  exact ⟨rfl, HB.out⟩

def deadsF (c : Con) (s : Stp) : List Mu := (allF c).filter fun m => deadF c s m
theorem Reads.len {w : World} {v : Value} {l : List Mu} (h : Reads w v l) : ∃ ao cap, v = .slice ao l.length cap := by
  obtain ⟨ao, cap, e, -, -⟩ := h.form
  exact ⟨ao, cap, e⟩
set_option maxHeartbeats 2000000 in
set_option maxRecDepth 100000 in
theorem leftof_any {c : Con} {n : Nat} {a b d : Value} {Wb : World} (v : Value) (R : List Ro) (kb kc : Nat) (s : Stp) (w : World) (hcv : IsC c (.agg #[a, b, d]) Wb) (hG : Good c n) (hn0 : n ≤ 100000) (hP : C3 Wb kb a b d) (hc : kc < Wb.heap.size) (f0 : Wb.cell? ⟨kc, 0, none⟩ = some (.int .i64 s.p)) (f1 : Wb.cell? ⟨kc, 1, none⟩ = some (.int .i64 s.l)) (f2 : Wb.cell? ⟨kc, 2, none⟩ = some (.int .i64 s.w)) (hWb : RowKit.Below Wb.heap.size Wb w) (hv : MRow w v R) (hs : ∀ x ∈ R, Small x.1) (hn : R.length ≤ 100000) :
    Calls Tryz.prog 58 #[v, .pointer (some ⟨kb, 0, none⟩), .pointer (some ⟨kc, 0, none⟩)] w (PartP w ((R.map (·.1)).filter fun m => !deadF c s m)) := by
  have HC := Lib.hid (copies_any v R w hv (fun x hx => (hs x hx).over) hn)
  have HD := Lib.hid (fun (W : World) (hW : RowKit.Below w.heap.size w W) (g cap : Nat) (R1 : List Ro) (hcp : Copied W (.slice (some ⟨g, 0, none⟩) R1.length cap) R1 w.heap.size) (hl : R1.length ≤ 100000) =>
    delete_any w.heap.size (.slice (some ⟨g, 0, none⟩) R1.length cap) R1 61 #[.pointer (some ⟨kb, 0, none⟩), .pointer (some ⟨kc, 0, none⟩)] (fun x => deadF c s x) W hcp.row hcp.mrow.forms (by omega)
      (ask_sweep (n := n) kb kc s hcv hG hn0 hP hc f0 f1 f2 W (below_then hWb (Nat.le_refl _) hW) _ (fun k hk => Nat.le_trans hWb.size (hcp.row.lt k hk).1))
      (enters_of Tryz.func61 (by kernel_rfl) rfl))
  obtain ⟨ao, cap, rfl, -, -⟩ := hv.form
  obtain ⟨m, hN⟩ : ∃ n, n = R.length := ⟨_, rfl⟩
  unfold CopiesP at HC
  rw [← hN] at HC hn ⊢
  have HN := Lib.hid hN
  clear hv hs hc f0 f1 f2 hcv hG hn0 hP hN hWb
  go_enter Tryz.func58, Tryz.ntmps58
  go_wp2_with fail
  refine HC.out.mono ?_
  rintro e w1 ⟨v1, R1, rfl, ⟨g, cap1, rfl⟩, hm, hcp, hb⟩
  have hl1 : m = R1.length := by have h := congrArg List.length hm; simp only [List.length_map] at h; rw [HN.out]; exact h.symm
  rw [hl1] at hcp
  have HD1 := Lib.hid (HD.out w1 hb g cap1 R1 hcp (by omega))
  rw [← hl1] at HD1
  have HP := Lib.hid (And.intro hm (And.intro hcp (And.intro hl1 hb)))
  clear hm hcp hb hl1 HC HD
  go_wp2_with fail
  refine HD1.out.mono ?_
  rintro e w2 ⟨v2, rfl, ho, hg, -⟩
  have hb2 : RowKit.Below w.heap.size w w2 := HP.out.2.2.2.grown hg HP.out.2.2.2.size (fun k hk => (HP.out.2.1.row.lt k (by rw [HP.out.2.2.1] at hk; exact hk)).1)
  have hmr := HP.out.2.1.filtered (K := R1.filter fun x => !deadF c s x.1) (fun x hx => (List.mem_filter.1 hx).1) ho (by rw [← HP.out.2.2.1]; exact hg)
  have HF := Lib.hid (And.intro hmr hb2)
  clear ho hg hmr hb2
  go_wp2_with fail
  go_ret
  refine ⟨_, _, rfl, ?_, HF.out.1, HF.out.2⟩
  rw [← HP.out.1, List.filter_map]
  rfl

set_option maxHeartbeats 4000000 in
set_option maxRecDepth 100000 in
theorem c_sweep {c : Con} {n : Nat} {v : Value} {w : World} (s : Stp) (hv : IsC c v w) (h : Good c n) (hn : n ≤ 100000) :
    Calls Tryz.prog 22 #[v, vS s] w (RetC (c.filter fun m => !deadF c s m) w) := by
  obtain ⟨f, hf⟩ : ∃ f : Mu → Bool, f = fun m => !deadF c s m := ⟨_, rfl⟩
  rw [← hf]
  obtain ⟨o1, n1, k1, o2, n2, k2, o3, n3, k3, rfl, hl⟩ := hv.form
  have hlo := h.okc.lens
  obtain ⟨⟨RA, ea, hra⟩, ⟨RB, eb, hrb⟩, ⟨RD, ed, hrd⟩⟩ := hl
  have la : RA.length ≤ 100000 := by have h1 : c.cells.length = RA.length := by rw [← ea]; simp
                                     omega
  have lb : RB.length ≤ 100000 := by have h1 : c.wipes.length = RB.length := by rw [← eb]; simp
                                     omega
  have ld : RD.length ≤ 100000 := by have h1 : c.sibs.length = RD.length := by rw [← ed]; simp
                                     omega
  have sa : ∀ x ∈ RA, Small x.1 := fun x hx => small_right (h.okc.right _ (Con.mem_all.2 (Or.inl (ea ▸ List.mem_map.2 ⟨x, hx, rfl⟩))))
  have sb : ∀ x ∈ RB, Small x.1 := fun x hx => small_right (h.okc.right _ (Con.mem_all.2 (Or.inr (Or.inl (eb ▸ List.mem_map.2 ⟨x, hx, rfl⟩)))))
  have sd : ∀ x ∈ RD, Small x.1 := fun x hx => small_right (h.okc.right _ (Con.mem_all.2 (Or.inr (Or.inr (ed ▸ List.mem_map.2 ⟨x, hx, rfl⟩)))))
  obtain ⟨sp, sl, sw⟩ := s
  obtain ⟨W0, hW0⟩ : ∃ W0, W0 = ((w.alloc (.cells #[.slice o1 n1 k1, .slice o2 n2 k2, .slice o3 n3 k3] 28)).alloc (.cells #[.int .i64 sp, .int .i64 sl, .int .i64 sw] 43)).alloc (.cells #[.slice none 0 0, .slice none 0 0, .slice none 0 0] 28) := ⟨_, rfl⟩
  have hb0 : RowKit.Below w.heap.size w W0 := by rw [hW0]; exact (((Below.refl _ w).alloc (Nat.le_refl _) _).alloc (by simp) _).alloc (by simp; omega) _
  have hP : C3 W0 w.heap.size (.slice o1 n1 k1) (.slice o2 n2 k2) (.slice o3 n3 k3) := by
    rw [hW0]
    exact ((C3.new w _ _ _).below ((Below.refl _ _).alloc (Nat.le_refl _) _)).below ((Below.refl _ _).alloc (Nat.le_refl _) _)
  have hT : C3 W0 (w.heap.size + 1 + 1) (.slice none 0 0) (.slice none 0 0) (.slice none 0 0) := by
    rw [hW0]
    have := C3.new ((w.alloc (.cells #[.slice o1 n1 k1, .slice o2 n2 k2, .slice o3 n3 k3] 28)).alloc (.cells #[.int .i64 sp, .int .i64 sl, .int .i64 sw] 43)) (.slice none 0 0) (.slice none 0 0) (.slice none 0 0)
    rwa [World.size_alloc, World.size_alloc] at this
  have z0 : W0.cell? ⟨w.heap.size + 1, 0, none⟩ = some (.int .i64 sp) := by rw [hW0]; go_simp
  have z1 : W0.cell? ⟨w.heap.size + 1, 1, none⟩ = some (.int .i64 sl) := by rw [hW0]; go_simp
  have z2 : W0.cell? ⟨w.heap.size + 1, 2, none⟩ = some (.int .i64 sw) := by rw [hW0]; go_simp
  have hz : w.heap.size + 1 < W0.heap.size := by have := hT.lt; omega
  have key : ∀ (v : Value) (R : List Ro) (l : List Mu), R.map (·.1) = l → MRow w v R → (∀ x ∈ R, Small x.1) → R.length ≤ 100000 → ∀ W, RowKit.Below W0.heap.size W0 W → Calls Tryz.prog 58 #[v, .pointer (some ⟨w.heap.size, 0, none⟩), .pointer (some ⟨w.heap.size + 1, 0, none⟩)] W fun e w' => ∃ v, e = .returned v ∧ Reads w' v (l.filter f) ∧ RowKit.Below W.heap.size W w' := fun v R l hl hv' hs' hn' W hW => by
    refine (leftof_any (n := n) v R w.heap.size (w.heap.size + 1) ⟨sp, sl, sw⟩ W (hv.below hb0) h hn hP hz z0 z1 z2 hW (hv'.below (below_then hb0 (Nat.le_refl _) hW)) hs' hn').mono ?_
    rintro e w' ⟨v1, R1, rfl, h1, h2, h3⟩
    exact ⟨v1, rfl, ⟨R1, by rw [h1, hl, hf], h2⟩, h3⟩
  have HA := Lib.hid (key _ _ _ ea hra sa la)
  have HB := Lib.hid (key _ _ _ eb hrb sb lb)
  have HD := Lib.hid (key _ _ _ ed hrd sd ld)
  have HZ := Lib.hid (And.intro hz (And.intro z0 (And.intro z1 z2)))
  have HP := Lib.hid hP
  have HT := Lib.hid hT
  have HB0 := Lib.hid hb0
  have HW := Lib.hid hW0
  have HI := Lib.hid (fun W (hW : RowKit.Below W0.heap.size W0 W) => hv.below (below_then hb0 (Nat.le_refl _) hW))
  have he1 : ∀ args w, (callFunc 58 args).run Tryz.prog w = .ok (.enter 58 args) w := enters_of Tryz.func58 (by kernel_rfl) rfl
  clear key hlo ea eb ed hra hrb hrd la lb ld sa sb sd hb0 hP hT hW0 z0 z1 z2 hz hf hv h hn
  unfold vS
  simp only []
  go_enter Tryz.func22, Tryz.ntmps22
  go_upto_region 2 with fail
  rw [← HW.out]
  clear HW
  go_wp2_with fail
  refine wp_region_told [] 13 [false, false, false, false, false, false, false, true, true, true, true, true, true, true, true, true, true, true, true, true]
    [sLit (.func (.func 58) #[] #[.pointer (some ⟨w.heap.size, 0, none⟩), .pointer (some ⟨w.heap.size + 1, 0, none⟩)]),
    sLit (.pointer (some ⟨w.heap.size, 0, none⟩)),
    sLit (.slice o1 n1 k1),
    sOne (fun v W => Reads W v (c.cells.filter f)) (fun _ _ _ h hb => h.below hb),
    sLit (.func (.func 58) #[] #[.pointer (some ⟨w.heap.size, 0, none⟩), .pointer (some ⟨w.heap.size + 1, 0, none⟩)]),
    sLit (.pointer (some ⟨w.heap.size, 1, none⟩)),
    sLit (.slice o2 n2 k2),
    sOne (fun v W => Reads W v (c.wipes.filter f)) (fun _ _ _ h hb => h.below hb),
    sLit (.func (.func 58) #[] #[.pointer (some ⟨w.heap.size, 0, none⟩), .pointer (some ⟨w.heap.size + 1, 0, none⟩)]),
    sLit (.pointer (some ⟨w.heap.size, 2, none⟩)),
    sLit (.slice o3 n3 k3),
    sOne (fun v W => Reads W v (c.sibs.filter f)) (fun _ _ _ h hb => h.below hb),
    sFn3 10 14 18 (fun x0 x1 x2 => .agg #[x0, x1, x2])] (by kernel_rfl) (by kernel_rfl) (by kernel_rfl) (fun F hF => ?_)
  simp only [over, overL, Nat.reduceAdd] at hF
  obtain rfl := funext hF
  clear hF
  refine ⟨⟨?_, ?_, ?_, ?_, ?_, ?_, ?_, ?_, ?_, ?_, ?_, ?_, ?_, trivial⟩, ?_⟩
  · intro V W hb hd K hK _
    clear hd
    go_wp2_with fail
    refine hK _ _ ?_ ?_ ?_ ?_
    · rfl
    · exact Below.refl _ _
    · exact rfl
    · trivial
  · intro V W hb hd K hK _
    clear hd
    go_wp2_with fail
    refine hK _ _ ?_ ?_ ?_ ?_
    · rfl
    · exact Below.refl _ _
    · exact rfl
    · trivial
  · intro V W hb hd K hK _
    have h1 : (V 8) = .pointer (some ⟨w.heap.size, 0, none⟩) := hd 1 (by kernel_rfl)
    clear hd
    obtain ⟨-, s0, s1, s2, -⟩ := HP.out.below hb
    go_wp2_with fail
    refine hK _ _ ?_ ?_ ?_ ?_
    · rfl
    · exact Below.refl _ _
    · exact rfl
    · trivial
  · intro V W hb hd K hK _
    have h0 : (V 7) = .func (.func 58) #[] #[.pointer (some ⟨w.heap.size, 0, none⟩), .pointer (some ⟨w.heap.size + 1, 0, none⟩)] := hd 0 (by kernel_rfl)
    have h2 : (V 9) = .slice o1 n1 k1 := hd 2 (by kernel_rfl)
    clear hd
    go_wp2_with fail
    refine (HA.out _ hb).mono ?_
    rintro e w1 ⟨v1, rfl, hr1, hb1⟩
    go_wp2_with fail
    refine hK _ _ ?_ ?_ ?_ ?_
    · rfl
    · exact hb1
    · exact hr1
    · trivial
  · intro V W hb hd K hK _
    clear hd
    go_wp2_with fail
    refine hK _ _ ?_ ?_ ?_ ?_
    · rfl
    · exact Below.refl _ _
    · exact rfl
    · trivial
  · intro V W hb hd K hK _
    clear hd
    go_wp2_with fail
    refine hK _ _ ?_ ?_ ?_ ?_
    · rfl
    · exact Below.refl _ _
    · exact rfl
    · trivial
  · intro V W hb hd K hK _
    have h5 : (V 12) = .pointer (some ⟨w.heap.size, 1, none⟩) := hd 5 (by kernel_rfl)
    clear hd
    obtain ⟨-, s0, s1, s2, -⟩ := HP.out.below hb
    go_wp2_with fail
    refine hK _ _ ?_ ?_ ?_ ?_
    · rfl
    · exact Below.refl _ _
    · exact rfl
    · trivial
  · intro V W hb hd K hK _
    have h4 : (V 11) = .func (.func 58) #[] #[.pointer (some ⟨w.heap.size, 0, none⟩), .pointer (some ⟨w.heap.size + 1, 0, none⟩)] := hd 4 (by kernel_rfl)
    have h6 : (V 13) = .slice o2 n2 k2 := hd 6 (by kernel_rfl)
    clear hd
    go_wp2_with fail
    refine (HB.out _ hb).mono ?_
    rintro e w1 ⟨v1, rfl, hr1, hb1⟩
    go_wp2_with fail
    refine hK _ _ ?_ ?_ ?_ ?_
    · rfl
    · exact hb1
    · exact hr1
    · trivial
  · intro V W hb hd K hK _
    clear hd
    go_wp2_with fail
    refine hK _ _ ?_ ?_ ?_ ?_
    · rfl
    · exact Below.refl _ _
    · exact rfl
    · trivial
  · intro V W hb hd K hK _
    clear hd
    go_wp2_with fail
    refine hK _ _ ?_ ?_ ?_ ?_
    · rfl
    · exact Below.refl _ _
    · exact rfl
    · trivial
  · intro V W hb hd K hK _
    have h9 : (V 16) = .pointer (some ⟨w.heap.size, 2, none⟩) := hd 9 (by kernel_rfl)
    clear hd
    obtain ⟨-, s0, s1, s2, -⟩ := HP.out.below hb
    go_wp2_with fail
    refine hK _ _ ?_ ?_ ?_ ?_
    · rfl
    · exact Below.refl _ _
    · exact rfl
    · trivial
  · intro V W hb hd K hK _
    have h8 : (V 15) = .func (.func 58) #[] #[.pointer (some ⟨w.heap.size, 0, none⟩), .pointer (some ⟨w.heap.size + 1, 0, none⟩)] := hd 8 (by kernel_rfl)
    have h10 : (V 17) = .slice o3 n3 k3 := hd 10 (by kernel_rfl)
    clear hd
    go_wp2_with fail
    refine (HD.out _ hb).mono ?_
    rintro e w1 ⟨v1, rfl, hr1, hb1⟩
    go_wp2_with fail
    refine hK _ _ ?_ ?_ ?_ ?_
    · rfl
    · exact hb1
    · exact hr1
    · trivial
  · intro V W hb hd K hK _
    have h3 : Reads W (V 10) (c.cells.filter f) := hd 3 (by kernel_rfl)
    have h7 : Reads W (V 14) (c.wipes.filter f) := hd 7 (by kernel_rfl)
    have h11 : Reads W (V 18) (c.sibs.filter f) := hd 11 (by kernel_rfl)
    clear hd
    obtain ⟨o13, k13, e3, -, -⟩ := h3.form
    obtain ⟨o17, k17, e7, -, -⟩ := h7.form
    obtain ⟨o21, k21, e11, -, -⟩ := h11.form
    go_wp2_with fail
    refine hK _ _ ?_ ?_ ?_ ?_
    · rfl
    · exact Below.refl _ _
    · exact (show _ = Value.agg #[V 10, V 14, V 18] by rw [e3, e7, e11]; rfl)
    · trivial
  · intro V W hb hd hap
    have h3 : Reads W (V 10) (c.cells.filter f) := hd 3 (by decide)
    have h7 : Reads W (V 14) (c.wipes.filter f) := hd 7 (by decide)
    have h11 : Reads W (V 18) (c.sibs.filter f) := hd 11 (by decide)
    have h12 : (V 19) = .agg #[V 10, V 14, V 18] := hd 12 (by decide)
    clear hd hap
    simp only [List.drop_succ_cons, List.drop_zero]
    have HT4 := Lib.hid (HT.out.below hb)
    obtain ⟨-, t0, t1, t2, f0, f1, f2⟩ := HT4.out
    obtain ⟨o4, k4, e3, -, -⟩ := h3.form
    obtain ⟨o5, k5, e7, -, -⟩ := h7.form
    obtain ⟨o6, k6, e11, -, -⟩ := h11.form
    rw [e3] at h3
    rw [e7] at h7
    rw [e11] at h11
    have HRR := Lib.hid (And.intro h3 (And.intro h7 h11))
    clear h3 h7 h11
    obtain ⟨n4, hn4⟩ : ∃ n, n = (c.cells.filter f).length := ⟨_, rfl⟩
    obtain ⟨n5, hn5⟩ : ∃ n, n = (c.wipes.filter f).length := ⟨_, rfl⟩
    obtain ⟨n6, hn6⟩ : ∃ n, n = (c.sibs.filter f).length := ⟨_, rfl⟩
    rw [← hn4] at e3 HRR
    rw [← hn5] at e7 HRR
    rw [← hn6] at e11 HRR
    clear hn4 hn5 hn6
    go_wp2_with fail
    obtain ⟨-, u0, u1, u2, -⟩ := c3_put HT4.out (.slice o4 n4 k4) (.slice o5 n5 k5) (.slice o6 n6 k6)
    refine bodyPost_ret (v := .agg #[.slice o4 n4 k4, .slice o5 n5 k5, .slice o6 n6 k6]) (by simp [results, Tryz.f22, go_sem, u0, u1, u2]) rfl ?_
    have hl : Lies _ (.slice o4 n4 k4) (.slice o5 n5 k5) (.slice o6 n6 k6) (c.filter f) := ⟨HRR.out.1, HRR.out.2.1, HRR.out.2.2⟩
    exact ⟨_, rfl, (hl.plain3 (plain3 HT4.out _ _ _)).is, c3_put_below (below_then HB0.out (Nat.le_refl _) hb) (by omega) _ _ _⟩


end Go.Proofs.YtmfhmcegmeinnaaGreatDoor.Mut
