/- Sweeping contents, and the reference's answer (layer 10). PRINTED by wip/gensweep.py. -/
import Derived.Test.YtgcfhlleaekgfaaGreatDoorSup
set_option linter.unusedSimpArgs false
set_option linter.unusedVariables false
namespace Go.Proofs.YtgcfhlleaekgfaaGreatDoor.Mut
open Go.RowKit Go.Sort Go.Proofs.YtgcfhlleaekgfaaGreatDoor.Ord Go.Proofs.YtgcfhlleaekgfaaGreatDoor.RegInv

def expF (m : Mu) (t : Int) : Bool := decide (m.kind = 1) && (decide (0 < m.expiry) && decide (m.expiry ≤ t))
def deadF (c : Con) (s : Stp) (m : Mu) : Bool := !decide (stC s m.at_ < 0) && ((!decide (m.kind = 1)) || (expF m s.p || (decide (m.table = 2) && supF c m.key m.at_)))
theorem ne_flag {a b : Int} (h : ¬ a = b) : (a == b) = false ∧ (a != b) = true := by simp [h]
theorem eq_flag {a b : Int} (h : a = b) : (a == b) = true ∧ (a != b) = false := by simp [h]

set_option maxHeartbeats 2000000 in
set_option maxRecDepth 100000 in
theorem exp_any (x : Ro) (t : Int) (w : World) (hx : ∃ ao n cap, x.2 = .slice ao n cap) : Calls Tryz.prog 73 #[vM x, .int .i64 t] w (RetB (expF x.1 t) w) := by
  obtain ⟨xo, xn, xc, ex⟩ := hx
  obtain ⟨⟨at1, ak1, akey1, afin1, aval1, aex1, ⟨ap1, al1, aw1⟩, aov1⟩, av1⟩ := x
  simp only [] at ex
  subst ex
  unfold vM
  simp only []
  have HB := Lib.hid ((Below.refl _ w).alloc (Nat.le_refl _) (.cells #[.int .i64 at1, .int .i64 ak1, .string akey1, .string afin1, .string aval1, .int .i64 aex1, .int .i64 ap1, .int .i64 al1, .int .i64 aw1, .slice xo xn xc] 29))
  obtain ⟨Q, hQ⟩ : ∃ Q, Q = expF ⟨at1, ak1, akey1, afin1, aval1, aex1, ⟨ap1, al1, aw1⟩, aov1⟩ t := ⟨_, rfl⟩
  rw [← hQ]
  have HQ := Lib.hid hQ
  clear hQ
  go_enter Tryz.func73, Tryz.ntmps73
  by_cases h1 : ak1 = 1
  · have hk := eq_flag h1
    by_cases h2 : 0 < aex1
    · have hd2 : decide (0 < aex1) = true := decide_eq_true h2
      by_cases h3 : aex1 ≤ t
      · have hd3 : decide (aex1 ≤ t) = true := decide_eq_true h3
        have HR := Lib.hid (show true = Q by rw [HQ.out]; simp [expF, h1, h2, h3])
        subst h1
        go_wp2_with fail
        go_ret
        exact ⟨ret_bool HR.out, HB.out⟩
      · have hd3 : decide (aex1 ≤ t) = false := decide_eq_false h3
        have HR := Lib.hid (show false = Q by rw [HQ.out]; simp [expF, h3])
        subst h1
        go_wp2_with fail
        go_ret
        exact ⟨ret_bool HR.out, HB.out⟩
    · have hd2 : decide (0 < aex1) = false := decide_eq_false h2
      have HR := Lib.hid (show false = Q by rw [HQ.out]; simp [expF, h2])
      subst h1
      go_wp2_with fail
      go_ret
      exact ⟨ret_bool HR.out, HB.out⟩
  · have hk := ne_flag h1
    have HR := Lib.hid (show false = Q by rw [HQ.out]; simp [expF, h1])
    go_wp2_with fail
    go_ret
    exact ⟨ret_bool HR.out, HB.out⟩

set_option maxHeartbeats 2000000 in
set_option maxRecDepth 100000 in
theorem refexp_any (x : Ro) (t : Int) (w : World) (hx : ∃ ao n cap, x.2 = .slice ao n cap) : Calls Tryz.prog 30 #[vM x, .int .i64 t] w (RetB (expF x.1 t) w) := by
  obtain ⟨xo, xn, xc, ex⟩ := hx
  obtain ⟨⟨at1, ak1, akey1, afin1, aval1, aex1, ⟨ap1, al1, aw1⟩, aov1⟩, av1⟩ := x
  simp only [] at ex
  subst ex
  unfold vM
  simp only []
  have HB := Lib.hid ((Below.refl _ w).alloc (Nat.le_refl _) (.cells #[.int .i64 at1, .int .i64 ak1, .string akey1, .string afin1, .string aval1, .int .i64 aex1, .int .i64 ap1, .int .i64 al1, .int .i64 aw1, .slice xo xn xc] 29))
  obtain ⟨Q, hQ⟩ : ∃ Q, Q = expF ⟨at1, ak1, akey1, afin1, aval1, aex1, ⟨ap1, al1, aw1⟩, aov1⟩ t := ⟨_, rfl⟩
  rw [← hQ]
  have HQ := Lib.hid hQ
  clear hQ
  go_enter Tryz.func30, Tryz.ntmps30
  by_cases h1 : ak1 = 1
  · have hk := eq_flag h1
    by_cases h2 : 0 < aex1
    · have hd2 : decide (0 < aex1) = true := decide_eq_true h2
      by_cases h3 : aex1 ≤ t
      · have hd3 : decide (aex1 ≤ t) = true := decide_eq_true h3
        have HR := Lib.hid (show true = Q by rw [HQ.out]; simp [expF, h1, h2, h3])
        subst h1
        go_wp2_with fail
        go_ret
        exact ⟨ret_bool HR.out, HB.out⟩
      · have hd3 : decide (aex1 ≤ t) = false := decide_eq_false h3
        have HR := Lib.hid (show false = Q by rw [HQ.out]; simp [expF, h3])
        subst h1
        go_wp2_with fail
        go_ret
        exact ⟨ret_bool HR.out, HB.out⟩
    · have hd2 : decide (0 < aex1) = false := decide_eq_false h2
      have HR := Lib.hid (show false = Q by rw [HQ.out]; simp [expF, h2])
      subst h1
      go_wp2_with fail
      go_ret
      exact ⟨ret_bool HR.out, HB.out⟩
  · have hk := ne_flag h1
    have HR := Lib.hid (show false = Q by rw [HQ.out]; simp [expF, h1])
    go_wp2_with fail
    go_ret
    exact ⟨ret_bool HR.out, HB.out⟩

set_option maxHeartbeats 4000000 in
set_option maxRecDepth 100000 in
theorem dead_any {c : Con} {n : Nat} {v : Value} {w : World} (x : Ro) (s : Stp) (hv : IsC c v w) (h : Good c n) (hn : n ≤ 100000) (hx : ∃ ao n cap, x.2 = .slice ao n cap) :
    Calls Tryz.prog 78 #[v, vM x, vS s] w (RetB (deadF c s x.1) w) := by
  obtain ⟨o1, n1, k1, o2, n2, k2, o3, n3, k3, rfl, hl⟩ := hv.form
  have HE := Lib.hid (fun W => exp_any x s.p W hx)
  have HS := Lib.hid (fun W (hW : RowKit.Below w.heap.size w W) => c_sup (n := n) x.1.key x.1.at_ (hv.below hW) h hn)
  have HL := Lib.hid (fun W => stless_any s x.1.at_ W)
  have hfin : deadF c s x.1 = (!decide (stC s x.1.at_ < 0) && ((!decide (x.1.kind = 1)) || (expF x.1 s.p || (decide (x.1.table = 2) && supF c x.1.key x.1.at_)))) := rfl
  rw [hfin]
  obtain ⟨E, hE⟩ : ∃ E, E = expF x.1 s.p := ⟨_, rfl⟩
  obtain ⟨U, hU⟩ : ∃ U, U = supF c x.1.key x.1.at_ := ⟨_, rfl⟩
  obtain ⟨L, hL⟩ : ∃ L, L = decide (stC s x.1.at_ < 0) := ⟨_, rfl⟩
  rw [← hL] at HL
  rw [← hE] at HE ⊢
  rw [← hU] at HS ⊢
  rw [← hL]
  clear hv h hn hfin hE hU hl hL
  obtain ⟨xo, xn, xc, ex⟩ := hx
  obtain ⟨⟨at1, ak1, akey1, afin1, aval1, aex1, ⟨ap1, al1, aw1⟩, aov1⟩, av1⟩ := x
  simp only [] at ex
  subst ex
  obtain ⟨sp, sl, sw⟩ := s
  simp only [] at HE HS HL ⊢
  unfold vM at HE ⊢
  unfold vS at HS HL ⊢
  simp only [] at HE HS HL ⊢
  obtain ⟨W0, hW0⟩ : ∃ W0, W0 = ((w.alloc (.cells #[.slice o1 n1 k1, .slice o2 n2 k2, .slice o3 n3 k3] 32)).alloc (.cells #[.int .i64 at1, .int .i64 ak1, .string akey1, .string afin1, .string aval1, .int .i64 aex1, .int .i64 ap1, .int .i64 al1, .int .i64 aw1, .slice xo xn xc] 29)).alloc (.cells #[.int .i64 sp, .int .i64 sl, .int .i64 sw] 26) := ⟨_, rfl⟩
  have hb0 : RowKit.Below w.heap.size w W0 := by rw [hW0]; exact (((Below.refl _ w).alloc (Nat.le_refl _) _).alloc (by simp) _).alloc (by simp; omega) _
  have hP : C3 W0 w.heap.size (.slice o1 n1 k1) (.slice o2 n2 k2) (.slice o3 n3 k3) := by
    rw [hW0]
    exact ((C3.new w _ _ _).below ((Below.refl _ _).alloc (Nat.le_refl _) _)).below ((Below.refl _ _).alloc (Nat.le_refl _) _)
  have hM : A0 W0 (w.heap.size + 1) (⟨⟨at1, ak1, akey1, afin1, aval1, aex1, ⟨ap1, al1, aw1⟩, aov1⟩, .slice xo xn xc⟩ : Ro) := by
    rw [hW0]
    have := A0.of (At.new (w.alloc (.cells #[.slice o1 n1 k1, .slice o2 n2 k2, .slice o3 n3 k3] 32)) 29 (⟨⟨at1, ak1, akey1, afin1, aval1, aex1, ⟨ap1, al1, aw1⟩, aov1⟩, .slice xo xn xc⟩ : Ro))
    rw [World.size_alloc] at this
    exact this.below ((Below.refl _ _).alloc (Nat.le_refl _) _)
  have z0 : W0.cell? ⟨w.heap.size + 1 + 1, 0, none⟩ = some (.int .i64 sp) := by rw [hW0]; go_simp
  have z1 : W0.cell? ⟨w.heap.size + 1 + 1, 1, none⟩ = some (.int .i64 sl) := by rw [hW0]; go_simp
  have z2 : W0.cell? ⟨w.heap.size + 1 + 1, 2, none⟩ = some (.int .i64 sw) := by rw [hW0]; go_simp
  have hz : w.heap.size + 1 + 1 < W0.heap.size := by rw [hW0]; simp
  have HZ := Lib.hid (show ∀ W, RowKit.Below W0.heap.size W0 W → W.cell? ⟨w.heap.size + 1 + 1, 0, none⟩ = some (.int .i64 sp) ∧ W.cell? ⟨w.heap.size + 1 + 1, 1, none⟩ = some (.int .i64 sl) ∧ W.cell? ⟨w.heap.size + 1 + 1, 2, none⟩ = some (.int .i64 sw) from fun W h => ⟨(h.cell (p := ⟨w.heap.size + 1 + 1, 0, none⟩) hz).trans z0, (h.cell (p := ⟨w.heap.size + 1 + 1, 1, none⟩) hz).trans z1, (h.cell (p := ⟨w.heap.size + 1 + 1, 2, none⟩) hz).trans z2⟩)
  have HP := Lib.hid hP
  have HM := Lib.hid hM
  have HB0 := Lib.hid hb0
  have HW := Lib.hid hW0
  have HN := Lib.hid (Below.refl W0.heap.size W0)
  clear hb0 hP hM hW0 z0 z1 z2 hz
  go_enter Tryz.func78, Tryz.ntmps78
  go_upto_region 1 with fail
  rw [← HW.out]
  clear HW
  obtain ⟨z0, z1, z2⟩ := HZ.out W0 HN.out
  obtain ⟨-, m0, m1, m2, m3, m4, m5, m6, m7, m8, m9⟩ := HM.out
  simp only [] at m0 m1 m2 m3 m4 m5 m6 m7 m8 m9
  go_wp2_with fail
  refine (HL.out _).mono ?_
  rintro e w1 ⟨rfl, hb⟩
  have HB1 := Lib.hid (show RowKit.Below W0.heap.size W0 w1 from hb.below)
  clear hb z0 z1 z2 m0 m1 m2 m3 m4 m5 m6 m7 m8 m9
  have key : True := trivial
  cases L
  case true =>
    go_wp2_with fail
    go_ret
    exact ⟨rfl, below_then HB0.out (Nat.le_refl _) HB1.out⟩
  obtain ⟨z0, z1, z2⟩ := HZ.out w1 HB1.out
  obtain ⟨-, m0, m1, m2, m3, m4, m5, m6, m7, m8, m9⟩ := HM.out.below HB1.out
  simp only [] at m0 m1 m2 m3 m4 m5 m6 m7 m8 m9
  by_cases h1 : ak1 = 1
  case neg =>
    have hk := ne_flag h1
    have HR := Lib.hid (show true = (!false && ((!decide (ak1 = 1)) || (E || (decide (at1 = 2) && U)))) by simp [h1])
    go_wp2_with fail
    go_ret
    exact ⟨ret_bool HR.out, below_then HB0.out (Nat.le_refl _) HB1.out⟩
  subst h1
  go_wp2_with fail
  refine (HE.out _).mono ?_
  rintro e w2 ⟨rfl, hb⟩
  have HB2 := Lib.hid (below_then HB1.out (Nat.le_refl _) hb)
  clear hb z0 z1 z2 m0 m1 m2 m3 m4 m5 m6 m7 m8 m9
  cases E
  case true =>
    go_wp2_with fail
    go_ret
    exact ⟨rfl, below_then HB0.out (Nat.le_refl _) HB2.out⟩
  obtain ⟨-, p0, p1, p2, -⟩ := HP.out.below HB2.out
  obtain ⟨-, m0, m1, m2, m3, m4, m5, m6, m7, m8, m9⟩ := HM.out.below HB2.out
  simp only [] at m0 m1 m2 m3 m4 m5 m6 m7 m8 m9
  by_cases h2 : at1 = 2
  case neg =>
    have hk := ne_flag h2
    have HR := Lib.hid (show false = (!false && ((!decide ((1 : Int) = 1)) || (false || (decide (at1 = 2) && U)))) by simp [h2])
    go_wp2_with fail
    go_ret
    exact ⟨ret_bool HR.out, below_then HB0.out (Nat.le_refl _) HB2.out⟩
  subst h2
  go_wp2_with fail
  refine (HS.out _ (below_then HB0.out (Nat.le_refl _) HB2.out)).mono ?_
  rintro e w3 ⟨rfl, hb⟩
  have HB3 := Lib.hid (below_then HB2.out (Nat.le_refl _) hb)
  clear hb p0 p1 p2 m0 m1 m2 m3 m4 m5 m6 m7 m8 m9
  cases U
  all_goals
    go_wp2_with fail
    go_ret
    exact ⟨rfl, below_then HB0.out (Nat.le_refl _) HB3.out⟩

set_option maxHeartbeats 4000000 in
set_option maxRecDepth 100000 in
theorem refdead_any {c : Con} {n : Nat} {v : Value} {w : World} (x : Ro) (s : Stp) (hv : IsC c v w) (h : Good c n) (hn : n ≤ 100000) (hx : ∃ ao n cap, x.2 = .slice ao n cap) :
    Calls Tryz.prog 74 #[v, vM x, vS s] w (RetB (deadF c s x.1) w) := by
  obtain ⟨o1, n1, k1, o2, n2, k2, o3, n3, k3, rfl, hl⟩ := hv.form
  have HE := Lib.hid (fun W => refexp_any x s.p W hx)
  have HS := Lib.hid (fun W (hW : RowKit.Below w.heap.size w W) => c_refsup (m := n) x.1.key x.1.at_ (hv.below hW) h hn)
  have HL := Lib.hid (fun W => refst_any x.1.at_ s W)
  have hfin : deadF c s x.1 = (!decide (stC s x.1.at_ < 0) && ((!decide (x.1.kind = 1)) || (expF x.1 s.p || (decide (x.1.table = 2) && supF c x.1.key x.1.at_)))) := rfl
  rw [hfin]
  obtain ⟨E, hE⟩ : ∃ E, E = expF x.1 s.p := ⟨_, rfl⟩
  obtain ⟨U, hU⟩ : ∃ U, U = supF c x.1.key x.1.at_ := ⟨_, rfl⟩
  obtain ⟨L, hL⟩ : ∃ L, L = decide (stC s x.1.at_ < 0) := ⟨_, rfl⟩
  obtain ⟨G, hG⟩ : ∃ G, G = stC x.1.at_ s := ⟨_, rfl⟩
  have HG := Lib.hid (show (L = true → 0 < G) ∧ (0 < G → L = true) by rw [hL, hG, decide_eq_true_eq]; exact ⟨(stO.swap _ _).1, (stO.swap _ _).2⟩)
  rw [← hG] at HL
  rw [← hE] at HE ⊢
  rw [← hU] at HS ⊢
  rw [← hL]
  clear hG
  clear hv h hn hfin hE hU hl hL
  obtain ⟨xo, xn, xc, ex⟩ := hx
  obtain ⟨⟨at1, ak1, akey1, afin1, aval1, aex1, ⟨ap1, al1, aw1⟩, aov1⟩, av1⟩ := x
  simp only [] at ex
  subst ex
  obtain ⟨sp, sl, sw⟩ := s
  simp only [] at HE HS HL ⊢
  unfold vM at HE ⊢
  unfold vS at HS HL ⊢
  simp only [] at HE HS HL ⊢
  obtain ⟨W0, hW0⟩ : ∃ W0, W0 = ((w.alloc (.cells #[.slice o1 n1 k1, .slice o2 n2 k2, .slice o3 n3 k3] 34)).alloc (.cells #[.int .i64 at1, .int .i64 ak1, .string akey1, .string afin1, .string aval1, .int .i64 aex1, .int .i64 ap1, .int .i64 al1, .int .i64 aw1, .slice xo xn xc] 29)).alloc (.cells #[.int .i64 sp, .int .i64 sl, .int .i64 sw] 26) := ⟨_, rfl⟩
  have hb0 : RowKit.Below w.heap.size w W0 := by rw [hW0]; exact (((Below.refl _ w).alloc (Nat.le_refl _) _).alloc (by simp) _).alloc (by simp; omega) _
  have hP : C3 W0 w.heap.size (.slice o1 n1 k1) (.slice o2 n2 k2) (.slice o3 n3 k3) := by
    rw [hW0]
    exact ((C3.newR w _ _ _).below ((Below.refl _ _).alloc (Nat.le_refl _) _)).below ((Below.refl _ _).alloc (Nat.le_refl _) _)
  have hM : A0 W0 (w.heap.size + 1) (⟨⟨at1, ak1, akey1, afin1, aval1, aex1, ⟨ap1, al1, aw1⟩, aov1⟩, .slice xo xn xc⟩ : Ro) := by
    rw [hW0]
    have := A0.of (At.new (w.alloc (.cells #[.slice o1 n1 k1, .slice o2 n2 k2, .slice o3 n3 k3] 34)) 29 (⟨⟨at1, ak1, akey1, afin1, aval1, aex1, ⟨ap1, al1, aw1⟩, aov1⟩, .slice xo xn xc⟩ : Ro))
    rw [World.size_alloc] at this
    exact this.below ((Below.refl _ _).alloc (Nat.le_refl _) _)
  have z0 : W0.cell? ⟨w.heap.size + 1 + 1, 0, none⟩ = some (.int .i64 sp) := by rw [hW0]; go_simp
  have z1 : W0.cell? ⟨w.heap.size + 1 + 1, 1, none⟩ = some (.int .i64 sl) := by rw [hW0]; go_simp
  have z2 : W0.cell? ⟨w.heap.size + 1 + 1, 2, none⟩ = some (.int .i64 sw) := by rw [hW0]; go_simp
  have hz : w.heap.size + 1 + 1 < W0.heap.size := by rw [hW0]; simp
  have HZ := Lib.hid (show ∀ W, RowKit.Below W0.heap.size W0 W → W.cell? ⟨w.heap.size + 1 + 1, 0, none⟩ = some (.int .i64 sp) ∧ W.cell? ⟨w.heap.size + 1 + 1, 1, none⟩ = some (.int .i64 sl) ∧ W.cell? ⟨w.heap.size + 1 + 1, 2, none⟩ = some (.int .i64 sw) from fun W h => ⟨(h.cell (p := ⟨w.heap.size + 1 + 1, 0, none⟩) hz).trans z0, (h.cell (p := ⟨w.heap.size + 1 + 1, 1, none⟩) hz).trans z1, (h.cell (p := ⟨w.heap.size + 1 + 1, 2, none⟩) hz).trans z2⟩)
  have HP := Lib.hid hP
  have HM := Lib.hid hM
  have HB0 := Lib.hid hb0
  have HW := Lib.hid hW0
  have HN := Lib.hid (Below.refl W0.heap.size W0)
  clear hb0 hP hM hW0 z0 z1 z2 hz
  go_enter Tryz.func74, Tryz.ntmps74
  go_upto_region 1 with fail
  rw [← HW.out]
  clear HW
  obtain ⟨z0, z1, z2⟩ := HZ.out W0 HN.out
  obtain ⟨-, m0, m1, m2, m3, m4, m5, m6, m7, m8, m9⟩ := HM.out
  simp only [] at m0 m1 m2 m3 m4 m5 m6 m7 m8 m9
  go_wp2_with fail
  refine (HL.out _).mono ?_
  rintro e w1 ⟨rfl, hb⟩
  have HB1 := Lib.hid (show RowKit.Below W0.heap.size W0 w1 from hb)
  clear hb z0 z1 z2 m0 m1 m2 m3 m4 m5 m6 m7 m8 m9
  have key : True := trivial
  by_cases hg : 0 < G
  case pos =>
    have hd : decide (0 < G) = true := decide_eq_true hg
    obtain rfl : L = true := HG.out.2 hg
    go_wp2_with fail
    go_ret
    exact ⟨rfl, below_then HB0.out (Nat.le_refl _) HB1.out⟩
  have hd : decide (0 < G) = false := decide_eq_false hg
  obtain rfl : L = false := by cases L with | false => rfl | true => exact absurd (HG.out.1 rfl) hg
  obtain ⟨z0, z1, z2⟩ := HZ.out w1 HB1.out
  obtain ⟨-, m0, m1, m2, m3, m4, m5, m6, m7, m8, m9⟩ := HM.out.below HB1.out
  simp only [] at m0 m1 m2 m3 m4 m5 m6 m7 m8 m9
  by_cases h1 : ak1 = 1
  case neg =>
    have hk := ne_flag h1
    have HR := Lib.hid (show true = (!false && ((!decide (ak1 = 1)) || (E || (decide (at1 = 2) && U)))) by simp [h1])
    go_wp2_with fail
    go_ret
    exact ⟨ret_bool HR.out, below_then HB0.out (Nat.le_refl _) HB1.out⟩
  subst h1
  go_wp2_with fail
  refine (HE.out _).mono ?_
  rintro e w2 ⟨rfl, hb⟩
  have HB2 := Lib.hid (below_then HB1.out (Nat.le_refl _) hb)
  clear hb z0 z1 z2 m0 m1 m2 m3 m4 m5 m6 m7 m8 m9
  cases E
  case true =>
    go_wp2_with fail
    go_ret
    exact ⟨rfl, below_then HB0.out (Nat.le_refl _) HB2.out⟩
  obtain ⟨-, p0, p1, p2, -⟩ := HP.out.below HB2.out
  obtain ⟨-, m0, m1, m2, m3, m4, m5, m6, m7, m8, m9⟩ := HM.out.below HB2.out
  simp only [] at m0 m1 m2 m3 m4 m5 m6 m7 m8 m9
  by_cases h2 : at1 = 2
  case neg =>
    have hk := ne_flag h2
    have HR := Lib.hid (show false = (!false && ((!decide ((1 : Int) = 1)) || (false || (decide (at1 = 2) && U)))) by simp [h2])
    go_wp2_with fail
    go_ret
    exact ⟨ret_bool HR.out, below_then HB0.out (Nat.le_refl _) HB2.out⟩
  subst h2
  go_wp2_with fail
  refine (HS.out _ (below_then HB0.out (Nat.le_refl _) HB2.out)).mono ?_
  rintro e w3 ⟨rfl, hb⟩
  have HB3 := Lib.hid (below_then HB2.out (Nat.le_refl _) hb)
  clear hb p0 p1 p2 m0 m1 m2 m3 m4 m5 m6 m7 m8 m9
  cases U
  all_goals
    go_wp2_with fail
    go_ret
    exact ⟨rfl, below_then HB0.out (Nat.le_refl _) HB3.out⟩

set_option maxHeartbeats 2000000 in
set_option maxRecDepth 100000 in
theorem ask_sweep {c : Con} {n : Nat} {a b d : Value} {W0 : World} (kb kc : Nat) (s : Stp) (hv : IsC c (.agg #[a, b, d]) W0) (h : Good c n) (hn : n ≤ 100000) (hP : C3 W0 kb a b d) (hc : kc < W0.heap.size) (f0 : W0.cell? ⟨kc, 0, none⟩ = some (.int .i64 s.p)) (f1 : W0.cell? ⟨kc, 1, none⟩ = some (.int .i64 s.l)) (f2 : W0.cell? ⟨kc, 2, none⟩ = some (.int .i64 s.w))
    (w : World) (hW : RowKit.Below W0.heap.size W0 w) (row : Option Nat) (hrow : ∀ k, row = some k → W0.heap.size ≤ k) : Asks w row 77 #[.pointer (some ⟨kb, 0, none⟩), .pointer (some ⟨kc, 0, none⟩)] (fun x => deadF c s x) := by
  intro x w1 hg hx
  have hb1 : RowKit.Below W0.heap.size W0 w1 := hW.grown hg hW.size hrow
  have HD := Lib.hid (fun W (h1 : RowKit.Below w1.heap.size w1 W) => dead_any (n := n) x s (hv.below (below_then hb1 (Nat.le_refl _) h1)) h hn hx)
  obtain ⟨hkb, p0, p1, p2, -⟩ := hP.below hb1
  have hkc : kc < w1.heap.size := Nat.lt_of_lt_of_le hc hb1.size
  have z0 := (hb1.cell (p := ⟨kc, 0, none⟩) hc).trans f0
  have z1 := (hb1.cell (p := ⟨kc, 1, none⟩) hc).trans f1
  have z2 := (hb1.cell (p := ⟨kc, 2, none⟩) hc).trans f2
  simp only []
  obtain ⟨Q, hQ⟩ : ∃ Q, Q = deadF c s x.1 := ⟨_, rfl⟩
  rw [← hQ] at HD ⊢
  obtain ⟨o1, n1, k1, o2, n2, k2, o3, n3, k3, e, hl⟩ := hv.form
  injection e with e
  injection e with e
  simp only [List.cons.injEq, and_true] at e
  obtain ⟨rfl, rfl, rfl⟩ := e
  clear hQ hv h hn hP hc f0 f1 f2 hW hrow hg hb1 hl
  obtain ⟨xo, xn, xc, ex⟩ := hx
  obtain ⟨⟨at1, ak1, akey1, afin1, aval1, aex1, ⟨ap1, al1, aw1⟩, aov1⟩, av1⟩ := x
  simp only [] at ex
  subst ex
  obtain ⟨sp, sl, sw⟩ := s
  unfold vM at HD ⊢
  unfold vS at HD
  simp only [] at HD z0 z1 z2 ⊢
  go_enter Tryz.func77, Tryz.ntmps77
  have hB := Lib.hid ((Below.refl _ w1).alloc (Nat.le_refl _) (.cells #[.int .i64 at1, .int .i64 ak1, .string akey1, .string afin1, .string aval1, .int .i64 aex1, .int .i64 ap1, .int .i64 al1, .int .i64 aw1, .slice xo xn xc] 29))
  go_wp2_with fail
  refine (HD.out _ hB.out).mono ?_
  rintro e w2 ⟨rfl, hb⟩
  have HB := Lib.hid (below_then hB.out (Nat.le_refl _) hb)
  clear hb
  go_wp2_with fail
  go_ret
  exact ⟨rfl, HB.out⟩

set_option maxHeartbeats 2000000 in
set_option maxRecDepth 100000 in
theorem ask_drop {c : Con} {n : Nat} {a b d : Value} {W0 : World} (kb kc : Nat) (s : Stp) (hv : IsC c (.agg #[a, b, d]) W0) (h : Good c n) (hn : n ≤ 100000) (hP : C3 W0 kb a b d) (hc : kc < W0.heap.size) (f0 : W0.cell? ⟨kc, 0, none⟩ = some (.int .i64 s.p)) (f1 : W0.cell? ⟨kc, 1, none⟩ = some (.int .i64 s.l)) (f2 : W0.cell? ⟨kc, 2, none⟩ = some (.int .i64 s.w))
    (w : World) (hW : RowKit.Below W0.heap.size W0 w) (row : Option Nat) (hrow : ∀ k, row = some k → W0.heap.size ≤ k) : Asks w row 79 #[.pointer (some ⟨kb, 0, none⟩), .pointer (some ⟨kc, 0, none⟩)] (fun x => !deadF c s x) := by
  intro x w1 hg hx
  have hb1 : RowKit.Below W0.heap.size W0 w1 := hW.grown hg hW.size hrow
  have HD := Lib.hid (fun W (h1 : RowKit.Below w1.heap.size w1 W) => dead_any (n := n) x s (hv.below (below_then hb1 (Nat.le_refl _) h1)) h hn hx)
  obtain ⟨hkb, p0, p1, p2, -⟩ := hP.below hb1
  have hkc : kc < w1.heap.size := Nat.lt_of_lt_of_le hc hb1.size
  have z0 := (hb1.cell (p := ⟨kc, 0, none⟩) hc).trans f0
  have z1 := (hb1.cell (p := ⟨kc, 1, none⟩) hc).trans f1
  have z2 := (hb1.cell (p := ⟨kc, 2, none⟩) hc).trans f2
  simp only []
  obtain ⟨Q, hQ⟩ : ∃ Q, Q = deadF c s x.1 := ⟨_, rfl⟩
  rw [← hQ] at HD ⊢
  obtain ⟨o1, n1, k1, o2, n2, k2, o3, n3, k3, e, hl⟩ := hv.form
  injection e with e
  injection e with e
  simp only [List.cons.injEq, and_true] at e
  obtain ⟨rfl, rfl, rfl⟩ := e
  clear hQ hv h hn hP hc f0 f1 f2 hW hrow hg hb1 hl
  obtain ⟨xo, xn, xc, ex⟩ := hx
  obtain ⟨⟨at1, ak1, akey1, afin1, aval1, aex1, ⟨ap1, al1, aw1⟩, aov1⟩, av1⟩ := x
  simp only [] at ex
  subst ex
  obtain ⟨sp, sl, sw⟩ := s
  unfold vM at HD ⊢
  unfold vS at HD
  simp only [] at HD z0 z1 z2 ⊢
  go_enter Tryz.func79, Tryz.ntmps79
  have hB := Lib.hid ((Below.refl _ w1).alloc (Nat.le_refl _) (.cells #[.int .i64 at1, .int .i64 ak1, .string akey1, .string afin1, .string aval1, .int .i64 aex1, .int .i64 ap1, .int .i64 al1, .int .i64 aw1, .slice xo xn xc] 29))
  go_wp2_with fail
  refine (HD.out _ hB.out).mono ?_
  rintro e w2 ⟨rfl, hb⟩
  have HB := Lib.hid (below_then hB.out (Nat.le_refl _) hb)
  clear hb
  go_wp2_with fail
  go_ret
  exact ⟨rfl, HB.out⟩

set_option maxHeartbeats 1000000 in
set_option maxRecDepth 100000 in
theorem ask_exp (t : Int) (c : Nat) (row : Option Nat) (w : World) (hc : c < w.heap.size) (h0 : w.cell? ⟨c, 0, none⟩ = some (.int .i64 t)) (hr : row ≠ some c) :
    Asks w row 72 #[.pointer (some ⟨c, 0, none⟩)] (fun x => !expF x t) := by
  intro x w1 hg hx
  have hc1 : c < w1.heap.size := Nat.lt_of_lt_of_le hc hg.size
  have s0 := (World.cell?_of_block (a := ⟨c, 0, none⟩) (hg.block c hc (fun e => hr e.symm))).trans h0
  have HD := Lib.hid (fun W => exp_any x t W hx)
  simp only []
  obtain ⟨Q, hQ⟩ : ∃ Q, Q = expF x.1 t := ⟨_, rfl⟩
  rw [← hQ] at HD ⊢
  clear hr hg h0 hc hQ
  obtain ⟨xo, xn, xc, ex⟩ := hx
  obtain ⟨⟨at1, ak1, akey1, afin1, aval1, aex1, ⟨ap1, al1, aw1⟩, aov1⟩, av1⟩ := x
  simp only [] at ex
  subst ex
  unfold vM at HD ⊢
  simp only [] at HD ⊢
  have hB := Lib.hid ((Below.refl _ w1).alloc (Nat.le_refl _) (.cells #[.int .i64 at1, .int .i64 ak1, .string akey1, .string afin1, .string aval1, .int .i64 aex1, .int .i64 ap1, .int .i64 al1, .int .i64 aw1, .slice xo xn xc] 29))
  go_enter Tryz.func72, Tryz.ntmps72
  go_wp2_with fail
  refine (HD.out _).mono ?_
  rintro e w2 ⟨rfl, hb⟩
  have HB := Lib.hid (below_then hB.out (Nat.le_refl _) hb)
  clear hb
  go_wp2_with fail
  go_ret
  exact ⟨rfl, HB.out⟩

set_option maxHeartbeats 2000000 in
set_option maxRecDepth 100000 in
theorem c_expired {c : Con} {n : Nat} {v : Value} {w : World} (t : Int) (hv : IsC c v w) (h : Good c n) (hn : n ≤ 100000) :
    Calls Tryz.prog 31 #[v, .int .i64 t] w (RetR ((allF c).filter fun m => expF m t) w) := by
  obtain ⟨o1, n1, k1, o2, n2, k2, o3, n3, k3, rfl, hl⟩ := hv.form

  obtain ⟨W0, hW0⟩ : ∃ W0, W0 = (w.alloc (.cells #[.slice o1 n1 k1, .slice o2 n2 k2, .slice o3 n3 k3] 32)).alloc (.cells #[.int .i64 t] 3) := ⟨_, rfl⟩
  have hb0 : RowKit.Below w.heap.size w W0 := by rw [hW0]; exact ((Below.refl _ w).alloc (Nat.le_refl _) _).alloc (by simp) _
  have hP : C3 W0 w.heap.size (.slice o1 n1 k1) (.slice o2 n2 k2) (.slice o3 n3 k3) := by
    rw [hW0]
    exact (C3.new w _ _ _).below ((Below.refl _ _).alloc (Nat.le_refl _) _)
  have hz : w.heap.size + 1 < W0.heap.size := by rw [hW0]; simp
  have hk0 : W0.cell? ⟨w.heap.size + 1, 0, none⟩ = some (.int .i64 t) := by rw [hW0]; go_simp
  have hlen := len_allF c
  have hO := h.okc.len
  have HC := Lib.hid (c_all (n := n) (hv.below hb0) h hn)
  have HD := Lib.hid (fun (W : World) (hW : RowKit.Below W0.heap.size W0 W) (g cap : Nat) (R1 : List Ro) (hcp : Copied W (.slice (some ⟨g, 0, none⟩) R1.length cap) R1 W0.heap.size) (hl : R1.length ≤ 100000) =>
    delete_any W0.heap.size (.slice (some ⟨g, 0, none⟩) R1.length cap) R1 72 #[.pointer (some ⟨w.heap.size + 1, 0, none⟩)] (fun x => !(expF x t)) W hcp.row hcp.mrow.forms (by omega)
      (ask_exp t (w.heap.size + 1) _ W (Nat.lt_of_lt_of_le hz hW.size) ((hW.cell (p := ⟨w.heap.size + 1, 0, none⟩) hz).trans hk0) (fun e => by have := (hcp.row.lt (w.heap.size + 1) e).1; omega))
      (enters_of Tryz.func72 (by kernel_rfl) rfl))
  have HLN := Lib.hid (And.intro hlen hO)
  have HB0 := Lib.hid hb0
  have HP := Lib.hid hP
  have HW := Lib.hid hW0
  clear hl hv hb0 hz hP hW0 h hlen hO hk0
  skip
  go_enter Tryz.func31, Tryz.ntmps31
  go_upto_region 1 with fail
  rw [← HW.out]
  clear HW
  obtain ⟨-, p0, p1, p2, -⟩ := HP.out
  go_wp2_with fail
  refine HC.out.mono ?_
  rintro e w1 ⟨g, cap1, R1, rfl, hcp, hm, hb⟩
  have hl1 : R1.length ≤ 100000 := by have h1 := congrArg List.length hm; rw [List.length_map] at h1; have := HLN.out; omega
  have HD1 := Lib.hid (HD.out w1 hb g cap1 R1 hcp hl1)
  obtain ⟨m, hM⟩ : ∃ m, m = R1.length := ⟨_, rfl⟩
  rw [← hM] at HD1 ⊢
  have HQ := Lib.hid (And.intro hm (And.intro hcp (And.intro hM hb)))
  clear hm hcp hb hl1 HC HD p0 p1 p2 hM
  go_wp2_with fail
  refine HD1.out.mono ?_
  rintro e w2 ⟨v2, rfl, ho, hg, -⟩
  have hb2 : RowKit.Below W0.heap.size W0 w2 := HQ.out.2.2.2.grown hg HQ.out.2.2.2.size (fun k hk => (HQ.out.2.1.row.lt k (by rw [HQ.out.2.2.1] at hk; exact hk)).1)
  have hmr := HQ.out.2.1.filtered (K := R1.filter fun x => !!(expF x.1 t)) (fun x hx => (List.mem_filter.1 hx).1) ho (by rw [← HQ.out.2.2.1]; exact hg)
  have HF := Lib.hid (And.intro hmr (below_then HB0.out (Nat.le_refl _) hb2))
  clear ho hg hmr hb2
  go_wp2_with fail
  go_ret
  refine ⟨_, rfl, ⟨_, ?_, HF.out.1⟩, HF.out.2⟩
  rw [← HQ.out.1, List.filter_map]
  simp only [Bool.not_not]
  rfl

set_option maxHeartbeats 2000000 in
set_option maxRecDepth 100000 in
theorem c_dropped {c : Con} {n : Nat} {v : Value} {w : World} (s : Stp) (hv : IsC c v w) (h : Good c n) (hn : n ≤ 100000) :
    Calls Tryz.prog 36 #[v, vS s] w (RetR ((allF c).filter fun m => deadF c s m) w) := by
  obtain ⟨o1, n1, k1, o2, n2, k2, o3, n3, k3, rfl, hl⟩ := hv.form

  obtain ⟨W0, hW0⟩ : ∃ W0, W0 = (w.alloc (.cells #[.slice o1 n1 k1, .slice o2 n2 k2, .slice o3 n3 k3] 32)).alloc (.cells #[.int .i64 s.p, .int .i64 s.l, .int .i64 s.w] 26) := ⟨_, rfl⟩
  have hb0 : RowKit.Below w.heap.size w W0 := by rw [hW0]; exact ((Below.refl _ w).alloc (Nat.le_refl _) _).alloc (by simp) _
  have hP : C3 W0 w.heap.size (.slice o1 n1 k1) (.slice o2 n2 k2) (.slice o3 n3 k3) := by
    rw [hW0]
    exact (C3.new w _ _ _).below ((Below.refl _ _).alloc (Nat.le_refl _) _)
  have hz : w.heap.size + 1 < W0.heap.size := by rw [hW0]; simp
  have z0 : W0.cell? ⟨w.heap.size + 1, 0, none⟩ = some (.int .i64 s.p) := by rw [hW0]; go_simp
  have z1 : W0.cell? ⟨w.heap.size + 1, 1, none⟩ = some (.int .i64 s.l) := by rw [hW0]; go_simp
  have z2 : W0.cell? ⟨w.heap.size + 1, 2, none⟩ = some (.int .i64 s.w) := by rw [hW0]; go_simp
  have hlen := len_allF c
  have hO := h.okc.len
  have HC := Lib.hid (c_all (n := n) (hv.below hb0) h hn)
  have HD := Lib.hid (fun (W : World) (hW : RowKit.Below W0.heap.size W0 W) (g cap : Nat) (R1 : List Ro) (hcp : Copied W (.slice (some ⟨g, 0, none⟩) R1.length cap) R1 W0.heap.size) (hl : R1.length ≤ 100000) =>
    delete_any W0.heap.size (.slice (some ⟨g, 0, none⟩) R1.length cap) R1 79 #[.pointer (some ⟨w.heap.size, 0, none⟩), .pointer (some ⟨w.heap.size + 1, 0, none⟩)] (fun x => !(deadF c s x)) W hcp.row hcp.mrow.forms (by omega)
      (ask_drop (n := n) w.heap.size (w.heap.size + 1) s (hv.below hb0) h hn hP hz z0 z1 z2 W hW _ (fun k hk => (hcp.row.lt k hk).1))
      (enters_of Tryz.func79 (by kernel_rfl) rfl))
  have HLN := Lib.hid (And.intro hlen hO)
  have HB0 := Lib.hid hb0
  have HP := Lib.hid hP
  have HW := Lib.hid hW0
  clear hl hv hb0 hz hP hW0 h hlen hO z0 z1 z2
  unfold vS
  go_enter Tryz.func36, Tryz.ntmps36
  go_upto_region 1 with fail
  rw [← HW.out]
  clear HW
  obtain ⟨-, p0, p1, p2, -⟩ := HP.out
  go_wp2_with fail
  refine HC.out.mono ?_
  rintro e w1 ⟨g, cap1, R1, rfl, hcp, hm, hb⟩
  have hl1 : R1.length ≤ 100000 := by have h1 := congrArg List.length hm; rw [List.length_map] at h1; have := HLN.out; omega
  have HD1 := Lib.hid (HD.out w1 hb g cap1 R1 hcp hl1)
  obtain ⟨m, hM⟩ : ∃ m, m = R1.length := ⟨_, rfl⟩
  rw [← hM] at HD1 ⊢
  have HQ := Lib.hid (And.intro hm (And.intro hcp (And.intro hM hb)))
  clear hm hcp hb hl1 HC HD p0 p1 p2 hM
  go_wp2_with fail
  refine HD1.out.mono ?_
  rintro e w2 ⟨v2, rfl, ho, hg, -⟩
  have hb2 : RowKit.Below W0.heap.size W0 w2 := HQ.out.2.2.2.grown hg HQ.out.2.2.2.size (fun k hk => (HQ.out.2.1.row.lt k (by rw [HQ.out.2.2.1] at hk; exact hk)).1)
  have hmr := HQ.out.2.1.filtered (K := R1.filter fun x => !!(deadF c s x.1)) (fun x hx => (List.mem_filter.1 hx).1) ho (by rw [← HQ.out.2.2.1]; exact hg)
  have HF := Lib.hid (And.intro hmr (below_then HB0.out (Nat.le_refl _) hb2))
  clear ho hg hmr hb2
  go_wp2_with fail
  go_ret
  refine ⟨_, rfl, ⟨_, ?_, HF.out.1⟩, HF.out.2⟩
  rw [← HQ.out.1, List.filter_map]
  simp only [Bool.not_not]
  rfl

def deadsF (c : Con) (s : Stp) : List Mu := (allF c).filter fun m => deadF c s m
def wasteF (c : Con) (s : Stp) : Int := if (allF c).length = 0 then 0 else (100 * ((deadsF c s).length : Int)) / ((allF c).length : Int)
theorem Reads.len {w : World} {v : Value} {l : List Mu} (h : Reads w v l) : ∃ ao cap, v = .slice ao l.length cap := by
  obtain ⟨ao, cap, e, -, -⟩ := h.form
  exact ⟨ao, cap, e⟩
set_option maxHeartbeats 2000000 in
set_option maxRecDepth 100000 in
theorem c_swept {c : Con} {n : Nat} {v : Value} {w : World} (s : Stp) (hv : IsC c v w) (h : Good c n) (hn : n ≤ 100000) :
    Calls Tryz.prog 37 #[v, vS s] w (RetB (decide ((deadsF c s).length = 0)) w) := by
  have HD := Lib.hid (fun (W : World) (hW : RowKit.Below w.heap.size w W) => c_dropped (n := n) s (hv.below hW) h hn)
  obtain ⟨o1, n1, k1, o2, n2, k2, o3, n3, k3, rfl, hl⟩ := hv.form
  have hq : ((allF c).filter fun m => deadF c s m) = deadsF c s := rfl
  rw [hq] at HD
  obtain ⟨L, hL⟩ : ∃ L, L = deadsF c s := ⟨_, rfl⟩
  rw [← hL] at HD ⊢
  obtain ⟨m, hm⟩ : ∃ m, m = L.length := ⟨_, rfl⟩
  rw [← hm]
  have HM := Lib.hid hm
  clear hL hq hl hv h hn hm
  obtain ⟨sp, sl, sw⟩ := s
  unfold vS at HD ⊢
  simp only [] at HD ⊢
  go_enter Tryz.func37, Tryz.ntmps37
  have hB := Lib.hid (((Below.refl _ w).alloc (Nat.le_refl _) (.cells #[.slice o1 n1 k1, .slice o2 n2 k2, .slice o3 n3 k3] 32)).alloc (by simp) (.cells #[.int .i64 sp, .int .i64 sl, .int .i64 sw] 26))
  go_wp2_with fail
  refine (HD.out _ hB.out).mono ?_
  rintro e w1 ⟨v1, rfl, hr, hb⟩
  obtain ⟨ao, cap, e⟩ := hr.len
  rw [← HM.out] at e
  subst e
  have HB := Lib.hid (below_then hB.out (Nat.le_refl _) hb)
  clear hr hb
  by_cases hz : m = 0
  · subst hz
    go_wp2_with fail
    go_ret
    exact ⟨rfl, HB.out⟩
  · have hi : ¬ (m : Int) = 0 := by omega
    have hk := ne_flag hi
    have HD0 := Lib.hid (decide_eq_false hz)
    go_wp2_with fail
    go_ret
    exact ⟨ret_bool HD0.out.symm, HB.out⟩
set_option maxHeartbeats 2000000 in
set_option maxRecDepth 100000 in
theorem c_waste {c : Con} {n : Nat} {v : Value} {w : World} (s : Stp) (hv : IsC c v w) (h : Good c n) (hn : n ≤ 100000) :
    Calls Tryz.prog 38 #[v, vS s] w fun e w' => e = .returned (.int .i64 (wasteF c s)) ∧ RowKit.Below w.heap.size w w' := by
  have HA := Lib.hid (fun (W : World) (hW : RowKit.Below w.heap.size w W) => c_all (n := n) (hv.below hW) h hn)
  have HD := Lib.hid (fun (W : World) (hW : RowKit.Below w.heap.size w W) => c_dropped (n := n) s (hv.below hW) h hn)
  obtain ⟨o1, n1, k1, o2, n2, k2, o3, n3, k3, rfl, hl⟩ := hv.form
  have hq : ((allF c).filter fun m => deadF c s m) = deadsF c s := rfl
  rw [hq] at HD
  have hle : (deadsF c s).length ≤ (allF c).length := List.length_filter_le _ _
  have hlen : (allF c).length ≤ 100000 := by have := len_allF c; have := h.okc.len; omega
  unfold wasteF
  obtain ⟨L, hL⟩ : ∃ L, L = deadsF c s := ⟨_, rfl⟩
  obtain ⟨K, hK⟩ : ∃ K, K = allF c := ⟨_, rfl⟩
  rw [← hL] at HD hle ⊢
  rw [← hK] at HA hle hlen ⊢
  obtain ⟨k, hk⟩ : ∃ k, k = K.length := ⟨_, rfl⟩
  obtain ⟨j, hj⟩ : ∃ j, j = L.length := ⟨_, rfl⟩
  rw [← hk, ← hj] at hle ⊢
  rw [← hk] at hlen
  obtain ⟨wv, hwv⟩ : ∃ wv : Int, wv = if k = 0 then 0 else (100 * (j : Int)) / (k : Int) := ⟨_, rfl⟩
  rw [← hwv]
  have HWV := Lib.hid hwv
  have HKK := Lib.hid hk
  have HJ := Lib.hid hj
  clear hL hq hl hv h hn hK hk hj hwv
  obtain ⟨sp, sl, sw⟩ := s
  unfold vS at HD ⊢
  simp only [] at HD ⊢
  obtain ⟨W0, hW0⟩ : ∃ W0, W0 = (w.alloc (.cells #[.slice o1 n1 k1, .slice o2 n2 k2, .slice o3 n3 k3] 32)).alloc (.cells #[.int .i64 sp, .int .i64 sl, .int .i64 sw] 26) := ⟨_, rfl⟩
  have HB0 := Lib.hid (show RowKit.Below w.heap.size w W0 by rw [hW0]; exact ((Below.refl _ w).alloc (Nat.le_refl _) _).alloc (by simp) _)
  have HP := Lib.hid (show C3 W0 w.heap.size (.slice o1 n1 k1) (.slice o2 n2 k2) (.slice o3 n3 k3) by
    rw [hW0]
    exact (C3.new w _ _ _).below ((Below.refl _ _).alloc (Nat.le_refl _) _))
  have z0 : W0.cell? ⟨w.heap.size + 1, 0, none⟩ = some (.int .i64 sp) := by rw [hW0]; go_simp
  have z1 : W0.cell? ⟨w.heap.size + 1, 1, none⟩ = some (.int .i64 sl) := by rw [hW0]; go_simp
  have z2 : W0.cell? ⟨w.heap.size + 1, 2, none⟩ = some (.int .i64 sw) := by rw [hW0]; go_simp
  have hz : w.heap.size + 1 < W0.heap.size := by rw [hW0]; simp
  have HZ := Lib.hid (show ∀ W, RowKit.Below W0.heap.size W0 W → W.cell? ⟨w.heap.size + 1, 0, none⟩ = some (.int .i64 sp) ∧ W.cell? ⟨w.heap.size + 1, 1, none⟩ = some (.int .i64 sl) ∧ W.cell? ⟨w.heap.size + 1, 2, none⟩ = some (.int .i64 sw) from fun W h => ⟨(h.cell (p := ⟨w.heap.size + 1, 0, none⟩) hz).trans z0, (h.cell (p := ⟨w.heap.size + 1, 1, none⟩) hz).trans z1, (h.cell (p := ⟨w.heap.size + 1, 2, none⟩) hz).trans z2⟩)
  have HW := Lib.hid hW0
  clear hW0 z0 z1 z2 hz
  go_enter Tryz.func38, Tryz.ntmps38
  go_upto_region 1 with fail
  rw [← HW.out]
  clear HW
  obtain ⟨-, p0, p1, p2, -⟩ := HP.out
  go_wp2_with fail
  refine (HA.out _ HB0.out).mono ?_
  rintro e w1 ⟨g, cap1, R1, rfl, -, hm, hb⟩
  have e1 : R1.length = K.length := by rw [← hm, List.length_map]
  rw [e1, ← HKK.out]
  have HB1 := Lib.hid hb
  clear hm hb e1 p0 p1 p2
  by_cases hz : k = 0
  · have HR := Lib.hid (show (0 : Int) = wv by rw [HWV.out, if_pos hz])
    subst hz
    go_wp2_with fail
    go_ret
    exact ⟨ret_int HR.out, below_then HB0.out (Nat.le_refl _) HB1.out⟩
  · have hi : ¬ (k : Int) = 0 := by omega
    have hkf := ne_flag hi
    obtain ⟨-, p0, p1, p2, -⟩ := HP.out.below HB1.out
    obtain ⟨z0, z1, z2⟩ := HZ.out w1 HB1.out
    go_wp2_with fail
    refine (HD.out _ (below_then HB0.out (Nat.le_refl _) HB1.out)).mono ?_
    rintro e w2 ⟨v2, rfl, hr, hb⟩
    obtain ⟨ao, cap, e⟩ := hr.len
    rw [← HJ.out] at e
    subst e
    have HB2 := Lib.hid (below_then (below_then HB0.out (Nat.le_refl _) HB1.out) (Nat.le_refl _) hb)
    clear hr hb p0 p1 p2 z0 z1 z2
    have HR := Lib.hid (show (100 * (j : Int)) / (k : Int) = wv by rw [HWV.out, if_neg hz])
    have hmul : IntKind.i64.wrap (100 * (j : Int)) = 100 * (j : Int) := IntWalk.i64_in _ (by omega)
    have hdiv : IntKind.i64.wrap ((100 * (j : Int)) / (k : Int)) = (100 * (j : Int)) / (k : Int) := by
      have h1 : (100 * (j : Int)) / (k : Int) ≤ 100 * (j : Int) := Int.ediv_le_self _ (by omega)
      have h2 : 0 ≤ (100 * (j : Int)) / (k : Int) := Int.ediv_nonneg (by omega) (by omega)
      exact IntWalk.i64_in _ (by omega)
    have htd : (100 * (j : Int)).tdiv (k : Int) = (100 * (j : Int)) / (k : Int) := Int.tdiv_eq_ediv_of_nonneg (by omega)
    go_wp2_with fail
    go_ret
    exact ⟨ret_int HR.out, HB2.out⟩

set_option maxHeartbeats 2000000 in
set_option maxRecDepth 100000 in
theorem leftof_any {c : Con} {n : Nat} {a b d : Value} {Wb : World} (v : Value) (R : List Ro) (kb kc : Nat) (s : Stp) (w : World) (hcv : IsC c (.agg #[a, b, d]) Wb) (hG : Good c n) (hn0 : n ≤ 100000) (hP : C3 Wb kb a b d) (hc : kc < Wb.heap.size) (f0 : Wb.cell? ⟨kc, 0, none⟩ = some (.int .i64 s.p)) (f1 : Wb.cell? ⟨kc, 1, none⟩ = some (.int .i64 s.l)) (f2 : Wb.cell? ⟨kc, 2, none⟩ = some (.int .i64 s.w)) (hWb : RowKit.Below Wb.heap.size Wb w) (hv : MRow w v R) (hs : ∀ x ∈ R, Small x.1) (hn : R.length ≤ 100000) :
    Calls Tryz.prog 76 #[v, .pointer (some ⟨kb, 0, none⟩), .pointer (some ⟨kc, 0, none⟩)] w (PartP w ((R.map (·.1)).filter fun m => !deadF c s m)) := by
  have HC := Lib.hid (copies_any v R w hv (fun x hx => (hs x hx).over) hn)
  have HD := Lib.hid (fun (W : World) (hW : RowKit.Below w.heap.size w W) (g cap : Nat) (R1 : List Ro) (hcp : Copied W (.slice (some ⟨g, 0, none⟩) R1.length cap) R1 w.heap.size) (hl : R1.length ≤ 100000) =>
    delete_any w.heap.size (.slice (some ⟨g, 0, none⟩) R1.length cap) R1 77 #[.pointer (some ⟨kb, 0, none⟩), .pointer (some ⟨kc, 0, none⟩)] (fun x => deadF c s x) W hcp.row hcp.mrow.forms (by omega)
      (ask_sweep (n := n) kb kc s hcv hG hn0 hP hc f0 f1 f2 W (below_then hWb (Nat.le_refl _) hW) _ (fun k hk => Nat.le_trans hWb.size (hcp.row.lt k hk).1))
      (enters_of Tryz.func77 (by kernel_rfl) rfl))
  obtain ⟨ao, cap, rfl, -, -⟩ := hv.form
  obtain ⟨m, hN⟩ : ∃ n, n = R.length := ⟨_, rfl⟩
  unfold CopiesP at HC
  rw [← hN] at HC hn ⊢
  have HN := Lib.hid hN
  clear hv hs hc f0 f1 f2 hcv hG hn0 hP hN hWb
  go_enter Tryz.func76, Tryz.ntmps76
  go_wp2_with fail
  refine HC.out.mono ?_
  rintro e w1 ⟨v1, R1, rfl, ⟨g, cap1, rfl⟩, hm, hcp, hb⟩
  have hl1 : m = R1.length := by have h := congrArg List.length hm; simp only [List.length_map] at h; rw [HN.out]; exact h.symm
  rw [hl1] at hcp
  have HD1 := Lib.hid (HD.out w1 hb g cap1 R1 hcp (by omega))
  rw [← hl1] at HD1
  have HP := Lib.hid (And.intro hm (And.intro hcp (And.intro hl1 hb)))
  clear hm hcp hb hl1 HC HD
  go_wp2_with fail
  refine HD1.out.mono ?_
  rintro e w2 ⟨v2, rfl, ho, hg, -⟩
  have hb2 : RowKit.Below w.heap.size w w2 := HP.out.2.2.2.grown hg HP.out.2.2.2.size (fun k hk => (HP.out.2.1.row.lt k (by rw [HP.out.2.2.1] at hk; exact hk)).1)
  have hmr := HP.out.2.1.filtered (K := R1.filter fun x => !deadF c s x.1) (fun x hx => (List.mem_filter.1 hx).1) ho (by rw [← HP.out.2.2.1]; exact hg)
  have HF := Lib.hid (And.intro hmr hb2)
  clear ho hg hmr hb2
  go_wp2_with fail
  go_ret
  refine ⟨_, _, rfl, ?_, HF.out.1, HF.out.2⟩
  rw [← HP.out.1, List.filter_map]
  rfl

set_option maxHeartbeats 4000000 in
set_option maxRecDepth 100000 in
theorem c_sweep {c : Con} {n : Nat} {v : Value} {w : World} (s : Stp) (hv : IsC c v w) (h : Good c n) (hn : n ≤ 100000) :
    Calls Tryz.prog 35 #[v, vS s] w (RetC (c.filter fun m => !deadF c s m) w) := by
  obtain ⟨f, hf⟩ : ∃ f : Mu → Bool, f = fun m => !deadF c s m := ⟨_, rfl⟩
  rw [← hf]
  obtain ⟨o1, n1, k1, o2, n2, k2, o3, n3, k3, rfl, hl⟩ := hv.form
  have hlo := h.okc.lens
  obtain ⟨⟨RA, ea, hra⟩, ⟨RB, eb, hrb⟩, ⟨RD, ed, hrd⟩⟩ := hl
  have la : RA.length ≤ 100000 := by have h1 : c.cells.length = RA.length := by rw [← ea]; simp
                                     omega
  have lb : RB.length ≤ 100000 := by have h1 : c.wipes.length = RB.length := by rw [← eb]; simp
                                     omega
  have ld : RD.length ≤ 100000 := by have h1 : c.sibs.length = RD.length := by rw [← ed]; simp
                                     omega
  have sa : ∀ x ∈ RA, Small x.1 := fun x hx => small_right (h.okc.right _ (Con.mem_all.2 (Or.inl (ea ▸ List.mem_map.2 ⟨x, hx, rfl⟩))))
  have sb : ∀ x ∈ RB, Small x.1 := fun x hx => small_right (h.okc.right _ (Con.mem_all.2 (Or.inr (Or.inl (eb ▸ List.mem_map.2 ⟨x, hx, rfl⟩)))))
  have sd : ∀ x ∈ RD, Small x.1 := fun x hx => small_right (h.okc.right _ (Con.mem_all.2 (Or.inr (Or.inr (ed ▸ List.mem_map.2 ⟨x, hx, rfl⟩)))))
  obtain ⟨sp, sl, sw⟩ := s
  obtain ⟨W0, hW0⟩ : ∃ W0, W0 = ((w.alloc (.cells #[.slice o1 n1 k1, .slice o2 n2 k2, .slice o3 n3 k3] 32)).alloc (.cells #[.int .i64 sp, .int .i64 sl, .int .i64 sw] 26)).alloc (.cells #[.slice none 0 0, .slice none 0 0, .slice none 0 0] 32) := ⟨_, rfl⟩
  have hb0 : RowKit.Below w.heap.size w W0 := by rw [hW0]; exact (((Below.refl _ w).alloc (Nat.le_refl _) _).alloc (by simp) _).alloc (by simp; omega) _
  have hP : C3 W0 w.heap.size (.slice o1 n1 k1) (.slice o2 n2 k2) (.slice o3 n3 k3) := by
    rw [hW0]
    exact ((C3.new w _ _ _).below ((Below.refl _ _).alloc (Nat.le_refl _) _)).below ((Below.refl _ _).alloc (Nat.le_refl _) _)
  have hT : C3 W0 (w.heap.size + 1 + 1) (.slice none 0 0) (.slice none 0 0) (.slice none 0 0) := by
    rw [hW0]
    have := C3.new ((w.alloc (.cells #[.slice o1 n1 k1, .slice o2 n2 k2, .slice o3 n3 k3] 32)).alloc (.cells #[.int .i64 sp, .int .i64 sl, .int .i64 sw] 26)) (.slice none 0 0) (.slice none 0 0) (.slice none 0 0)
    rwa [World.size_alloc, World.size_alloc] at this
  have z0 : W0.cell? ⟨w.heap.size + 1, 0, none⟩ = some (.int .i64 sp) := by rw [hW0]; go_simp
  have z1 : W0.cell? ⟨w.heap.size + 1, 1, none⟩ = some (.int .i64 sl) := by rw [hW0]; go_simp
  have z2 : W0.cell? ⟨w.heap.size + 1, 2, none⟩ = some (.int .i64 sw) := by rw [hW0]; go_simp
  have hz : w.heap.size + 1 < W0.heap.size := by have := hT.lt; omega
  have key : ∀ (v : Value) (R : List Ro) (l : List Mu), R.map (·.1) = l → MRow w v R → (∀ x ∈ R, Small x.1) → R.length ≤ 100000 → ∀ W, RowKit.Below W0.heap.size W0 W → Calls Tryz.prog 76 #[v, .pointer (some ⟨w.heap.size, 0, none⟩), .pointer (some ⟨w.heap.size + 1, 0, none⟩)] W fun e w' => ∃ v, e = .returned v ∧ Reads w' v (l.filter f) ∧ RowKit.Below W.heap.size W w' := fun v R l hl hv' hs' hn' W hW => by
    refine (leftof_any (n := n) v R w.heap.size (w.heap.size + 1) ⟨sp, sl, sw⟩ W (hv.below hb0) h hn hP hz z0 z1 z2 hW (hv'.below (below_then hb0 (Nat.le_refl _) hW)) hs' hn').mono ?_
    rintro e w' ⟨v1, R1, rfl, h1, h2, h3⟩
    exact ⟨v1, rfl, ⟨R1, by rw [h1, hl, hf], h2⟩, h3⟩
  have HA := Lib.hid (key _ _ _ ea hra sa la)
  have HB := Lib.hid (key _ _ _ eb hrb sb lb)
  have HD := Lib.hid (key _ _ _ ed hrd sd ld)
  have HZ := Lib.hid (And.intro hz (And.intro z0 (And.intro z1 z2)))
  have HP := Lib.hid hP
  have HT := Lib.hid hT
  have HB0 := Lib.hid hb0
  have HW := Lib.hid hW0
  have HI := Lib.hid (fun W (hW : RowKit.Below W0.heap.size W0 W) => hv.below (below_then hb0 (Nat.le_refl _) hW))
  have he1 : ∀ args w, (callFunc 76 args).run Tryz.prog w = .ok (.enter 76 args) w := enters_of Tryz.func76 (by kernel_rfl) rfl
  clear key hlo ea eb ed hra hrb hrd la lb ld sa sb sd hb0 hP hT hW0 z0 z1 z2 hz hf hv h hn
  unfold vS
  simp only []
  go_enter Tryz.func35, Tryz.ntmps35
  go_upto_region 2 with fail
  rw [← HW.out]
  clear HW
  go_wp2_with fail
  refine wp_region_told [] 13 [false, false, false, false, false, false, false, true, true, true, true, true, true, true, true, true, true, true, true, true]
    [sLit (.func (.func 76) #[] #[.pointer (some ⟨w.heap.size, 0, none⟩), .pointer (some ⟨w.heap.size + 1, 0, none⟩)]),
    sLit (.pointer (some ⟨w.heap.size, 0, none⟩)),
    sLit (.slice o1 n1 k1),
    sOne (fun v W => Reads W v (c.cells.filter f)) (fun _ _ _ h hb => h.below hb),
    sLit (.func (.func 76) #[] #[.pointer (some ⟨w.heap.size, 0, none⟩), .pointer (some ⟨w.heap.size + 1, 0, none⟩)]),
    sLit (.pointer (some ⟨w.heap.size, 1, none⟩)),
    sLit (.slice o2 n2 k2),
    sOne (fun v W => Reads W v (c.wipes.filter f)) (fun _ _ _ h hb => h.below hb),
    sLit (.func (.func 76) #[] #[.pointer (some ⟨w.heap.size, 0, none⟩), .pointer (some ⟨w.heap.size + 1, 0, none⟩)]),
    sLit (.pointer (some ⟨w.heap.size, 2, none⟩)),
    sLit (.slice o3 n3 k3),
    sOne (fun v W => Reads W v (c.sibs.filter f)) (fun _ _ _ h hb => h.below hb),
    sFn3 10 14 18 (fun x0 x1 x2 => .agg #[x0, x1, x2])] (by kernel_rfl) (by kernel_rfl) (by kernel_rfl) (fun F hF => ?_)
  simp only [over, overL, Nat.reduceAdd] at hF
  obtain rfl := funext hF
  clear hF
  refine ⟨⟨?_, ?_, ?_, ?_, ?_, ?_, ?_, ?_, ?_, ?_, ?_, ?_, ?_, trivial⟩, ?_⟩
  · intro V W hb hd K hK _
    clear hd
    go_wp2_with fail
    refine hK _ _ ?_ ?_ ?_ ?_
    · rfl
    · exact Below.refl _ _
    · exact rfl
    · trivial
  · intro V W hb hd K hK _
    clear hd
    go_wp2_with fail
    refine hK _ _ ?_ ?_ ?_ ?_
    · rfl
    · exact Below.refl _ _
    · exact rfl
    · trivial
  · intro V W hb hd K hK _
    have h1 : (V 8) = .pointer (some ⟨w.heap.size, 0, none⟩) := hd 1 (by kernel_rfl)
    clear hd
    obtain ⟨-, s0, s1, s2, -⟩ := HP.out.below hb
    go_wp2_with fail
    refine hK _ _ ?_ ?_ ?_ ?_
    · rfl
    · exact Below.refl _ _
    · exact rfl
    · trivial
  · intro V W hb hd K hK _
    have h0 : (V 7) = .func (.func 76) #[] #[.pointer (some ⟨w.heap.size, 0, none⟩), .pointer (some ⟨w.heap.size + 1, 0, none⟩)] := hd 0 (by kernel_rfl)
    have h2 : (V 9) = .slice o1 n1 k1 := hd 2 (by kernel_rfl)
    clear hd
    go_wp2_with fail
    refine (HA.out _ hb).mono ?_
    rintro e w1 ⟨v1, rfl, hr1, hb1⟩
    go_wp2_with fail
    refine hK _ _ ?_ ?_ ?_ ?_
    · rfl
    · exact hb1
    · exact hr1
    · trivial
  · intro V W hb hd K hK _
    clear hd
    go_wp2_with fail
    refine hK _ _ ?_ ?_ ?_ ?_
    · rfl
    · exact Below.refl _ _
    · exact rfl
    · trivial
  · intro V W hb hd K hK _
    clear hd
    go_wp2_with fail
    refine hK _ _ ?_ ?_ ?_ ?_
    · rfl
    · exact Below.refl _ _
    · exact rfl
    · trivial
  · intro V W hb hd K hK _
    have h5 : (V 12) = .pointer (some ⟨w.heap.size, 1, none⟩) := hd 5 (by kernel_rfl)
    clear hd
    obtain ⟨-, s0, s1, s2, -⟩ := HP.out.below hb
    go_wp2_with fail
    refine hK _ _ ?_ ?_ ?_ ?_
    · rfl
    · exact Below.refl _ _
    · exact rfl
    · trivial
  · intro V W hb hd K hK _
    have h4 : (V 11) = .func (.func 76) #[] #[.pointer (some ⟨w.heap.size, 0, none⟩), .pointer (some ⟨w.heap.size + 1, 0, none⟩)] := hd 4 (by kernel_rfl)
    have h6 : (V 13) = .slice o2 n2 k2 := hd 6 (by kernel_rfl)
    clear hd
    go_wp2_with fail
    refine (HB.out _ hb).mono ?_
    rintro e w1 ⟨v1, rfl, hr1, hb1⟩
    go_wp2_with fail
    refine hK _ _ ?_ ?_ ?_ ?_
    · rfl
    · exact hb1
    · exact hr1
    · trivial
  · intro V W hb hd K hK _
    clear hd
    go_wp2_with fail
    refine hK _ _ ?_ ?_ ?_ ?_
    · rfl
    · exact Below.refl _ _
    · exact rfl
    · trivial
  · intro V W hb hd K hK _
    clear hd
    go_wp2_with fail
    refine hK _ _ ?_ ?_ ?_ ?_
    · rfl
    · exact Below.refl _ _
    · exact rfl
    · trivial
  · intro V W hb hd K hK _
    have h9 : (V 16) = .pointer (some ⟨w.heap.size, 2, none⟩) := hd 9 (by kernel_rfl)
    clear hd
    obtain ⟨-, s0, s1, s2, -⟩ := HP.out.below hb
    go_wp2_with fail
    refine hK _ _ ?_ ?_ ?_ ?_
    · rfl
    · exact Below.refl _ _
    · exact rfl
    · trivial
  · intro V W hb hd K hK _
    have h8 : (V 15) = .func (.func 76) #[] #[.pointer (some ⟨w.heap.size, 0, none⟩), .pointer (some ⟨w.heap.size + 1, 0, none⟩)] := hd 8 (by kernel_rfl)
    have h10 : (V 17) = .slice o3 n3 k3 := hd 10 (by kernel_rfl)
    clear hd
    go_wp2_with fail
    refine (HD.out _ hb).mono ?_
    rintro e w1 ⟨v1, rfl, hr1, hb1⟩
    go_wp2_with fail
    refine hK _ _ ?_ ?_ ?_ ?_
    · rfl
    · exact hb1
    · exact hr1
    · trivial
  · intro V W hb hd K hK _
    have h3 : Reads W (V 10) (c.cells.filter f) := hd 3 (by kernel_rfl)
    have h7 : Reads W (V 14) (c.wipes.filter f) := hd 7 (by kernel_rfl)
    have h11 : Reads W (V 18) (c.sibs.filter f) := hd 11 (by kernel_rfl)
    clear hd
    obtain ⟨o13, k13, e3, -, -⟩ := h3.form
    obtain ⟨o17, k17, e7, -, -⟩ := h7.form
    obtain ⟨o21, k21, e11, -, -⟩ := h11.form
    go_wp2_with fail
    refine hK _ _ ?_ ?_ ?_ ?_
    · rfl
    · exact Below.refl _ _
    · exact (show _ = Value.agg #[V 10, V 14, V 18] by rw [e3, e7, e11]; rfl)
    · trivial
  · intro V W hb hd hap
    have h3 : Reads W (V 10) (c.cells.filter f) := hd 3 (by decide)
    have h7 : Reads W (V 14) (c.wipes.filter f) := hd 7 (by decide)
    have h11 : Reads W (V 18) (c.sibs.filter f) := hd 11 (by decide)
    have h12 : (V 19) = .agg #[V 10, V 14, V 18] := hd 12 (by decide)
    clear hd hap
    simp only [List.drop_succ_cons, List.drop_zero]
    have HT4 := Lib.hid (HT.out.below hb)
    obtain ⟨-, t0, t1, t2, f0, f1, f2⟩ := HT4.out
    obtain ⟨o4, k4, e3, -, -⟩ := h3.form
    obtain ⟨o5, k5, e7, -, -⟩ := h7.form
    obtain ⟨o6, k6, e11, -, -⟩ := h11.form
    rw [e3] at h3
    rw [e7] at h7
    rw [e11] at h11
    have HRR := Lib.hid (And.intro h3 (And.intro h7 h11))
    clear h3 h7 h11
    obtain ⟨n4, hn4⟩ : ∃ n, n = (c.cells.filter f).length := ⟨_, rfl⟩
    obtain ⟨n5, hn5⟩ : ∃ n, n = (c.wipes.filter f).length := ⟨_, rfl⟩
    obtain ⟨n6, hn6⟩ : ∃ n, n = (c.sibs.filter f).length := ⟨_, rfl⟩
    rw [← hn4] at e3 HRR
    rw [← hn5] at e7 HRR
    rw [← hn6] at e11 HRR
    clear hn4 hn5 hn6
    go_wp2_with fail
    obtain ⟨-, u0, u1, u2, -⟩ := c3_put HT4.out (.slice o4 n4 k4) (.slice o5 n5 k5) (.slice o6 n6 k6)
    refine bodyPost_ret (v := .agg #[.slice o4 n4 k4, .slice o5 n5 k5, .slice o6 n6 k6]) (by simp [results, Tryz.f35, go_sem, u0, u1, u2]) rfl ?_
    have hl : Lies _ (.slice o4 n4 k4) (.slice o5 n5 k5) (.slice o6 n6 k6) (c.filter f) := ⟨HRR.out.1, HRR.out.2.1, HRR.out.2.2⟩
    exact ⟨_, rfl, (hl.plain3 (plain3 HT4.out _ _ _)).is, c3_put_below (below_then HB0.out (Nat.le_refl _) hb) (by omega) _ _ _⟩


set_option maxHeartbeats 4000000 in
set_option maxRecDepth 100000 in
theorem refleft_any {c : Con} {m : Nat} {v : Value} {w : World} (v2 : Value) (R : List Ro) (s : Stp) (hv : IsC c v w) (h : Good c m) (hm : m ≤ 100000) (hr : MRow w v2 R) (hn : R.length ≤ 100000) :
    Calls Tryz.prog 75 #[v, v2, vS s] w (RowP w (R.filter fun x => !deadF c s x.1)) := by
  obtain ⟨o1, n1, k1, o2, n2, k2, o3, n3, k3, rfl, hl⟩ := hv.form
  obtain ⟨ao, cap, rfl, -, -⟩ := hr.form
  obtain ⟨sp, sl, sw⟩ := s
  have HV := Lib.hid hr
  obtain ⟨n, hN⟩ : ∃ n, n = R.length := ⟨_, rfl⟩
  obtain ⟨F, hF⟩ : ∃ F : Ro → Bool, F = fun x => !deadF c ⟨sp, sl, sw⟩ x.1 := ⟨_, rfl⟩
  rw [← hF]
  obtain ⟨Q, hQ⟩ : ∃ Q, Q = R.filter F := ⟨_, rfl⟩
  rw [← hQ]
  rw [← hN] at HV hn ⊢
  have HQ := Lib.hid hQ
  have HN := Lib.hid hN
  obtain ⟨W0, hW0⟩ : ∃ W0, W0 = (w.alloc (.cells #[.slice o1 n1 k1, .slice o2 n2 k2, .slice o3 n3 k3] 34)).alloc (.cells #[.int .i64 sp, .int .i64 sl, .int .i64 sw] 26) := ⟨_, rfl⟩
  have hb0 : RowKit.Below w.heap.size w W0 := by rw [hW0]; exact ((Below.refl _ w).alloc (Nat.le_refl _) _).alloc (by simp) _
  have hP : C3 W0 w.heap.size (.slice o1 n1 k1) (.slice o2 n2 k2) (.slice o3 n3 k3) := by
    rw [hW0]
    exact (C3.newR w _ _ _).below ((Below.refl _ _).alloc (Nat.le_refl _) _)
  have z0 : W0.cell? ⟨w.heap.size + 1, 0, none⟩ = some (.int .i64 sp) := by rw [hW0]; go_simp
  have z1 : W0.cell? ⟨w.heap.size + 1, 1, none⟩ = some (.int .i64 sl) := by rw [hW0]; go_simp
  have z2 : W0.cell? ⟨w.heap.size + 1, 2, none⟩ = some (.int .i64 sw) := by rw [hW0]; go_simp
  have hz : w.heap.size + 1 < W0.heap.size := by rw [hW0]; simp
  have HZ := Lib.hid (show ∀ W, RowKit.Below W0.heap.size W0 W → W.cell? ⟨w.heap.size + 1, 0, none⟩ = some (.int .i64 sp) ∧ W.cell? ⟨w.heap.size + 1, 1, none⟩ = some (.int .i64 sl) ∧ W.cell? ⟨w.heap.size + 1, 2, none⟩ = some (.int .i64 sw) from fun W h => ⟨(h.cell (p := ⟨w.heap.size + 1, 0, none⟩) hz).trans z0, (h.cell (p := ⟨w.heap.size + 1, 1, none⟩) hz).trans z1, (h.cell (p := ⟨w.heap.size + 1, 2, none⟩) hz).trans z2⟩)
  have HDx := Lib.hid (show ∀ x : Ro, (∃ ao n cap, x.2 = .slice ao n cap) → ∀ W, RowKit.Below W0.heap.size W0 W → Calls Tryz.prog 74 #[.agg #[.slice o1 n1 k1, .slice o2 n2 k2, .slice o3 n3 k3], vM x, .agg #[.int .i64 sp, .int .i64 sl, .int .i64 sw]] W (RetB (!F x) W) from fun x hx W hW => by
    have hfx : (!F x) = deadF c ⟨sp, sl, sw⟩ x.1 := by rw [hF]; simp
    rw [hfx]
    exact refdead_any (n := m) x ⟨sp, sl, sw⟩ (hv.below (below_then hb0 (Nat.le_refl _) hW)) h hm hx)
  have HP := Lib.hid hP
  have HB0 := Lib.hid hb0
  have HW := Lib.hid hW0
  clear hl hv hr hQ hN hF h hm hb0 hP hW0 z0 z1 z2
  unfold vS
  simp only []
  go_enter Tryz.func75, Tryz.ntmps75
  go_upto_region 1 with fail
  rw [← HW.out]
  clear HW
  go_wp2_with fail
  go_loopw [7, 8] (fun ov iv wr => ∃ (k on : Nat) (out : List Ro), k ≤ n ∧ iv = .int .i64 k ∧ Hid (out ++ (R.drop k).filter F = Q) ∧ Hid (on = out.length) ∧ on ≤ k ∧ Hid (wr.ownsRow W0.heap.size 29 10 ov on (out.flatMap enM)) ∧ Hid (RowKit.Below W0.heap.size W0 wr)) (fun _ iv _ => n - (intOf iv).toNat)
  case atStart => exact ⟨0, 0, [], by omega, rfl, Lib.hid (by rw [HQ.out]; rfl), Lib.hid rfl, by simp, Lib.hid (World.ownsRow_nil _ _ _ _), Lib.hid (Below.refl _ _)⟩
  case round =>
    obtain ⟨k, on, out, hk, rfl, hput, hol2, hol, hown, hl⟩ := hrel
    have HBW := Lib.hid (below_then HB0.out (Nat.le_refl _) hl.out)
    by_cases hlt : k < n
    · have hkr : k < R.length := by have := HN.out; omega
      obtain ⟨x, hx⟩ : ∃ x, R[k]? = some x := ⟨_, List.getElem?_eq_getElem hkr⟩
      have hxe : R[k] = x := (List.getElem?_eq_some_iff.1 hx).2
      have hxm := List.mem_of_getElem? hx
      have hxo := (HV.out.below HBW.out).over x hxm
      obtain ⟨xb, xoff, hao, hat⟩ := (HV.out.below HBW.out).at_ hx
      cases hao
      have hst := hput.out
      rw [List.drop_eq_getElem_cons hkr, hxe] at hst
      have HXO := Lib.hid hxo
      obtain ⟨xo, xc, ex, -, -⟩ := Over.form hxo
      obtain ⟨D, hD⟩ : ∃ D, D = F x := ⟨_, rfl⟩
      have HTX := Lib.hid (fun W (hW : RowKit.Below W0.heap.size W0 W) => HDx.out x ⟨_, _, _, ex⟩ W hW)
      rw [← hD] at HTX
      rw [List.filter_cons, ← hD] at hst
      clear hD hput hx hxe hxo hxm
      have HAT := Lib.hid hat
      clear hat
      obtain ⟨⟨at1, ak1, akey1, afin1, aval1, aex1, ⟨ap1, al1, aw1⟩, aov1⟩, av1⟩ := x
      simp only [] at ex
      obtain ⟨xn, hxn⟩ : ∃ k, k = aov1.length := ⟨_, rfl⟩
      rw [← hxn] at ex
      subst ex
      clear hxn
      unfold vM at HTX
      simp only [] at HTX
      have HST := Lib.hid hst
      clear hst
      obtain ⟨hbl, a0, a1, a2, a3, a4, a5, a6, a7, a8, a9⟩ := HAT.out
      simp only [] at a0 a1 a2 a3 a4 a5 a6 a7 a8 a9
      obtain ⟨hlc, p0, p1, p2, -⟩ := HP.out.below hl.out
      obtain ⟨z0, z1, z2⟩ := HZ.out wr hl.out
      have hlz : w.heap.size + 1 < wr.heap.size := Nat.lt_of_lt_of_le hz hl.out.size
      have j0 : (0 : Int) ≤ (k : Int) := by omega
      have j1 : (k : Int) < (n : Int) := by omega
      cases D
      · have HS2 := Lib.hid (show out ++ (R.drop (k + 1)).filter F = Q from HST.out)
        simp only [Bool.not_true, Bool.not_false] at HTX
        go_wp2_with fail
        refine wp_region_calm (by kernel_rfl) (by kernel_rfl) ?_
        repeat (go_big_quiet_step (first
          | (go_at_call 74; exact calm (HTX.out _ (below_then hl.out (Nat.le_refl _) (BW.below _))))))
        refine wpQuiet_nil ?_
        rintro _ ⟨y, rfl⟩
        obtain ⟨W1, hW1⟩ : ∃ W1, W1 = y.at := ⟨_, rfl⟩
        have hz := y.below
        rw [← hW1] at hz ⊢
        have HZ := Lib.hid hz
        clear hW1 y hz
        have HF := Lib.hid (below_then hl.out (Nat.le_refl _) HZ.out)
        have HOi := Lib.hid (row_below hown.out HZ.out)
        clear a0 a1 a2 a3 a4 a5 a6 a7 a8 a9 hbl p0 p1 p2 z0 z1 z2
        go_wp2_with fail
        go_roundw
        case rel => exact ⟨k + 1, on, out, by omega, by go_num, HS2, hol2, by omega, HOi, HF⟩
        case measure => simp [intOf]; omega
      · have HS2 := Lib.hid (show (out ++ [(⟨⟨at1, ak1, akey1, afin1, aval1, aex1, ⟨ap1, al1, aw1⟩, aov1⟩, .slice xo xn xc⟩ : Ro)]) ++ (R.drop (k + 1)).filter F = Q by have h : out ++ ((⟨⟨at1, ak1, akey1, afin1, aval1, aex1, ⟨ap1, al1, aw1⟩, aov1⟩, .slice xo xn xc⟩ : Ro) :: (R.drop (k + 1)).filter F) = Q := HST.out; rw [← h]; simp)
        simp only [Bool.not_true, Bool.not_false] at HTX
        go_wp2_with fail
        refine wp_region_calm (by kernel_rfl) (by kernel_rfl) ?_
        repeat (go_big_quiet_step (first
          | (go_at_call 74; exact calm (HTX.out _ (below_then hl.out (Nat.le_refl _) (BW.below _))))))
        refine wpQuiet_nil ?_
        rintro _ ⟨y, rfl⟩
        obtain ⟨W1, hW1⟩ : ∃ W1, W1 = y.at := ⟨_, rfl⟩
        have hz := y.below
        rw [← hW1] at hz ⊢
        have HZ := Lib.hid hz
        clear hW1 y hz
        have HF := Lib.hid (below_then hl.out (Nat.le_refl _) HZ.out)
        have HOi := Lib.hid (row_below hown.out HZ.out)
        clear a0 a1 a2 a3 a4 a5 a6 a7 a8 a9 hbl p0 p1 p2 z0 z1 z2
        have HA1 := Lib.hid (HAT.out.below HZ.out)
        have HX1 := Lib.hid (HXO.out.below HZ.out)
        obtain ⟨hbl, a0, a1, a2, a3, a4, a5, a6, a7, a8, a9⟩ := HA1.out
        simp only [] at a0 a1 a2 a3 a4 a5 a6 a7 a8 a9
        have hsz := HF.out.size
        go_wp2_with (at_builtin; refine wpList_append_rows rfl (.tmp 23) (.tmp 28) rfl W0.heap.size u7 on _ rfl (HOi.out.alloc _) (some ⟨W1.heap.size, 0, none⟩) 1 1 [(⟨⟨at1, ak1, akey1, afin1, aval1, aex1, ⟨ap1, al1, aw1⟩, aov1⟩, .slice xo xn xc⟩ : Ro)] rfl (one_row HX1.out) (by omega) (by simp; omega) ?_)
        intro v4 w4 hown4 hgr4
        have HO4 := Lib.hid (show w4.ownsRow W0.heap.size 29 10 v4 (on + 1) ((out ++ [(⟨⟨at1, ak1, akey1, afin1, aval1, aex1, ⟨ap1, al1, aw1⟩, aov1⟩, .slice xo xn xc⟩ : Ro)]).flatMap enM) by rw [List.flatMap_append]; exact hown4)
        have HB4 := Lib.hid ((HF.out.alloc hsz _).grown hgr4 (by simp; omega) (fun k hk => (HOi.out.lt k hk).1))
        clear hown4 hgr4 a0 a1 a2 a3 a4 a5 a6 a7 a8 a9
        go_wp2_with fail
        go_roundw
        case rel => exact ⟨k + 1, on + 1, _, by omega, by go_num, HS2, Lib.hid (by have := hol2.out; simp; omega), by omega, HO4, HB4⟩
        case measure => simp [intOf]; omega
    · obtain rfl : k = n := by omega
      have HQ2 := Lib.hid (show out = Q by have h := hput.out; rw [List.drop_of_length_le (by have := HN.out; omega)] at h; simpa using h)
      have HSUB := Lib.hid (show ∀ y ∈ Q, y ∈ R from fun y hy => by rw [HQ.out] at hy; exact (List.mem_filter.1 hy).1)
      have HMR := Lib.hid (show MRow wr u7 Q from ⟨by rw [← HQ2.out]; exact Lst.owned enM_len (by decide) hol2.out hown.out, fun y hy => (HV.out.over y (HSUB.out y hy)).below HBW.out⟩)
      go_wp2_with fail
      go_ret
      exact ⟨_, rfl, HMR.out, HBW.out⟩

set_option maxHeartbeats 4000000 in
set_option maxRecDepth 100000 in
theorem c_refsweep {c : Con} {n : Nat} {v : Value} {w : World} (s : Stp) (hv : IsC c v w) (h : Good c n) (hn : n ≤ 100000) :
    Calls Tryz.prog 34 #[v, vS s] w (RetC (c.filter fun m => !deadF c s m) w) := by
  obtain ⟨f, hf⟩ : ∃ f : Mu → Bool, f = fun m => !deadF c s m := ⟨_, rfl⟩
  rw [← hf]
  obtain ⟨o1, n1, k1, o2, n2, k2, o3, n3, k3, rfl, hl⟩ := hv.form
  have hlo := h.okc.lens
  obtain ⟨⟨RA, ea, hra⟩, ⟨RB, eb, hrb⟩, ⟨RD, ed, hrd⟩⟩ := hl
  have la : RA.length ≤ 100000 := by have h1 : c.cells.length = RA.length := by rw [← ea]; simp
                                     omega
  have lb : RB.length ≤ 100000 := by have h1 : c.wipes.length = RB.length := by rw [← eb]; simp
                                     omega
  have ld : RD.length ≤ 100000 := by have h1 : c.sibs.length = RD.length := by rw [← ed]; simp
                                     omega
  have sa : ∀ x ∈ RA, Small x.1 := fun x hx => small_right (h.okc.right _ (Con.mem_all.2 (Or.inl (ea ▸ List.mem_map.2 ⟨x, hx, rfl⟩))))
  have sb : ∀ x ∈ RB, Small x.1 := fun x hx => small_right (h.okc.right _ (Con.mem_all.2 (Or.inr (Or.inl (eb ▸ List.mem_map.2 ⟨x, hx, rfl⟩)))))
  have sd : ∀ x ∈ RD, Small x.1 := fun x hx => small_right (h.okc.right _ (Con.mem_all.2 (Or.inr (Or.inr (ed ▸ List.mem_map.2 ⟨x, hx, rfl⟩)))))
  obtain ⟨sp, sl, sw⟩ := s
  obtain ⟨W0, hW0⟩ : ∃ W0, W0 = ((w.alloc (.cells #[.slice o1 n1 k1, .slice o2 n2 k2, .slice o3 n3 k3] 34)).alloc (.cells #[.int .i64 sp, .int .i64 sl, .int .i64 sw] 26)).alloc (.cells #[.slice none 0 0, .slice none 0 0, .slice none 0 0] 34) := ⟨_, rfl⟩
  have hb0 : RowKit.Below w.heap.size w W0 := by rw [hW0]; exact (((Below.refl _ w).alloc (Nat.le_refl _) _).alloc (by simp) _).alloc (by simp; omega) _
  have hP : C3 W0 w.heap.size (.slice o1 n1 k1) (.slice o2 n2 k2) (.slice o3 n3 k3) := by
    rw [hW0]
    exact ((C3.newR w _ _ _).below ((Below.refl _ _).alloc (Nat.le_refl _) _)).below ((Below.refl _ _).alloc (Nat.le_refl _) _)
  have hT : C3 W0 (w.heap.size + 1 + 1) (.slice none 0 0) (.slice none 0 0) (.slice none 0 0) := by
    rw [hW0]
    have := C3.newR ((w.alloc (.cells #[.slice o1 n1 k1, .slice o2 n2 k2, .slice o3 n3 k3] 34)).alloc (.cells #[.int .i64 sp, .int .i64 sl, .int .i64 sw] 26)) (.slice none 0 0) (.slice none 0 0) (.slice none 0 0)
    rwa [World.size_alloc, World.size_alloc] at this
  have z0 : W0.cell? ⟨w.heap.size + 1, 0, none⟩ = some (.int .i64 sp) := by rw [hW0]; go_simp
  have z1 : W0.cell? ⟨w.heap.size + 1, 1, none⟩ = some (.int .i64 sl) := by rw [hW0]; go_simp
  have z2 : W0.cell? ⟨w.heap.size + 1, 2, none⟩ = some (.int .i64 sw) := by rw [hW0]; go_simp
  have hz : w.heap.size + 1 < W0.heap.size := by have := hT.lt; omega
  have key : ∀ (v : Value) (R : List Ro) (l : List Mu), R.map (·.1) = l → MRow w v R → (∀ x ∈ R, Small x.1) → R.length ≤ 100000 → ∀ W, RowKit.Below W0.heap.size W0 W → Calls Tryz.prog 75 #[.agg #[.slice o1 n1 k1, .slice o2 n2 k2, .slice o3 n3 k3], v, vS ⟨sp, sl, sw⟩] W fun e w' => ∃ v, e = .returned v ∧ Reads w' v (l.filter f) ∧ RowKit.Below W.heap.size W w' := fun v R l hl hv' hs' hn' W hW => by
    refine (refleft_any (m := n) v R ⟨sp, sl, sw⟩ (hv.below (below_then hb0 (Nat.le_refl _) hW)) h hn (hv'.below (below_then hb0 (Nat.le_refl _) hW)) hn').mono ?_
    rintro e w' ⟨v1, rfl, h2, h3⟩
    exact ⟨v1, rfl, ⟨_, by rw [← hl, List.filter_map, hf]; rfl, h2⟩, h3⟩
  have HA := Lib.hid (key _ _ _ ea hra sa la)
  have HB := Lib.hid (key _ _ _ eb hrb sb lb)
  have HD := Lib.hid (key _ _ _ ed hrd sd ld)
  have HZ := Lib.hid (And.intro hz (And.intro z0 (And.intro z1 z2)))
  have HP := Lib.hid hP
  have HT := Lib.hid hT
  have HB0 := Lib.hid hb0
  have HW := Lib.hid hW0
  have HI := Lib.hid (fun W (hW : RowKit.Below W0.heap.size W0 W) => hv.below (below_then hb0 (Nat.le_refl _) hW))
  skip
  clear key hlo ea eb ed hra hrb hrd la lb ld sa sb sd hb0 hP hT hW0 z0 z1 z2 hz hf hv h hn
  unfold vS at HA HB HD ⊢
  simp only [] at HA HB HD ⊢
  go_enter Tryz.func34, Tryz.ntmps34
  go_upto_region 1 with fail
  rw [← HW.out]
  clear HW
  go_wp2_with fail
  refine wp_region_told [] 16 [false, false, false, false, false, true, true, true, true, true, true, true, true, true, true, true, true, true, true, true, true]
    [sLit (.agg #[.slice o1 n1 k1, .slice o2 n2 k2, .slice o3 n3 k3]),
    sLit (.pointer (some ⟨w.heap.size, 0, none⟩)),
    sLit (.slice o1 n1 k1),
    sLit (.agg #[.int .i64 sp, .int .i64 sl, .int .i64 sw]),
    sOne (fun v W => Reads W v (c.cells.filter f)) (fun _ _ _ h hb => h.below hb),
    sLit (.agg #[.slice o1 n1 k1, .slice o2 n2 k2, .slice o3 n3 k3]),
    sLit (.pointer (some ⟨w.heap.size, 1, none⟩)),
    sLit (.slice o2 n2 k2),
    sLit (.agg #[.int .i64 sp, .int .i64 sl, .int .i64 sw]),
    sOne (fun v W => Reads W v (c.wipes.filter f)) (fun _ _ _ h hb => h.below hb),
    sLit (.agg #[.slice o1 n1 k1, .slice o2 n2 k2, .slice o3 n3 k3]),
    sLit (.pointer (some ⟨w.heap.size, 2, none⟩)),
    sLit (.slice o3 n3 k3),
    sLit (.agg #[.int .i64 sp, .int .i64 sl, .int .i64 sw]),
    sOne (fun v W => Reads W v (c.sibs.filter f)) (fun _ _ _ h hb => h.below hb),
    sFn3 9 14 19 (fun x0 x1 x2 => .agg #[x0, x1, x2])] (by kernel_rfl) (by kernel_rfl) (by kernel_rfl) (fun F hF => ?_)
  simp only [over, overL, Nat.reduceAdd] at hF
  obtain rfl := funext hF
  clear hF
  refine ⟨⟨?_, ?_, ?_, ?_, ?_, ?_, ?_, ?_, ?_, ?_, ?_, ?_, ?_, ?_, ?_, ?_, trivial⟩, ?_⟩
  · intro V W hb hd K hK _
    clear hd
    obtain ⟨-, s0, s1, s2, -⟩ := HP.out.below hb
    go_wp2_with fail
    refine hK _ _ ?_ ?_ ?_ ?_
    · rfl
    · exact Below.refl _ _
    · exact rfl
    · trivial
  · intro V W hb hd K hK _
    clear hd
    go_wp2_with fail
    refine hK _ _ ?_ ?_ ?_ ?_
    · rfl
    · exact Below.refl _ _
    · exact rfl
    · trivial
  · intro V W hb hd K hK _
    have h1 : (V 6) = .pointer (some ⟨w.heap.size, 0, none⟩) := hd 1 (by kernel_rfl)
    clear hd
    obtain ⟨-, s0, s1, s2, -⟩ := HP.out.below hb
    go_wp2_with fail
    refine hK _ _ ?_ ?_ ?_ ?_
    · rfl
    · exact Below.refl _ _
    · exact rfl
    · trivial
  · intro V W hb hd K hK _
    clear hd
    obtain ⟨z0, z1, z2⟩ := (show W.cell? ⟨w.heap.size + 1, 0, none⟩ = some (.int .i64 sp) ∧ W.cell? ⟨w.heap.size + 1, 1, none⟩ = some (.int .i64 sl) ∧ W.cell? ⟨w.heap.size + 1, 2, none⟩ = some (.int .i64 sw) from ⟨(hb.cell (p := ⟨w.heap.size + 1, 0, none⟩) HZ.out.1).trans HZ.out.2.1, (hb.cell (p := ⟨w.heap.size + 1, 1, none⟩) HZ.out.1).trans HZ.out.2.2.1, (hb.cell (p := ⟨w.heap.size + 1, 2, none⟩) HZ.out.1).trans HZ.out.2.2.2⟩)
    go_wp2_with fail
    refine hK _ _ ?_ ?_ ?_ ?_
    · rfl
    · exact Below.refl _ _
    · exact rfl
    · trivial
  · intro V W hb hd K hK _
    have h0 : (V 5) = .agg #[.slice o1 n1 k1, .slice o2 n2 k2, .slice o3 n3 k3] := hd 0 (by kernel_rfl)
    have h2 : (V 7) = .slice o1 n1 k1 := hd 2 (by kernel_rfl)
    have h3 : (V 8) = .agg #[.int .i64 sp, .int .i64 sl, .int .i64 sw] := hd 3 (by kernel_rfl)
    clear hd
    go_wp2_with fail
    refine (HA.out _ hb).mono ?_
    rintro e w1 ⟨v1, rfl, hr1, hb1⟩
    go_wp2_with fail
    refine hK _ _ ?_ ?_ ?_ ?_
    · rfl
    · exact hb1
    · exact hr1
    · trivial
  · intro V W hb hd K hK _
    clear hd
    obtain ⟨-, s0, s1, s2, -⟩ := HP.out.below hb
    go_wp2_with fail
    refine hK _ _ ?_ ?_ ?_ ?_
    · rfl
    · exact Below.refl _ _
    · exact rfl
    · trivial
  · intro V W hb hd K hK _
    clear hd
    go_wp2_with fail
    refine hK _ _ ?_ ?_ ?_ ?_
    · rfl
    · exact Below.refl _ _
    · exact rfl
    · trivial
  · intro V W hb hd K hK _
    have h6 : (V 11) = .pointer (some ⟨w.heap.size, 1, none⟩) := hd 6 (by kernel_rfl)
    clear hd
    obtain ⟨-, s0, s1, s2, -⟩ := HP.out.below hb
    go_wp2_with fail
    refine hK _ _ ?_ ?_ ?_ ?_
    · rfl
    · exact Below.refl _ _
    · exact rfl
    · trivial
  · intro V W hb hd K hK _
    clear hd
    obtain ⟨z0, z1, z2⟩ := (show W.cell? ⟨w.heap.size + 1, 0, none⟩ = some (.int .i64 sp) ∧ W.cell? ⟨w.heap.size + 1, 1, none⟩ = some (.int .i64 sl) ∧ W.cell? ⟨w.heap.size + 1, 2, none⟩ = some (.int .i64 sw) from ⟨(hb.cell (p := ⟨w.heap.size + 1, 0, none⟩) HZ.out.1).trans HZ.out.2.1, (hb.cell (p := ⟨w.heap.size + 1, 1, none⟩) HZ.out.1).trans HZ.out.2.2.1, (hb.cell (p := ⟨w.heap.size + 1, 2, none⟩) HZ.out.1).trans HZ.out.2.2.2⟩)
    go_wp2_with fail
    refine hK _ _ ?_ ?_ ?_ ?_
    · rfl
    · exact Below.refl _ _
    · exact rfl
    · trivial
  · intro V W hb hd K hK _
    have h5 : (V 10) = .agg #[.slice o1 n1 k1, .slice o2 n2 k2, .slice o3 n3 k3] := hd 5 (by kernel_rfl)
    have h7 : (V 12) = .slice o2 n2 k2 := hd 7 (by kernel_rfl)
    have h8 : (V 13) = .agg #[.int .i64 sp, .int .i64 sl, .int .i64 sw] := hd 8 (by kernel_rfl)
    clear hd
    go_wp2_with fail
    refine (HB.out _ hb).mono ?_
    rintro e w1 ⟨v1, rfl, hr1, hb1⟩
    go_wp2_with fail
    refine hK _ _ ?_ ?_ ?_ ?_
    · rfl
    · exact hb1
    · exact hr1
    · trivial
  · intro V W hb hd K hK _
    clear hd
    obtain ⟨-, s0, s1, s2, -⟩ := HP.out.below hb
    go_wp2_with fail
    refine hK _ _ ?_ ?_ ?_ ?_
    · rfl
    · exact Below.refl _ _
    · exact rfl
    · trivial
  · intro V W hb hd K hK _
    clear hd
    go_wp2_with fail
    refine hK _ _ ?_ ?_ ?_ ?_
    · rfl
    · exact Below.refl _ _
    · exact rfl
    · trivial
  · intro V W hb hd K hK _
    have h11 : (V 16) = .pointer (some ⟨w.heap.size, 2, none⟩) := hd 11 (by kernel_rfl)
    clear hd
    obtain ⟨-, s0, s1, s2, -⟩ := HP.out.below hb
    go_wp2_with fail
    refine hK _ _ ?_ ?_ ?_ ?_
    · rfl
    · exact Below.refl _ _
    · exact rfl
    · trivial
  · intro V W hb hd K hK _
    clear hd
    obtain ⟨z0, z1, z2⟩ := (show W.cell? ⟨w.heap.size + 1, 0, none⟩ = some (.int .i64 sp) ∧ W.cell? ⟨w.heap.size + 1, 1, none⟩ = some (.int .i64 sl) ∧ W.cell? ⟨w.heap.size + 1, 2, none⟩ = some (.int .i64 sw) from ⟨(hb.cell (p := ⟨w.heap.size + 1, 0, none⟩) HZ.out.1).trans HZ.out.2.1, (hb.cell (p := ⟨w.heap.size + 1, 1, none⟩) HZ.out.1).trans HZ.out.2.2.1, (hb.cell (p := ⟨w.heap.size + 1, 2, none⟩) HZ.out.1).trans HZ.out.2.2.2⟩)
    go_wp2_with fail
    refine hK _ _ ?_ ?_ ?_ ?_
    · rfl
    · exact Below.refl _ _
    · exact rfl
    · trivial
  · intro V W hb hd K hK _
    have h10 : (V 15) = .agg #[.slice o1 n1 k1, .slice o2 n2 k2, .slice o3 n3 k3] := hd 10 (by kernel_rfl)
    have h12 : (V 17) = .slice o3 n3 k3 := hd 12 (by kernel_rfl)
    have h13 : (V 18) = .agg #[.int .i64 sp, .int .i64 sl, .int .i64 sw] := hd 13 (by kernel_rfl)
    clear hd
    go_wp2_with fail
    refine (HD.out _ hb).mono ?_
    rintro e w1 ⟨v1, rfl, hr1, hb1⟩
    go_wp2_with fail
    refine hK _ _ ?_ ?_ ?_ ?_
    · rfl
    · exact hb1
    · exact hr1
    · trivial
  · intro V W hb hd K hK _
    have h4 : Reads W (V 9) (c.cells.filter f) := hd 4 (by kernel_rfl)
    have h9 : Reads W (V 14) (c.wipes.filter f) := hd 9 (by kernel_rfl)
    have h14 : Reads W (V 19) (c.sibs.filter f) := hd 14 (by kernel_rfl)
    clear hd
    obtain ⟨o14, k14, e4, -, -⟩ := h4.form
    obtain ⟨o19, k19, e9, -, -⟩ := h9.form
    obtain ⟨o24, k24, e14, -, -⟩ := h14.form
    go_wp2_with fail
    refine hK _ _ ?_ ?_ ?_ ?_
    · rfl
    · exact Below.refl _ _
    · exact (show _ = Value.agg #[V 9, V 14, V 19] by rw [e4, e9, e14]; rfl)
    · trivial
  · intro V W hb hd hap
    have h4 : Reads W (V 9) (c.cells.filter f) := hd 4 (by decide)
    have h9 : Reads W (V 14) (c.wipes.filter f) := hd 9 (by decide)
    have h14 : Reads W (V 19) (c.sibs.filter f) := hd 14 (by decide)
    have h15 : (V 20) = .agg #[V 9, V 14, V 19] := hd 15 (by decide)
    clear hd hap
    simp only [List.drop_succ_cons, List.drop_zero]
    have HT4 := Lib.hid (HT.out.below hb)
    obtain ⟨-, t0, t1, t2, f0, f1, f2⟩ := HT4.out
    obtain ⟨o4, k4, e4, -, -⟩ := h4.form
    obtain ⟨o5, k5, e9, -, -⟩ := h9.form
    obtain ⟨o6, k6, e14, -, -⟩ := h14.form
    rw [e4] at h4
    rw [e9] at h9
    rw [e14] at h14
    have HRR := Lib.hid (And.intro h4 (And.intro h9 h14))
    clear h4 h9 h14
    obtain ⟨n4, hn4⟩ : ∃ n, n = (c.cells.filter f).length := ⟨_, rfl⟩
    obtain ⟨n5, hn5⟩ : ∃ n, n = (c.wipes.filter f).length := ⟨_, rfl⟩
    obtain ⟨n6, hn6⟩ : ∃ n, n = (c.sibs.filter f).length := ⟨_, rfl⟩
    rw [← hn4] at e4 HRR
    rw [← hn5] at e9 HRR
    rw [← hn6] at e14 HRR
    clear hn4 hn5 hn6
    go_wp2_with fail
    obtain ⟨-, u0, u1, u2, -⟩ := c3_put HT4.out (.slice o4 n4 k4) (.slice o5 n5 k5) (.slice o6 n6 k6)
    refine bodyPost_ret (v := .agg #[.slice o4 n4 k4, .slice o5 n5 k5, .slice o6 n6 k6]) (by simp [results, Tryz.f34, go_sem, u0, u1, u2]) rfl ?_
    have hl : Lies _ (.slice o4 n4 k4) (.slice o5 n5 k5) (.slice o6 n6 k6) (c.filter f) := ⟨HRR.out.1, HRR.out.2.1, HRR.out.2.2⟩
    exact ⟨_, rfl, (hl.plain3 (plain3 HT4.out _ _ _)).is, c3_put_below (below_then HB0.out (Nat.le_refl _) hb) (by omega) _ _ _⟩


set_option maxHeartbeats 4000000 in
set_option maxRecDepth 100000 in
theorem c_refdropped {c : Con} {m : Nat} {v : Value} {w : World} (s : Stp) (hv : IsC c v w) (h : Good c m) (hm : m ≤ 90000) :
    Calls Tryz.prog 33 #[v, vS s] w (RetR (deadsF c s) w) := by
  have hln : (allF c).length ≤ 90000 := by have := len_allF c; have := h.okc.len; omega
  obtain ⟨o1, n1, k1, o2, n2, k2, o3, n3, k3, rfl, hl⟩ := hv.form
  obtain ⟨sp, sl, sw⟩ := s
  obtain ⟨F, hF⟩ : ∃ F : Ro → Bool, F = fun x => deadF c ⟨sp, sl, sw⟩ x.1 := ⟨_, rfl⟩
  obtain ⟨Wa, hWa⟩ : ∃ Wa, Wa = (w.alloc (.cells #[.slice o1 n1 k1, .slice o2 n2 k2, .slice o3 n3 k3] 34)).alloc (.cells #[.int .i64 sp, .int .i64 sl, .int .i64 sw] 26) := ⟨_, rfl⟩
  have hba : RowKit.Below w.heap.size w Wa := by rw [hWa]; exact ((Below.refl _ w).alloc (Nat.le_refl _) _).alloc (by simp) _
  have hPa : C3 Wa w.heap.size (.slice o1 n1 k1) (.slice o2 n2 k2) (.slice o3 n3 k3) := by
    rw [hWa]
    exact (C3.newR w _ _ _).below ((Below.refl _ _).alloc (Nat.le_refl _) _)
  have z0 : Wa.cell? ⟨w.heap.size + 1, 0, none⟩ = some (.int .i64 sp) := by rw [hWa]; go_simp
  have z1 : Wa.cell? ⟨w.heap.size + 1, 1, none⟩ = some (.int .i64 sl) := by rw [hWa]; go_simp
  have z2 : Wa.cell? ⟨w.heap.size + 1, 2, none⟩ = some (.int .i64 sw) := by rw [hWa]; go_simp
  have hz : w.heap.size + 1 < Wa.heap.size := by rw [hWa]; simp
  have HZa := Lib.hid (show ∀ W, RowKit.Below Wa.heap.size Wa W → W.cell? ⟨w.heap.size + 1, 0, none⟩ = some (.int .i64 sp) ∧ W.cell? ⟨w.heap.size + 1, 1, none⟩ = some (.int .i64 sl) ∧ W.cell? ⟨w.heap.size + 1, 2, none⟩ = some (.int .i64 sw) from fun W h => ⟨(h.cell (p := ⟨w.heap.size + 1, 0, none⟩) hz).trans z0, (h.cell (p := ⟨w.heap.size + 1, 1, none⟩) hz).trans z1, (h.cell (p := ⟨w.heap.size + 1, 2, none⟩) hz).trans z2⟩)
  have HAll := Lib.hid (c_refall (n := m) (hv.below hba) h hm)
  have HDx := Lib.hid (show ∀ x : Ro, (∃ ao n cap, x.2 = .slice ao n cap) → ∀ W, RowKit.Below Wa.heap.size Wa W → Calls Tryz.prog 74 #[.agg #[.slice o1 n1 k1, .slice o2 n2 k2, .slice o3 n3 k3], vM x, .agg #[.int .i64 sp, .int .i64 sl, .int .i64 sw]] W (RetB (F x) W) from fun x hx W hW => by
    rw [hF]
    exact refdead_any (n := m) x ⟨sp, sl, sw⟩ (hv.below (below_then hba (Nat.le_refl _) hW)) h (by omega) hx)
  have HFF := Lib.hid hF
  have HPa := Lib.hid hPa
  have HBa := Lib.hid hba
  have HW := Lib.hid hWa
  clear hl hv hF h hm hba hPa hWa z0 z1 z2
  unfold vS
  simp only []
  go_enter Tryz.func33, Tryz.ntmps33
  go_upto_region 1 with fail
  rw [← HW.out]
  clear HW
  obtain ⟨-, p0, p1, p2, -⟩ := HPa.out
  go_wp2_with fail
  refine HAll.out.mono ?_
  rintro e W0 ⟨v1, rfl, ⟨R, hR, hd⟩, hb0⟩
  obtain ⟨bo, bc, rfl, -, -⟩ := hd.form
  have hl1 : R.length ≤ 90000 := by have h1 := congrArg List.length hR; rw [List.length_map] at h1; omega
  obtain ⟨n, hN⟩ : ∃ n, n = R.length := ⟨_, rfl⟩
  obtain ⟨Q, hQ⟩ : ∃ Q, Q = R.filter F := ⟨_, rfl⟩
  have HLQ := Lib.hid (show Q.map (·.1) = deadsF c ⟨sp, sl, sw⟩ by rw [hQ]; unfold deadsF; rw [← hR, List.filter_map, HFF.out]; rfl)
  rw [← hN] at hd hl1 ⊢
  have HV := Lib.hid hd
  have HQ := Lib.hid hQ
  have HN := Lib.hid hN
  have HP := Lib.hid (HPa.out.below hb0)
  have HZ := Lib.hid (fun W (h : RowKit.Below W0.heap.size W0 W) => HZa.out W (below_then hb0 (Nat.le_refl _) h))
  replace HDx := Lib.hid (fun (x : Ro) (hx : ∃ ao n cap, x.2 = .slice ao n cap) W (h : RowKit.Below W0.heap.size W0 W) => HDx.out x hx W (below_then hb0 (Nat.le_refl _) h))
  have HBw := Lib.hid (below_then HBa.out (Nat.le_refl _) hb0)
  have hz := Nat.lt_of_lt_of_le hz hb0.size
  clear hR hd hN hQ hb0 p0 p1 p2 HPa HZa HAll HBa HFF hln
  have HBase := HBw
  have HB0 := Lib.hid (Below.refl W0.heap.size W0)
  go_wp2_with fail
  go_loopw [5, 7] (fun ov iv wr => ∃ (k on : Nat) (out : List Ro), k ≤ n ∧ iv = .int .i64 k ∧ Hid (out ++ (R.drop k).filter F = Q) ∧ Hid (on = out.length) ∧ on ≤ k ∧ Hid (wr.ownsRow W0.heap.size 29 10 ov on (out.flatMap enM)) ∧ Hid (RowKit.Below W0.heap.size W0 wr)) (fun _ iv _ => n - (intOf iv).toNat)
  case atStart => exact ⟨0, 0, [], by omega, rfl, Lib.hid (by rw [HQ.out]; rfl), Lib.hid rfl, by simp, Lib.hid (World.ownsRow_nil _ _ _ _), Lib.hid (Below.refl _ _)⟩
  case round =>
    obtain ⟨k, on, out, hk, rfl, hput, hol2, hol, hown, hl⟩ := hrel
    have HBW := Lib.hid (below_then HB0.out (Nat.le_refl _) hl.out)
    by_cases hlt : k < n
    · have hkr : k < R.length := by have := HN.out; omega
      obtain ⟨x, hx⟩ : ∃ x, R[k]? = some x := ⟨_, List.getElem?_eq_getElem hkr⟩
      have hxe : R[k] = x := (List.getElem?_eq_some_iff.1 hx).2
      have hxm := List.mem_of_getElem? hx
      have hxo := (HV.out.below HBW.out).over x hxm
      obtain ⟨xb, xoff, hao, hat⟩ := (HV.out.below HBW.out).at_ hx
      cases hao
      have hst := hput.out
      rw [List.drop_eq_getElem_cons hkr, hxe] at hst
      have HXO := Lib.hid hxo
      obtain ⟨xo, xc, ex, -, -⟩ := Over.form hxo
      obtain ⟨D, hD⟩ : ∃ D, D = F x := ⟨_, rfl⟩
      have HTX := Lib.hid (fun W (hW : RowKit.Below W0.heap.size W0 W) => HDx.out x ⟨_, _, _, ex⟩ W hW)
      rw [← hD] at HTX
      rw [List.filter_cons, ← hD] at hst
      clear hD hput hx hxe hxo hxm
      have HAT := Lib.hid hat
      clear hat
      obtain ⟨⟨at1, ak1, akey1, afin1, aval1, aex1, ⟨ap1, al1, aw1⟩, aov1⟩, av1⟩ := x
      simp only [] at ex
      obtain ⟨xn, hxn⟩ : ∃ k, k = aov1.length := ⟨_, rfl⟩
      rw [← hxn] at ex
      subst ex
      clear hxn
      unfold vM at HTX
      simp only [] at HTX
      have HST := Lib.hid hst
      clear hst
      obtain ⟨hbl, a0, a1, a2, a3, a4, a5, a6, a7, a8, a9⟩ := HAT.out
      simp only [] at a0 a1 a2 a3 a4 a5 a6 a7 a8 a9
      obtain ⟨hlc, p0, p1, p2, -⟩ := HP.out.below hl.out
      obtain ⟨z0, z1, z2⟩ := HZ.out wr hl.out
      have hlz : w.heap.size + 1 < wr.heap.size := Nat.lt_of_lt_of_le hz hl.out.size
      have j0 : (0 : Int) ≤ (k : Int) := by omega
      have j1 : (k : Int) < (n : Int) := by omega
      cases D
      · have HS2 := Lib.hid (show out ++ (R.drop (k + 1)).filter F = Q from HST.out)
        go_wp2_with fail
        refine wp_region_calm (by kernel_rfl) (by kernel_rfl) ?_
        repeat (go_big_quiet_step (first
          | (go_at_call 74; exact calm (HTX.out _ (below_then hl.out (Nat.le_refl _) (BW.below _))))))
        refine wpQuiet_nil ?_
        rintro _ ⟨y, rfl⟩
        obtain ⟨W1, hW1⟩ : ∃ W1, W1 = y.at := ⟨_, rfl⟩
        have hz := y.below
        rw [← hW1] at hz ⊢
        have HZ := Lib.hid hz
        clear hW1 y hz
        have HF := Lib.hid (below_then hl.out (Nat.le_refl _) HZ.out)
        have HOi := Lib.hid (row_below hown.out HZ.out)
        clear a0 a1 a2 a3 a4 a5 a6 a7 a8 a9 hbl p0 p1 p2 z0 z1 z2
        go_wp2_with fail
        go_roundw
        case rel => exact ⟨k + 1, on, out, by omega, by go_num, HS2, hol2, by omega, HOi, HF⟩
        case measure => simp [intOf]; omega
      · have HS2 := Lib.hid (show (out ++ [(⟨⟨at1, ak1, akey1, afin1, aval1, aex1, ⟨ap1, al1, aw1⟩, aov1⟩, .slice xo xn xc⟩ : Ro)]) ++ (R.drop (k + 1)).filter F = Q by have h : out ++ ((⟨⟨at1, ak1, akey1, afin1, aval1, aex1, ⟨ap1, al1, aw1⟩, aov1⟩, .slice xo xn xc⟩ : Ro) :: (R.drop (k + 1)).filter F) = Q := HST.out; rw [← h]; simp)
        go_wp2_with fail
        refine wp_region_calm (by kernel_rfl) (by kernel_rfl) ?_
        repeat (go_big_quiet_step (first
          | (go_at_call 74; exact calm (HTX.out _ (below_then hl.out (Nat.le_refl _) (BW.below _))))))
        refine wpQuiet_nil ?_
        rintro _ ⟨y, rfl⟩
        obtain ⟨W1, hW1⟩ : ∃ W1, W1 = y.at := ⟨_, rfl⟩
        have hz := y.below
        rw [← hW1] at hz ⊢
        have HZ := Lib.hid hz
        clear hW1 y hz
        have HF := Lib.hid (below_then hl.out (Nat.le_refl _) HZ.out)
        have HOi := Lib.hid (row_below hown.out HZ.out)
        clear a0 a1 a2 a3 a4 a5 a6 a7 a8 a9 hbl p0 p1 p2 z0 z1 z2
        have HA1 := Lib.hid (HAT.out.below HZ.out)
        have HX1 := Lib.hid (HXO.out.below HZ.out)
        obtain ⟨hbl, a0, a1, a2, a3, a4, a5, a6, a7, a8, a9⟩ := HA1.out
        simp only [] at a0 a1 a2 a3 a4 a5 a6 a7 a8 a9
        have hsz := HF.out.size
        go_wp2_with (at_builtin; refine wpList_append_rows rfl (.tmp 23) (.tmp 28) rfl W0.heap.size u5 on _ rfl (HOi.out.alloc _) (some ⟨W1.heap.size, 0, none⟩) 1 1 [(⟨⟨at1, ak1, akey1, afin1, aval1, aex1, ⟨ap1, al1, aw1⟩, aov1⟩, .slice xo xn xc⟩ : Ro)] rfl (one_row HX1.out) (by omega) (by simp; omega) ?_)
        intro v4 w4 hown4 hgr4
        have HO4 := Lib.hid (show w4.ownsRow W0.heap.size 29 10 v4 (on + 1) ((out ++ [(⟨⟨at1, ak1, akey1, afin1, aval1, aex1, ⟨ap1, al1, aw1⟩, aov1⟩, .slice xo xn xc⟩ : Ro)]).flatMap enM) by rw [List.flatMap_append]; exact hown4)
        have HB4 := Lib.hid ((HF.out.alloc hsz _).grown hgr4 (by simp; omega) (fun k hk => (HOi.out.lt k hk).1))
        clear hown4 hgr4 a0 a1 a2 a3 a4 a5 a6 a7 a8 a9
        go_wp2_with fail
        go_roundw
        case rel => exact ⟨k + 1, on + 1, _, by omega, by go_num, HS2, Lib.hid (by have := hol2.out; simp; omega), by omega, HO4, HB4⟩
        case measure => simp [intOf]; omega
    · obtain rfl : k = n := by omega
      have HQ2 := Lib.hid (show out = Q by have h := hput.out; rw [List.drop_of_length_le (by have := HN.out; omega)] at h; simpa using h)
      have HSUB := Lib.hid (show ∀ y ∈ Q, y ∈ R from fun y hy => by rw [HQ.out] at hy; exact (List.mem_filter.1 hy).1)
      have HMR := Lib.hid (show MRow wr u5 Q from ⟨by rw [← HQ2.out]; exact Lst.owned enM_len (by decide) hol2.out hown.out, fun y hy => (HV.out.over y (HSUB.out y hy)).below HBW.out⟩)
      go_wp2_with fail
      go_ret
      exact ⟨_, rfl, ⟨Q, HLQ.out, HMR.out⟩, below_then HBase.out (Nat.le_refl _) hl.out⟩
end Go.Proofs.YtgcfhlleaekgfaaGreatDoor.Mut
