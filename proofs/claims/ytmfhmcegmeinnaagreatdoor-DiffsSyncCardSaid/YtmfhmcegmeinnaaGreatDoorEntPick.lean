/- diffs.Pick (layer 36): the mutations of a content whose entries are in a rising row. -/
import Derived.Test.YtmfhmcegmeinnaaGreatDoorEntBs
set_option linter.unusedSimpArgs false
set_option linter.unusedVariables false
namespace Go.Proofs.YtmfhmcegmeinnaaGreatDoor.Mut
open Go.RowKit Go.Sort Go.Proofs.YtmfhmcegmeinnaaGreatDoor.Ord Go.Proofs.YtmfhmcegmeinnaaGreatDoor.RegInv
set_option linter.unusedSectionVars false
variable [Inhabited Lim]

def inR (L : List Diffs.Ent) (m : Mu) : Bool := Diffs.hasE L (Diffs.entOf m)

set_option maxHeartbeats 2000000 in
set_option maxRecDepth 100000 in
theorem ask_pick {lv : Value} {L : List Diffs.Ent} {W0 : World} (kl : Nat) (hv : Diffs.ERow W0 lv L) (hs : Diffs.Srt L) (hn : L.length ≤ 1000000) (hk : kl < W0.heap.size) (f0 : W0.cell? ⟨kl, 0, none⟩ = some lv)
    (w : World) (hW : RowKit.Below W0.heap.size W0 w) (row : Option Nat) (hrow : ∀ k, row = some k → W0.heap.size ≤ k) : Asks w row 82 #[.pointer (some ⟨kl, 0, none⟩)] (fun x => !inR L x) := by
  intro x w1 hg hx
  have hb1 : RowKit.Below W0.heap.size W0 w1 := hW.grown hg hW.size hrow
  have HD := Lib.hid (fun W (h1 : RowKit.Below w1.heap.size w1 W) => Diffs.bs_any lv L (Diffs.entOf x.1) W (Lst.below hv (below_then hb1 (Nat.le_refl _) h1)) hs hn)
  have hkc : kl < w1.heap.size := Nat.lt_of_lt_of_le hk hb1.size
  have z0 := (hb1.cell (p := ⟨kl, 0, none⟩) hk).trans f0
  simp only []
  obtain ⟨Q, hQ⟩ : ∃ Q, Q = inR L x.1 := ⟨_, rfl⟩
  have hQ2 : Diffs.hasE L (Diffs.entOf x.1) = Q := hQ.symm
  rw [hQ2] at HD
  rw [← hQ]
  obtain ⟨ao, cap, rfl, -, -⟩ := Lst.form hv
  clear hQ hQ2 hv hs hn hk f0 hW hrow hg hb1
  obtain ⟨xo, xn, xc, ex⟩ := hx
  obtain ⟨⟨at1, ak1, akey1, afin1, aval1, aex1, ⟨ap1, al1, aw1⟩, aov1⟩, av1⟩ := x
  simp only [] at ex
  subst ex
  unfold Diffs.entOf at HD
  unfold vM
  simp only [] at HD z0 ⊢
  obtain ⟨nl, hnl⟩ : ∃ n, n = L.length := ⟨_, rfl⟩
  rw [← hnl] at HD z0
  clear hnl
  go_enter Tryz.func82, Tryz.ntmps82
  have hB := Lib.hid ((Below.refl _ w1).alloc (Nat.le_refl _) (.cells #[.int .i64 at1, .int .i64 ak1, .string akey1, .string afin1, .string aval1, .int .i64 aex1, .int .i64 ap1, .int .i64 al1, .int .i64 aw1, .slice xo xn xc] 51))
  go_wp2_with fail
  refine (HD.out _ hB.out).mono ?_
  rintro e w2 ⟨i, rfl, hb⟩
  have HB := Lib.hid (below_then hB.out (Nat.le_refl _) hb)
  clear hb
  go_wp2_with fail
  go_ret
  exact ⟨rfl, HB.out⟩

set_option maxHeartbeats 2000000 in
set_option maxRecDepth 100000 in
theorem c_pick {c : Con} {n : Nat} {v lv : Value} {L : List Diffs.Ent} {w : World} (hv : IsC c v w) (h : Good c n) (hn : n ≤ 100000) (hL : Diffs.ERow w lv L) (hs : Diffs.Srt L) (hl : L.length ≤ 1000000) :
    Calls Tryz.prog 35 #[v, lv] w (RetR ((allF c).filter fun m => inR L m) w) := by
  obtain ⟨o1, n1, k1, o2, n2, k2, o3, n3, k3, rfl, hlc⟩ := hv.form
  obtain ⟨ao, cap, rfl, -, -⟩ := Lst.form hL
  obtain ⟨nl, hnl⟩ : ∃ n, n = L.length := ⟨_, rfl⟩
  rw [← hnl] at hL ⊢
  obtain ⟨W0, hW0⟩ : ∃ W0, W0 = (w.alloc (.cells #[.slice o1 n1 k1, .slice o2 n2 k2, .slice o3 n3 k3] 28)).alloc (.cells #[.slice ao nl cap] 65) := ⟨_, rfl⟩
  have hb0 : RowKit.Below w.heap.size w W0 := by rw [hW0]; exact ((Below.refl _ w).alloc (Nat.le_refl _) _).alloc (by simp) _
  have hP : C3 W0 w.heap.size (.slice o1 n1 k1) (.slice o2 n2 k2) (.slice o3 n3 k3) := by
    rw [hW0]
    exact (C3.new w _ _ _).below ((Below.refl _ _).alloc (Nat.le_refl _) _)
  have hz : w.heap.size + 1 < W0.heap.size := by rw [hW0]; simp
  have z0 : W0.cell? ⟨w.heap.size + 1, 0, none⟩ = some (.slice ao nl cap) := by rw [hW0]; go_simp
  have hlen := len_allF c
  have hO := h.okc.len
  have HC := Lib.hid (c_all (n := n) (hv.below hb0) h hn)
  have HD := Lib.hid (fun (W : World) (hW : RowKit.Below W0.heap.size W0 W) (g cap : Nat) (R1 : List Ro) (hcp : Copied W (.slice (some ⟨g, 0, none⟩) R1.length cap) R1 W0.heap.size) (hl1 : R1.length ≤ 100000) =>
    delete_any W0.heap.size (.slice (some ⟨g, 0, none⟩) R1.length cap) R1 82 #[.pointer (some ⟨w.heap.size + 1, 0, none⟩)] (fun x => !inR L x) W hcp.row hcp.mrow.forms (by omega)
      (ask_pick (w.heap.size + 1) (Lst.below hL hb0) hs hl hz z0 W hW _ (fun k hk => (hcp.row.lt k hk).1))
      (enters_of Tryz.func82 (by kernel_rfl) rfl))
  have HLN := Lib.hid (And.intro hlen hO)
  have HB0 := Lib.hid hb0
  have HP := Lib.hid hP
  have HW := Lib.hid hW0
  clear hlc hv hb0 hz hP hW0 h hlen hO z0 hL hs hl hnl
  go_enter Tryz.func35, Tryz.ntmps35
  go_upto_region 1 with fail
  rw [← HW.out]
  clear HW
  obtain ⟨-, p0, p1, p2, -⟩ := HP.out
  go_wp2_with fail
  refine HC.out.mono ?_
  rintro e w1 ⟨g, cap1, R1, rfl, hcp, hm, hb⟩
  have hl1 : R1.length ≤ 100000 := by have h1 := congrArg List.length hm; rw [List.length_map] at h1; have := HLN.out; omega
  have HD1 := Lib.hid (HD.out w1 hb g cap1 R1 hcp hl1)
  obtain ⟨m, hM⟩ : ∃ m, m = R1.length := ⟨_, rfl⟩
  rw [← hM] at HD1 ⊢
  have HQ := Lib.hid (And.intro hm (And.intro hcp (And.intro hM hb)))
  clear hm hcp hb hl1 HC HD p0 p1 p2 hM
  go_wp2_with fail
  refine HD1.out.mono ?_
  rintro e w2 ⟨v2, rfl, ho, hg, -⟩
  have hb2 : RowKit.Below W0.heap.size W0 w2 := HQ.out.2.2.2.grown hg HQ.out.2.2.2.size (fun k hk => (HQ.out.2.1.row.lt k (by rw [HQ.out.2.2.1] at hk; exact hk)).1)
  have hmr := HQ.out.2.1.filtered (K := R1.filter fun x => !!(inR L x.1)) (fun x hx => (List.mem_filter.1 hx).1) ho (by rw [← HQ.out.2.2.1]; exact hg)
  have HF := Lib.hid (And.intro hmr (below_then HB0.out (Nat.le_refl _) hb2))
  clear ho hg hmr hb2
  go_wp2_with fail
  go_ret
  refine ⟨_, rfl, ⟨_, ?_, HF.out.1⟩, HF.out.2⟩
  rw [← HQ.out.1, List.filter_map]
  simp only [Bool.not_not]
  rfl
end Go.Proofs.YtmfhmcegmeinnaaGreatDoor.Mut
