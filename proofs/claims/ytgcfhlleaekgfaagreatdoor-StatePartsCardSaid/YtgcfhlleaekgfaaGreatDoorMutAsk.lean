/- The closures of state.Covered and state.wipe (layer 8), as questions. -/
import Derived.Test.YtgcfhlleaekgfaaGreatDoorMutRight
import Derived.Test.YtgcfhlleaekgfaaGreatDoorMutDel
namespace Go.Proofs.YtgcfhlleaekgfaaGreatDoor.Mut
open Go.RowKit Go.Sort Go.Proofs.YtgcfhlleaekgfaaGreatDoor.Ord

theorem A0.grown {w w' : World} {b : Nat} {x : Ro} {row : Option Nat} (h : A0 w b x) (hg : w.grownBy w' row) (hr : row ≠ some b) : A0 w' b x := by
  have hb : w'.heap[b]? = w.heap[b]? := hg.block b h.lt (fun e => hr e.symm)
  have e : ∀ k, w'.cell? ⟨b, k, none⟩ = w.cell? ⟨b, k, none⟩ := fun k => World.cell?_of_block hb
  obtain ⟨h0, h1, h2, h3, h4, h5, h6, h7, h8, h9, h10⟩ := h
  exact ⟨Nat.lt_of_lt_of_le h0 hg.size, (e _).trans h1, (e _).trans h2, (e _).trans h3, (e _).trans h4, (e _).trans h5, (e _).trans h6, (e _).trans h7, (e _).trans h8, (e _).trans h9, (e _).trans h10⟩
def hitsB (w : Mu) (key : ByteArray) (s : Stp) : Bool := coversB w key && decide (stC s w.at_ < 0)
theorem hits_iff (w : Mu) (key : ByteArray) (s : Stp) : hits w key s ↔ hitsB w key s = true := by
  unfold hits hitsB
  rw [covers_iff]
  simp

set_option maxHeartbeats 1000000 in
set_option maxRecDepth 100000 in
theorem ask_wipe1 (m : Ro) (b : Nat) (row : Option Nat) (w : World) (hA : A0 w b m) (hm : ∃ ao n cap, m.2 = .slice ao n cap) (hr : row ≠ some b) :
    Asks w row 92 #[.pointer (some ⟨b, 0, none⟩)] (fun x => withinB x m.1) := by
  intro x w1 hg hx
  obtain ⟨hlt, z0, z1, z2, z3, z4, z5, z6, z7, z8, z9⟩ := hA.grown hg hr
  have HW := Lib.hid (fun W => within_any x m W hx hm)
  simp only []
  obtain ⟨Q, hQ⟩ : ∃ Q, Q = withinB x.1 m.1 := ⟨_, rfl⟩
  rw [← hQ] at HW ⊢
  clear hQ hA hr hg
  obtain ⟨ao, n, cap, e1⟩ := hx
  obtain ⟨bo, bn, bcap, e2⟩ := hm
  obtain ⟨⟨at1, ak1, akey1, afin1, aval1, aex1, ⟨ap1, al1, aw1⟩, aov1⟩, av1⟩ := x
  obtain ⟨⟨at2, ak2, akey2, afin2, aval2, aex2, ⟨ap2, al2, aw2⟩, aov2⟩, av2⟩ := m
  simp only [] at e1 e2 z0 z1 z2 z3 z4 z5 z6 z7 z8 z9
  subst e1 e2
  unfold vM at HW ⊢
  simp only [] at HW ⊢
  go_enter Tryz.func92, Tryz.ntmps92
  go_wp2_with fail
  refine (HW.out _).mono ?_
  rintro e w2 ⟨rfl, hb⟩
  go_wp2_with fail
  go_ret
  exact ⟨rfl, ((Lays.refl _).alloc _ |>.trans hb).below⟩

set_option maxHeartbeats 1000000 in
set_option maxRecDepth 100000 in
theorem ask_wipe2 (m : Ro) (b : Nat) (row : Option Nat) (w : World) (hA : A0 w b m) (hm : ∃ ao n cap, m.2 = .slice ao n cap) (hr : row ≠ some b) :
    Asks w row 94 #[.pointer (some ⟨b, 0, none⟩)] (fun x => withinB m.1 x) := by
  intro x w1 hg hx
  obtain ⟨hlt, z0, z1, z2, z3, z4, z5, z6, z7, z8, z9⟩ := hA.grown hg hr
  have HW := Lib.hid (fun W => within_any m x W hm hx)
  simp only []
  obtain ⟨Q, hQ⟩ : ∃ Q, Q = withinB m.1 x.1 := ⟨_, rfl⟩
  rw [← hQ] at HW ⊢
  clear hQ hA hr hg
  obtain ⟨ao, n, cap, e1⟩ := hx
  obtain ⟨bo, bn, bcap, e2⟩ := hm
  obtain ⟨⟨at1, ak1, akey1, afin1, aval1, aex1, ⟨ap1, al1, aw1⟩, aov1⟩, av1⟩ := x
  obtain ⟨⟨at2, ak2, akey2, afin2, aval2, aex2, ⟨ap2, al2, aw2⟩, aov2⟩, av2⟩ := m
  simp only [] at e1 e2 z0 z1 z2 z3 z4 z5 z6 z7 z8 z9
  subst e1 e2
  unfold vM at HW ⊢
  simp only [] at HW ⊢
  go_enter Tryz.func94, Tryz.ntmps94
  go_wp2_with fail
  refine (HW.out _).mono ?_
  rintro e w2 ⟨rfl, hb⟩
  go_wp2_with fail
  go_ret
  exact ⟨rfl, ((Lays.refl _).alloc _ |>.trans hb).below⟩

set_option maxHeartbeats 2000000 in
set_option maxRecDepth 100000 in
theorem ask_wipe3 (m : Ro) (b : Nat) (row : Option Nat) (w : World) (hA : A0 w b m) (hm : ∃ ao n cap, m.2 = .slice ao n cap) (hr : row ≠ some b) :
    Asks w row 95 #[.pointer (some ⟨b, 0, none⟩)] (fun x => hitsB m.1 x.key x.at_) := by
  intro x w1 hg hx
  have hA1 := Lib.hid (hA.grown hg hr)
  obtain ⟨hlt, z0, z1, z2, z3, z4, z5, z6, z7, z8, z9⟩ := hA1.out
  have HC := Lib.hid (fun W => covers_any m x.1.key W hm)
  have HL := Lib.hid (fun W => stless_any x.1.at_ m.1.at_ W)
  have hfin : hitsB m.1 x.1.key x.1.at_ = (coversB m.1 x.1.key && decide (stC x.1.at_ m.1.at_ < 0)) := rfl
  simp only []
  rw [hfin]
  obtain ⟨Q, hQ⟩ : ∃ Q, Q = coversB m.1 x.1.key := ⟨_, rfl⟩
  obtain ⟨U, hU⟩ : ∃ U, U = decide (stC x.1.at_ m.1.at_ < 0) := ⟨_, rfl⟩
  rw [← hQ] at HC ⊢
  rw [← hU] at HL ⊢
  clear hQ hU hA hr hg hfin
  obtain ⟨ao, n, cap, e1⟩ := hx
  obtain ⟨bo, bn, bcap, e2⟩ := hm
  obtain ⟨⟨at1, ak1, akey1, afin1, aval1, aex1, ⟨ap1, al1, aw1⟩, aov1⟩, av1⟩ := x
  obtain ⟨⟨at2, ak2, akey2, afin2, aval2, aex2, ⟨ap2, al2, aw2⟩, aov2⟩, av2⟩ := m
  simp only [] at e1 e2 z0 z1 z2 z3 z4 z5 z6 z7 z8 z9
  subst e1 e2
  unfold vM at HC ⊢
  simp only [] at HC HL ⊢
  go_enter Tryz.func95, Tryz.ntmps95
  go_wp2_with fail
  have hB := Lib.hid (((Below.refl _ w1).alloc (Nat.le_refl _) (.cells #[.int .i64 at1, .int .i64 ak1, .string akey1, .string afin1, .string aval1, .int .i64 aex1, .int .i64 ap1, .int .i64 al1, .int .i64 aw1, .slice ao n cap] 29)))
  have hN := A0.of (At.new w1 29 (⟨⟨at1, ak1, akey1, afin1, aval1, aex1, ⟨ap1, al1, aw1⟩, aov1⟩, .slice ao n cap⟩ : Ro))
  unfold enM at hN
  simp only [] at hN
  have HM := Lib.hid (hA1.out.below hB.out)
  have HN := Lib.hid hN
  clear hN z0 z1 z2 z3 z4 z5 z6 z7 z8 z9
  refine (HC.out _).mono ?_
  rintro e w2 ⟨rfl, hb⟩
  have HB2 := Lib.hid (below_then hB.out (Nat.le_refl _) hb.below)
  obtain ⟨-, z0, z1, z2, z3, z4, z5, z6, z7, z8, z9⟩ := HM.out.below hb.below
  obtain ⟨-, y0, y1, y2, y3, y4, y5, y6, y7, y8, y9⟩ := HN.out.below hb.below
  simp only [] at z0 z1 z2 z3 z4 z5 z6 z7 z8 z9 y0 y1 y2 y3 y4 y5 y6 y7 y8 y9
  clear hb
  cases Q
  · go_wp2_with fail
    go_ret
    exact ⟨rfl, HB2.out⟩
  · go_wp2_with fail
    refine (HL.out _).mono ?_
    rintro e w3 ⟨rfl, hb⟩
    have HB3 := Lib.hid (below_then HB2.out (Nat.le_refl _) hb.below)
    clear hb
    go_wp2_with fail
    go_ret
    exact ⟨rfl, HB3.out⟩

set_option maxHeartbeats 2000000 in
set_option maxRecDepth 100000 in
theorem ask_cov (key : ByteArray) (s : Stp) (b c : Nat) (row : Option Nat) (w : World) (hb : b < w.heap.size) (hc : c < w.heap.size) (hk : w.cell? ⟨b, 0, none⟩ = some (.string key)) (h0 : w.cell? ⟨c, 0, none⟩ = some (.int .i64 s.p)) (h1 : w.cell? ⟨c, 1, none⟩ = some (.int .i64 s.l)) (h2 : w.cell? ⟨c, 2, none⟩ = some (.int .i64 s.w)) (hr : row ≠ some b) (hrc : row ≠ some c) :
    Asks w row 65 #[.pointer (some ⟨b, 0, none⟩), .pointer (some ⟨c, 0, none⟩)] (fun x => hitsB x key s) := by
  intro x w1 hg hx
  have eb : ∀ k, w1.cell? ⟨b, k, none⟩ = w.cell? ⟨b, k, none⟩ := fun k => World.cell?_of_block (hg.block b hb (fun e => hr e.symm))
  have ec : ∀ k, w1.cell? ⟨c, k, none⟩ = w.cell? ⟨c, k, none⟩ := fun k => World.cell?_of_block (hg.block c hc (fun e => hrc e.symm))
  have hb1 : b < w1.heap.size := Nat.lt_of_lt_of_le hb hg.size
  have hc1 : c < w1.heap.size := Nat.lt_of_lt_of_le hc hg.size
  have k0 := (eb 0).trans hk
  have s0 := (ec 0).trans h0
  have s1 := (ec 1).trans h1
  have s2 := (ec 2).trans h2
  have HC := Lib.hid (fun W => covers_any x key W hx)
  have HL := Lib.hid (fun W => stless_any s x.1.at_ W)
  have hfin : hitsB x.1 key s = (coversB x.1 key && decide (stC s x.1.at_ < 0)) := rfl
  simp only []
  rw [hfin]
  obtain ⟨Q, hQ⟩ : ∃ Q, Q = coversB x.1 key := ⟨_, rfl⟩
  obtain ⟨U, hU⟩ : ∃ U, U = decide (stC s x.1.at_ < 0) := ⟨_, rfl⟩
  rw [← hQ] at HC ⊢
  rw [← hU] at HL ⊢
  clear hQ hU hr hrc hg hfin eb ec hk h0 h1 h2
  obtain ⟨ao, n, cap, e1⟩ := hx
  obtain ⟨⟨at1, ak1, akey1, afin1, aval1, aex1, ⟨ap1, al1, aw1⟩, aov1⟩, av1⟩ := x
  obtain ⟨sp, sl, sw⟩ := s
  simp only [] at e1 s0 s1 s2
  subst e1
  unfold vM at HC ⊢
  simp only [] at HC HL ⊢
  go_enter Tryz.func65, Tryz.ntmps65
  go_wp2_with fail
  have hB := Lib.hid (((Below.refl _ w1).alloc (Nat.le_refl _) (.cells #[.int .i64 at1, .int .i64 ak1, .string akey1, .string afin1, .string aval1, .int .i64 aex1, .int .i64 ap1, .int .i64 al1, .int .i64 aw1, .slice ao n cap] 29)))
  have hN := A0.of (At.new w1 29 (⟨⟨at1, ak1, akey1, afin1, aval1, aex1, ⟨ap1, al1, aw1⟩, aov1⟩, .slice ao n cap⟩ : Ro))
  unfold enM at hN
  simp only [] at hN
  have HN := Lib.hid hN
  clear hN
  refine (HC.out _).mono ?_
  rintro e w2 ⟨rfl, hb⟩
  have hbb := below_then hB.out (Nat.le_refl _) hb.below
  have HB2 := Lib.hid hbb
  have t0 := (hbb.cell (p := ⟨c, 0, none⟩) hc1).trans s0
  have t1 := (hbb.cell (p := ⟨c, 1, none⟩) hc1).trans s1
  have t2 := (hbb.cell (p := ⟨c, 2, none⟩) hc1).trans s2
  obtain ⟨-, y0, y1, y2, y3, y4, y5, y6, y7, y8, y9⟩ := HN.out.below hb.below
  simp only [] at y0 y1 y2 y3 y4 y5 y6 y7 y8 y9
  clear hb hbb s0 s1 s2 k0
  cases Q
  · go_wp2_with fail
    go_ret
    exact ⟨rfl, HB2.out⟩
  · go_wp2_with fail
    refine (HL.out _).mono ?_
    rintro e w3 ⟨rfl, hb⟩
    have HB3 := Lib.hid (below_then HB2.out (Nat.le_refl _) hb.below)
    clear hb
    go_wp2_with fail
    go_ret
    exact ⟨rfl, HB3.out⟩
end Go.Proofs.YtgcfhlleaekgfaaGreatDoor.Mut
