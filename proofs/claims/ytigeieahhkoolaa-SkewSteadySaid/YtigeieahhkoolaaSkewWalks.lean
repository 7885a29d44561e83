/- The walks of layer 41 (skew): the program's Rates. -/
import Derived.Test.YtigeieahhkoolaaBase
import Derived.Test.YtigeieahhkoolaaSkewPlain
import Derived.BigRegion
import Derived.ChangeAlike
namespace Go.Proofs.Ytigeieahhkoolaa.Skew
open Go.RowKit

/-- The block of a Rates. -/
def Rts (w : World) (R : Nat) (g : Nat → Int) : Prop := w.rowIs R 94 56 (fun i => .int .i64 (g i))
theorem Rts.cell {w : World} {R : Nat} {g : Nat → Int} (h : Rts w R g) {i : Nat} (hi : i < 56) : w.cell? ⟨R, i, none⟩ = some (.int .i64 (g i)) := World.rowIs.cell h hi
theorem Rts.set {w : World} {R : Nat} {g : Nat → Int} (h : Rts w R g) (i : Nat) (v : Int) : Rts (w.setCell ⟨R, i, none⟩ (.int .i64 v)) R (upd g i v) :=
  (World.rowIs.set h i (.int .i64 v)).congr fun j _ => by unfold upd; split <;> rfl
theorem Rts.drew {w : World} {R : Nat} {g : Nat → Int} (h : Rts w R g) : Rts w.drew R g := h
theorem Rts.drewN {w : World} {R : Nat} {g : Nat → Int} (h : Rts w R g) (n : Nat) : Rts (w.drewN n) R g := h
theorem Rts.frozen {w : World} {R : Nat} {g : Nat → Int} (h : Rts w R g) (i : Nat) : w.frozen? ⟨R, i, none⟩ = false := World.rowIs.frozen h i

set_option maxRecDepth 100000 in
set_option maxHeartbeats 1000000 in
theorem go_any (R nd : Nat) (n : Int) (g : Nat → Int) (w : World) (hg : Rts w R g) (hn : nd < 5) (n0 : 0 ≤ n) (n1 : n ≤ 64) (hb : ∀ i, 1 ≤ i → 0 ≤ g i ∧ g i ≤ 100000) (h2 : g 0 = 2) :
    Calls Try.prog 44 #[.pointer (some ⟨R, 0, none⟩), .agg #[.int .i64 nd, .int .i64 n]] w fun e w' => e = .returned (.tuple #[]) ∧ Rts w' R (goF g nd n) ∧ w.grownBy w' (some R) := by
  have hR := World.rowIs.lt hg
  have H2 := Lib.hid h2
  clear h2
  have s0 : w.cell? ⟨R, 51 + nd, none⟩ = some (.int .i64 (g (51 + nd))) := hg.cell (by omega)
  have sf : w.frozen? ⟨R, 51 + nd, none⟩ = false := hg.frozen _
  have sb := hb (51 + nd) (by omega)
  have m1 : max n 0 = n := by omega
  have m2 : min n 1099511627776 = n := by omega
  have m3 : min n (1125899906842624 - g (51 + nd)) = n := by omega
  go_enter Try.func44, Try.ntmps44
  go_wp2_with fail
  go_quiet (fail)
  go_wp2_with fail
  go_region
  go_wp2_with fail
  have HG0 : Rts (((w.alloc (Obj.cells #[Value.int IntKind.i64 ↑nd, Value.int IntKind.i64 n] 86)).drewN (nq + 1)).setCell ⟨R, 51 + nd, none⟩ (Value.int IntKind.i64 (g (51 + nd) + n))) R (many g nd n 0) :=
    Rts.set (Rts.drewN (World.rowIs.alloc hg _) _) _ _
  have HB0 : (((w.alloc (Obj.cells #[Value.int IntKind.i64 ↑nd, Value.int IntKind.i64 n] 86)).drewN (nq + 1)).setCell ⟨R, 51 + nd, none⟩ (Value.int IntKind.i64 (g (51 + nd) + n))).cell? ⟨w.heap.size, 0, none⟩ = some (.int .i64 nd) := by
    go_simp
  have HW0 : w.grownBy (((w.alloc (Obj.cells #[Value.int IntKind.i64 ↑nd, Value.int IntKind.i64 n] 86)).drewN (nq + 1)).setCell ⟨R, 51 + nd, none⟩ (Value.int IntKind.i64 (g (51 + nd) + n))) (some R) :=
    grown_setCell (grown_drewN (grown_alloc (World.grownBy.refl _ _) _) _) (Or.inl rfl) _
  go_loopw [39] (fun iv wr => ∃ o : Nat, o ≤ 5 ∧ iv = .int .i64 o ∧ Rts wr R (many g nd n o) ∧ wr.cell? ⟨w.heap.size, 0, none⟩ = some (.int .i64 nd) ∧ w.grownBy wr (some R)) (fun iv _ => 5 - (intOf iv).toNat)
  case atStart => exact ⟨0, by omega, rfl, HG0, HB0, HW0⟩
  case round =>
    obtain ⟨o, ho, rfl, hr, hbox, hgr⟩ := hrel
    clear HG0 HB0 HW0 s0 sf
    by_cases hlt : o < 5
    · by_cases heq : o = nd
      · subst heq
        clear hb m1 m2 m3 sb hg
        have HR := Lib.hid hr
        clear hr
        go_wp2
        go_roundw
        case rel => exact ⟨o + 1, by omega, by go_num, by unfold many one; rw [if_pos rfl]; exact HR.out, hbox, hgr⟩
        case measure => simp [intOf]; omega
      · have hne : ((o : Int) == (nd : Int)) = false := by simp; omega
        have e1 : many g nd n o (1 + (nd * 5 + o)) = g (1 + (nd * 5 + o)) := by rw [many_most _ _ _ _ _ _ hn ho hn hlt]; simp (disch := omega) only [if_neg, if_pos]
        have e2 : many g nd n o (26 + (nd * 5 + o)) = g (26 + (nd * 5 + o)) := by rw [many_ever _ _ _ _ _ _ hn ho hn hlt]; simp (disch := omega) only [if_neg, if_pos]
        have e3 : many g nd n o (1 + (o * 5 + nd)) = g (1 + (o * 5 + nd)) := by rw [many_most _ _ _ _ _ _ hn ho hlt hn]; simp (disch := omega) only [if_neg, if_pos]
        have e0 : many g nd n o 0 = 2 := by rw [many_zero, H2.out]
        obtain ⟨G, hG⟩ : ∃ G, G = many g nd n o := ⟨_, rfl⟩
        have hstep : many g nd n (o + 1) = one G nd n o := by rw [hG]; rfl
        have b1 := hb (1 + (nd * 5 + o)) (by omega)
        have b2 := hb (26 + (nd * 5 + o)) (by omega)
        have b3 := hb (1 + (o * 5 + nd)) (by omega)
        rw [← e1, ← hG] at b1
        rw [← e2, ← hG] at b2
        rw [← e3, ← hG] at b3
        rw [← hG] at e0 hr
        have HS := Lib.hid hstep
        have E0 := Lib.hid e0
        have HNE := Lib.hid heq
        clear hstep e0 e1 e2 e3 hG hb heq hg
        have c1 : wr.cell? ⟨R, 1 + nd * 5 + o, none⟩ = some (.int .i64 (G (1 + (nd * 5 + o)))) := by rw [Nat.add_assoc]; exact hr.cell (by omega)
        have f1 : wr.frozen? ⟨R, 1 + nd * 5 + o, none⟩ = false := hr.frozen _
        have b1' := b1
        go_wp2_with fail
        go_region
        go_wp2_with fail
        have hr1 : Rts ((wr.setCell ⟨R, 1 + nd * 5 + o, none⟩ (.int .i64 (G (1 + (nd * 5 + o)) + n))).drew) R (upd G (1 + (nd * 5 + o)) (G (1 + (nd * 5 + o)) + n)) := by
          rw [Nat.add_assoc]; exact Rts.drew (Rts.set hr _ _)
        have hbox1 : ((wr.setCell ⟨R, 1 + nd * 5 + o, none⟩ (.int .i64 (G (1 + (nd * 5 + o)) + n))).drew).cell? ⟨w.heap.size, 0, none⟩ = some (.int .i64 nd) := by
          rw [← hbox]; exact World.cell?_setCell_other _ _ _ _ (by intro h; injection h with h1 _; omega)
        have hgr1 : w.grownBy ((wr.setCell ⟨R, 1 + nd * 5 + o, none⟩ (.int .i64 (G (1 + (nd * 5 + o)) + n))).drew) (some R) := grown_drew (grown_setCell hgr (Or.inl rfl) _)
        generalize (wr.setCell ⟨R, 1 + nd * 5 + o, none⟩ (.int .i64 (G (1 + (nd * 5 + o)) + n))).drew = w1 at *
        obtain ⟨G1, hG1⟩ : ∃ G1, G1 = upd G (1 + (nd * 5 + o)) (G (1 + (nd * 5 + o)) + n) := ⟨_, rfl⟩
        rw [← hG1] at hr1
        have k1 : G1 (1 + (nd * 5 + o)) = G (1 + (nd * 5 + o)) + n := by rw [hG1]; unfold upd; rw [if_pos rfl]
        have k2 : G1 (26 + (nd * 5 + o)) = G (26 + (nd * 5 + o)) := by rw [hG1]; unfold upd; rw [if_neg (by omega)]
        have k3 : G1 (1 + (o * 5 + nd)) = G (1 + (o * 5 + nd)) := by rw [hG1]; unfold upd; rw [if_neg (by have := HNE.out; omega)]
        have k0 : G1 0 = 2 := by rw [hG1]; unfold upd; rw [if_neg (by omega)]; exact E0.out
        have d1 : w1.cell? ⟨R, 1 + nd * 5 + o, none⟩ = some (.int .i64 (G1 (1 + (nd * 5 + o)))) := by rw [Nat.add_assoc]; exact hr1.cell (by omega)
        have d2 : w1.cell? ⟨R, 26 + nd * 5 + o, none⟩ = some (.int .i64 (G1 (26 + (nd * 5 + o)))) := by rw [Nat.add_assoc]; exact hr1.cell (by omega)
        have f2 : w1.frozen? ⟨R, 26 + nd * 5 + o, none⟩ = false := hr1.frozen _
        rw [← k2] at b2
        rw [← k3] at b3
        have HG1 := Lib.hid hG1
        have K0 := Lib.hid k0
        clear hG1 k0 k1 k2 k3 c1 f1 b1 b1' hr hbox hgr m1 m2 m3 sb
        go_region
        go_wp2_with fail
        have hr2 : Rts ((w1.setCell ⟨R, 26 + nd * 5 + o, none⟩ (.int .i64 (max (G1 (26 + (nd * 5 + o))) (G1 (1 + (nd * 5 + o)))))).drew) R (upd G1 (26 + (nd * 5 + o)) (max (G1 (26 + (nd * 5 + o))) (G1 (1 + (nd * 5 + o))))) := by
          rw [Nat.add_assoc]; exact Rts.drew (Rts.set hr1 _ _)
        have hbox2 : ((w1.setCell ⟨R, 26 + nd * 5 + o, none⟩ (.int .i64 (max (G1 (26 + (nd * 5 + o))) (G1 (1 + (nd * 5 + o)))))).drew).cell? ⟨w.heap.size, 0, none⟩ = some (.int .i64 nd) := by
          rw [← hbox1]; exact World.cell?_setCell_other _ _ _ _ (by intro h; injection h with h1 _; omega)
        have hgr2 : w.grownBy ((w1.setCell ⟨R, 26 + nd * 5 + o, none⟩ (.int .i64 (max (G1 (26 + (nd * 5 + o))) (G1 (1 + (nd * 5 + o)))))).drew) (some R) := grown_drew (grown_setCell hgr1 (Or.inl rfl) _)
        generalize (w1.setCell ⟨R, 26 + nd * 5 + o, none⟩ (.int .i64 (max (G1 (26 + (nd * 5 + o))) (G1 (1 + (nd * 5 + o)))))).drew = w2 at *
        obtain ⟨G2, hG2⟩ : ∃ G2, G2 = upd G1 (26 + (nd * 5 + o)) (max (G1 (26 + (nd * 5 + o))) (G1 (1 + (nd * 5 + o)))) := ⟨_, rfl⟩
        rw [← hG2] at hr2
        have k3 : G2 (1 + (o * 5 + nd)) = G1 (1 + (o * 5 + nd)) := by rw [hG2]; unfold upd; rw [if_neg (by omega)]
        have k0 : G2 0 = 2 := by rw [hG2]; unfold upd; rw [if_neg (by omega)]; exact K0.out
        rw [← k3] at b3
        have d0 : w2.cell? ⟨R, 0, none⟩ = some (.int .i64 2) := by rw [← k0]; exact hr2.cell (by omega)
        have d3 : w2.cell? ⟨R, 1 + o * 5 + nd, none⟩ = some (.int .i64 (G2 (1 + (o * 5 + nd)))) := by rw [Nat.add_assoc]; exact hr2.cell (by omega)
        have f3 : w2.frozen? ⟨R, 1 + o * 5 + nd, none⟩ = false := hr2.frozen _
        have HG2 := Lib.hid hG2
        have K2 := Lib.hid k0
        clear hG2 k0 k3 d1 d2 f2 b2 hr1 hbox1 hgr1
        go_region
        go_wp2_with fail
        go_roundw
        case rel =>
          refine ⟨o + 1, by omega, by go_num, ?_, ?_, grown_drew (grown_setCell hgr2 (Or.inl rfl) _)⟩
          · rw [HS.out]
            unfold one
            rw [if_neg HNE.out]
            simp only
            rw [← HG1.out, ← HG2.out, K2.out, Nat.add_assoc]
            exact Rts.drew (Rts.set hr2 _ _)
          · rw [← hbox2]; exact World.cell?_setCell_other _ _ _ _ (by intro h; injection h with h1 _; omega)
        case measure => simp [intOf]; omega
    · go_wp2
      go_end0
      obtain rfl : o = 5 := by omega
      exact ⟨rfl, hr, hgr⟩
end Go.Proofs.Ytigeieahhkoolaa.Skew
