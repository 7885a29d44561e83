/- mut.get: a stamp out of a reader (layers 3, 7). -/
import Derived.Test.YtemckpmedjennaaGreatDoorRdText
set_option linter.unusedSimpArgs false
set_option linter.unusedVariables false
namespace Go.Proofs.YtemckpmedjennaaGreatDoor.Rd
open Go.RowKit Go.Proofs.YtemckpmedjennaaGreatDoor.Mrk

/-- A stamp's three numbers, the reader behind them. -/
def getS (B : List Nat) (s : S) : (Nat × Nat × Nat) × S := (((numS B s).1, (numS B (numS B s).2).1, (numS B (numS B (numS B s).2).2).1), (numS B (numS B (numS B s).2).2).2)
theorem below_grown {w w' : World} {row : Option Nat} (h : Below w.heap.size w w') : w.grownBy w' row := ⟨h.os, h.tape, h.output, h.size, fun k hk _ => h.block k hk⟩

theorem Rdr.vlow {w : World} {r : Nat} {v : Value} {B : List Nat} {s : S} (h : Rdr w r v B s) (hB : B ≠ []) : ∀ ad n c, v = .slice (some ad) n c → ad.block < w.heap.size := fun ad n c e => by
  obtain ⟨ao, cap, e1, -, -, h3⟩ := h.row
  rcases h3 with h3 | ⟨g, off, e2, hg, -⟩
  · exact absurd (List.eq_nil_of_length_eq_zero h3) hB
  · subst e2
    rw [e1] at e
    cases e
    exact hg
theorem lst_beside {α : Type} {sz : Nat} {en : α → List Value} {w w' : World} {v : Value} {l : List α} {k : Nat} (h : Lst sz en w v l) (hg : w.grownBy w' (some k)) (hf : l ≠ [] → ∀ ad n c, v = .slice (some ad) n c → ad.block ≠ k) : Lst sz en w' v l := by
  obtain ⟨ao, cap, e1, h1, h2, h3⟩ := h
  by_cases hl : l = []
  · exact ⟨ao, cap, e1, h1, h2, Or.inl (by rw [hl]; rfl)⟩
  refine ⟨ao, cap, e1, h1, h2, h3.imp id ?_⟩
  rintro ⟨g, off, e2, hb, hc⟩
  subst e2
  have hne := hf hl ⟨g, off, none⟩ _ _ e1
  have hbl := hg.block g hb (fun e => hne (by simpa using e))
  exact ⟨g, off, rfl, Nat.lt_of_lt_of_le hb hg.size, fun i x hi j hj => (World.cell?_of_block (a := ⟨g, off + i * sz + j, none⟩) hbl).trans (hc i x hi j hj)⟩
theorem Rdr.apart {w w' : World} {r k : Nat} {v : Value} {B : List Nat} {s : S} (h : Rdr w r v B s) (hg : w.grownBy w' (some k)) (hk : r ≠ k) (hv : B ≠ [] → ∀ ad n c, v = .slice (some ad) n c → ad.block ≠ k) : Rdr w' r v B s := by
  have hb := hg.block r h.lt (fun e => hk (by simpa using e))
  exact ⟨Nat.lt_of_lt_of_le h.lt hg.size, (World.cell?_of_block (a := ⟨r, 0, none⟩) hb).trans h.c0, (World.cell?_of_block (a := ⟨r, 1, none⟩) hb).trans h.c1, (World.cell?_of_block (a := ⟨r, 2, none⟩) hb).trans h.c2, (World.frozen?_of_block hb).trans h.f0, (World.frozen?_of_block hb).trans h.f1, (World.frozen?_of_block hb).trans h.f2, lst_beside h.row hg hv, h.far, h.at_, h.small⟩

set_option maxHeartbeats 4000000 in
set_option maxRecDepth 100000 in
theorem get_any (r : Nat) (v : Value) (B : List Nat) (s : S) (w : World) (h : Rdr w r v B s) (hB : ∀ c ∈ B, c < 256) :
    Calls Tryz.prog 169 #[pR r] w (RdP r v B (getS B s).2 (.agg #[.int .i64 ((getS B s).1.1 : Nat), .int .i64 ((getS B s).1.2.1 : Nat), .int .i64 ((getS B s).1.2.2 : Nat)]) w) := by
  have HNU := Lib.hid (fun (s : S) (w1 : World) (h : Rdr w1 r v B s) => num_any r v B s w1 h hB)
  obtain ⟨s1, hs1⟩ : ∃ x, x = numS B s := ⟨_, rfl⟩
  obtain ⟨s2, hs2⟩ : ∃ x, x = numS B s1.2 := ⟨_, rfl⟩
  obtain ⟨s3, hs3⟩ : ∃ x, x = numS B s2.2 := ⟨_, rfl⟩
  have HQ := Lib.hid (show getS B s = ((s1.1, s2.1, s3.1), s3.2) from by unfold getS; rw [hs3, hs2, hs1])
  rw [HQ.out]
  obtain ⟨W, hW⟩ : ∃ W, W = w.alloc (.cells #[.int .i64 0, .int .i64 0, .int .i64 0] 25) := ⟨_, rfl⟩
  obtain ⟨k, hk⟩ : ∃ k, k = w.heap.size := ⟨_, rfl⟩
  have hbW : Below w.heap.size w W := by rw [hW]; exact (Below.refl _ _).alloc (Nat.le_refl _) _
  have hm : W.heap[k]? = some (.cells #[.int .i64 0, .int .i64 0, .int .i64 0] 25 (0, 0)) := by rw [hW, hk]; exact heap_alloc_new w _
  have hrk : r < k := by rw [hk]; exact h.lt
  have HVL := Lib.hid (show B ≠ [] → ∀ ad n c, v = .slice (some ad) n c → ad.block ≠ k from fun hb ad n c e => by rw [hk]; exact Nat.ne_of_lt (h.vlow hb ad n c e))
  have HR0 := Lib.hid (h.below hbW)
  have HN1 := Lib.hid (show ∀ w1, Rdr w1 r v B s → Calls Tryz.prog 138 #[pR r] w1 (RdP r v B s1.2 (.int .i64 (s1.1 : Nat)) w1) from fun w1 h => by rw [hs1]; exact HNU.out s w1 h)
  have HN2 := Lib.hid (show ∀ w1, Rdr w1 r v B s1.2 → Calls Tryz.prog 138 #[pR r] w1 (RdP r v B s2.2 (.int .i64 (s2.1 : Nat)) w1) from fun w1 h => by rw [hs2]; exact HNU.out s1.2 w1 h)
  have HN3 := Lib.hid (show ∀ w1, Rdr w1 r v B s2.2 → Calls Tryz.prog 138 #[pR r] w1 (RdP r v B s3.2 (.int .i64 (s3.1 : Nat)) w1) from fun w1 h => by rw [hs3]; exact HNU.out s2.2 w1 h)
  have HW := Lib.hid hW
  have HK := Lib.hid hk
  have HM := Lib.hid hm
  have HBW := Lib.hid hbW
  have hkW : k < W.heap.size := (Array.getElem?_eq_some_iff.1 hm).1
  clear h hs1 hs2 hs3 hW hk hm hbW
  obtain ⟨x1, t1⟩ := s1
  obtain ⟨x2, t2⟩ := s2
  obtain ⟨x3, t3⟩ := s3
  simp only [] at HN1 HN2 HN3 ⊢
  go_enter Tryz.func169, Tryz.ntmps169
  go_upto_region 1 with fail
  rw [← HW.out, ← HK.out]
  go_wp2_with fail
  refine (HN1.out W HR0.out).mono ?_
  rintro e w1 ⟨rfl, hr1, hg1⟩
  have HR1 := Lib.hid hr1
  have HG1 := Lib.hid hg1
  clear hr1 hg1
  go_wp2_with fail
  refine (HN2.out w1 HR1.out).mono ?_
  rintro e w2 ⟨rfl, hr2, hg2⟩
  have HR2 := Lib.hid hr2
  have HG2 := Lib.hid (HG1.out.andThen hg2 (fun j hj => Or.inr hj))
  clear hr2 hg2
  go_wp2_with fail
  refine (HN3.out w2 HR2.out).mono ?_
  rintro e w3 ⟨rfl, hr3, hg3⟩
  have HR3 := Lib.hid hr3
  have HG3 := Lib.hid (HG2.out.andThen hg3 (fun j hj => Or.inr hj))
  clear hr3 hg3
  have hb3 : w3.heap[k]? = some (.cells #[.int .i64 0, .int .i64 0, .int .i64 0] 25 (0, 0)) := (HG3.out.block k hkW (fun e => Nat.ne_of_gt hrk (by simpa using e))).trans HM.out
  have a0 : w3.cell? ⟨k, 0, none⟩ = some (.int .i64 0) := by rw [cell_of_row w3 k 0 _ _ (0, 0) hb3]; rfl
  have a1 : w3.cell? ⟨k, 1, none⟩ = some (.int .i64 0) := by rw [cell_of_row w3 k 1 _ _ (0, 0) hb3]; rfl
  have a2 : w3.cell? ⟨k, 2, none⟩ = some (.int .i64 0) := by rw [cell_of_row w3 k 2 _ _ (0, 0) hb3]; rfl
  have f0 : w3.frozen? ⟨k, 0, none⟩ = false := frozen_of_row w3 k 0 _ _ hb3
  have f1 : w3.frozen? ⟨k, 1, none⟩ = false := frozen_of_row w3 k 1 _ _ hb3
  have f2 : w3.frozen? ⟨k, 2, none⟩ = false := frozen_of_row w3 k 2 _ _ hb3
  have hk3 : k < w3.heap.size := (Array.getElem?_eq_some_iff.1 hb3).1
  obtain ⟨W4, hW4⟩ : ∃ W4, W4 = ((w3.setCell ⟨k, 0, none⟩ (.int .i64 (x1 : Nat))).setCell ⟨k, 1, none⟩ (.int .i64 (x2 : Nat))).setCell ⟨k, 2, none⟩ (.int .i64 (x3 : Nat)) := ⟨_, rfl⟩
  have hg4 : w3.grownBy W4 (some k) := by
    rw [hW4]
    exact ((grown_cell' w3 k 0 _).andThen (grown_cell' _ k 1 _) (fun j hj => Or.inr hj)).andThen (grown_cell' _ k 2 _) (fun j hj => Or.inr hj)
  have HR4 := Lib.hid (show Rdr W4 r v B t3 from HR3.out.apart hg4 (by omega) HVL.out)
  have HG4 := Lib.hid (show w.grownBy W4 (some r) from ((below_grown (row := some r) HBW.out).andThen HG3.out (fun j hj => Or.inr hj)).andThen hg4 (fun j hj => Or.inl (by cases hj; rw [HK.out]; exact Nat.le_refl _)))
  have u0 : W4.cell? ⟨k, 0, none⟩ = some (.int .i64 (x1 : Nat)) := by rw [hW4]; go_simp
  have u1 : W4.cell? ⟨k, 1, none⟩ = some (.int .i64 (x2 : Nat)) := by rw [hW4]; go_simp
  have u2 : W4.cell? ⟨k, 2, none⟩ = some (.int .i64 (x3 : Nat)) := by rw [hW4]; go_simp
  clear hb3 hg4
  go_wp2_with fail
  rw [← hW4]
  refine bodyPost_ret (v := .agg #[.int .i64 (x1 : Nat), .int .i64 (x2 : Nat), .int .i64 (x3 : Nat)]) (by simp [results, Tryz.f169, go_sem, u0, u1, u2]) rfl ⟨rfl, HR4.out, HG4.out⟩
end Go.Proofs.YtemckpmedjennaaGreatDoor.Rd
