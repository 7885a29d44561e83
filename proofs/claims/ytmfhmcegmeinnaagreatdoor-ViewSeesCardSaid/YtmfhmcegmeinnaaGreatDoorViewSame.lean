/- The walks of view.Same, law09.told (layer 9). -/
import Derived.Test.YtmfhmcegmeinnaaGreatDoorGet
import Derived.Test.YtmfhmcegmeinnaaGreatDoorRefView2
set_option linter.unusedSimpArgs false
set_option linter.unusedVariables false
namespace Go.Proofs.YtmfhmcegmeinnaaGreatDoor.Mut
open Go.RowKit Go.Sort Go.Proofs.YtmfhmcegmeinnaaGreatDoor.Ord
set_option linter.unusedSectionVars false
variable [Inhabited Lim]

set_option maxHeartbeats 4000000 in
set_option maxRecDepth 100000 in
theorem viewsame_any (v1 v2 : Value) (A B : List Rw) (w : World) (hA : WRow w v1 A) (hB : WRow w v2 B) (lA : A.length ≤ 1000000) (lB : B.length ≤ 1000000) :
    Calls Tryz.prog 19 #[v1, v2] w (RetB (eqWs A B) w) := by
  obtain ⟨ao, ac, rfl, -, -⟩ := Lst.form hA
  obtain ⟨bo, bc, rfl, -, -⟩ := Lst.form hB
  by_cases hl : A.length = B.length
  · obtain ⟨n, hN⟩ : ∃ n, n = A.length := ⟨_, rfl⟩
    rw [← hl, ← hN] at hB ⊢
    rw [← hN] at hA lA
    have hnB : n = B.length := hN.trans hl
    obtain ⟨Q, hQ⟩ : ∃ Q, Q = eqWs A B := ⟨_, rfl⟩
    rw [← hQ]
    have HA := Lib.hid hA
    have HB := Lib.hid hB
    have HN := Lib.hid hN
    have HNB := Lib.hid hnB
    have HQ := Lib.hid hQ
    clear hA hB hN hnB hQ hl lB
    go_enter Tryz.func19, Tryz.ntmps19
    go_wp2_with fail
    go_loopw [14] (fun iv wr => ∃ k : Nat, k ≤ n ∧ iv = .int .i64 k ∧ Hid (eqWs (A.drop k) (B.drop k) = Q) ∧ Hid (RowKit.Below w.heap.size w wr)) (fun iv _ => n - (intOf iv).toNat)
    case atStart => exact ⟨0, by omega, rfl, Lib.hid (by rw [HQ.out]; rfl), Lib.hid (Below.refl _ _)⟩
    case round =>
      obtain ⟨k, hk, rfl, hput, hl⟩ := hrel
      by_cases hlt : k < n
      · have hka : k < A.length := by have := HN.out; omega
        have hkb : k < B.length := by have := HNB.out; omega
        obtain ⟨xb, xoff, hao, hat⟩ := WRow.at_ (HA.out.below hl.out) (List.getElem?_eq_getElem hka)
        cases hao
        obtain ⟨yb, yoff, hbo, hbt⟩ := WRow.at_ (HB.out.below hl.out) (List.getElem?_eq_getElem hkb)
        cases hbo
        have hst := hput.out
        rw [List.drop_eq_getElem_cons hka, List.drop_eq_getElem_cons hkb] at hst
        generalize A[k] = x at hat hst
        generalize B[k] = y at hbt hst
        obtain ⟨q, hq⟩ : ∃ q, eqRw x y = q := ⟨_, rfl⟩
        have hneq := fun w => neqRw_run x y q hq w
        have hgd := fun a b xs ys w => guardRw_run .neq a b xs ys w
        have HST := Lib.hid (show (q && eqWs (A.drop (k + 1)) (B.drop (k + 1))) = Q by rw [← hst, ← hq]; rfl)
        clear hst hq hput
        obtain ⟨xkey, xval, ⟨xp, xl, xw⟩⟩ := x
        obtain ⟨ykey, yval, ⟨yp, yl, yw⟩⟩ := y
        unfold vRw at hneq
        simp only [] at hneq
        obtain ⟨hl1, a0, a1, a2, a3, a4⟩ := hat
        obtain ⟨hl2, b0, b1, b2, b3, b4⟩ := hbt
        simp only [] at a0 a1 a2 a3 a4 b0 b1 b2 b3 b4
        have j0 : (0 : Int) ≤ (k : Int) := by omega
        have j1 : (k : Int) < (n : Int) := by omega
        have A0 := RwAt.cells (x := ⟨xkey, xval, ⟨xp, xl, xw⟩⟩) (q := wr.heap.size) (W := wr.alloc (.cells #[.string xkey, .string xval, .int .i64 xp, .int .i64 xl, .int .i64 xw] 100)) (World.alloc_heap_new wr _)
        obtain ⟨W3, hW3⟩ : ∃ W, W = wr.alloc (.cells #[.string xkey, .string xval, .int .i64 xp, .int .i64 xl, .int .i64 xw] 100) := ⟨_, rfl⟩
        rw [← hW3] at A0
        have hb3 : RowKit.Below wr.heap.size wr W3 := by rw [hW3]; exact (Below.refl _ _).alloc (Nat.le_refl _) _
        have HB3 := Lib.hid (below_then hl.out (Nat.le_refl _) hb3)
        have HW3 := Lib.hid hW3
        have BB := Lib.hid (show W3.cell? ⟨yb, yoff + k * 5, none⟩ = some (.string ykey) ∧ W3.cell? ⟨yb, yoff + k * 5 + 1, none⟩ = some (.string yval) ∧ W3.cell? ⟨yb, yoff + k * 5 + 2, none⟩ = some (.int .i64 yp) ∧ W3.cell? ⟨yb, yoff + k * 5 + 3, none⟩ = some (.int .i64 yl) ∧ W3.cell? ⟨yb, yoff + k * 5 + 4, none⟩ = some (.int .i64 yw) from
          ⟨(hb3.cell (p := ⟨yb, yoff + k * 5, none⟩) hl2).trans b0, (hb3.cell (p := ⟨yb, yoff + k * 5 + 1, none⟩) hl2).trans b1, (hb3.cell (p := ⟨yb, yoff + k * 5 + 2, none⟩) hl2).trans b2, (hb3.cell (p := ⟨yb, yoff + k * 5 + 3, none⟩) hl2).trans b3, (hb3.cell (p := ⟨yb, yoff + k * 5 + 4, none⟩) hl2).trans b4⟩)
        have HA0 := Lib.hid A0
        have hs3 : wr.heap.size < W3.heap.size := by rw [hW3]; simp
        have hl3 : yb < W3.heap.size := Nat.lt_trans hl2 hs3
        clear hW3 hb3 A0
        go_upto_region 6 with fail
        rw [← HW3.out]
        clear HW3 a0 a1 a2 a3 a4 b0 b1 b2 b3 b4
        obtain ⟨k6, hk6⟩ : ∃ k, k = wr.heap.size := ⟨_, rfl⟩
        rw [← hk6] at HA0 hs3 ⊢
        clear hk6
        obtain ⟨a0, a1, a2, a3, a4⟩ := HA0.out
        obtain ⟨b0, b1, b2, b3, b4⟩ := BB.out
        simp only [] at a0 a1 a2 a3 a4
        go_wp2_with fail
        refine wp_region_calm (by kernel_rfl) (by kernel_rfl) ?_
        repeat (go_big_quiet_step (fail))
        refine wpQuiet_nil ?_
        rintro _ ⟨z, rfl⟩
        obtain ⟨W1, hW1⟩ : ∃ W1, W1 = z.at := ⟨_, rfl⟩
        have hz := z.below
        rw [← hW1] at hz ⊢
        have HZ := Lib.hid (below_then HB3.out (Nat.le_refl _) hz)
        clear hW1 z hz a0 a1 a2 a3 a4 b0 b1 b2 b3 b4 hneq hgd
        cases q
        · have HR := Lib.hid (show false = Q from HST.out)
          go_wp2_with fail
          go_ret
          exact ⟨ret_bool HR.out, HZ.out⟩
        · have HR := Lib.hid (show eqWs (A.drop (k + 1)) (B.drop (k + 1)) = Q from HST.out)
          go_wp2_with fail
          go_roundw
          case rel => exact ⟨k + 1, by omega, by go_num, HR, HZ⟩
          case measure => simp [intOf]; omega
      · obtain rfl : k = n := by omega
        have HR := Lib.hid (show true = Q by have h := hput.out; rw [List.drop_of_length_le (by have := HN.out; omega), List.drop_of_length_le (by have := HNB.out; omega)] at h; exact h)
        go_wp2_with fail
        go_ret
        exact ⟨ret_bool HR.out, hl.out⟩
  · have HE := Lib.hid (eqWs_len A B hl)
    obtain ⟨na, hna⟩ : ∃ k, k = A.length := ⟨_, rfl⟩
    obtain ⟨nb, hnb⟩ : ∃ k, k = B.length := ⟨_, rfl⟩
    rw [← hna, ← hnb] at hl ⊢
    rw [HE.out]
    have hne : ((na : Int) != (nb : Int)) = true := by simp; omega
    clear hA hB hna hnb
    go_enter Tryz.func19, Tryz.ntmps19
    go_wp2_with fail
    go_ret
    exact ⟨rfl, Below.refl _ _⟩
end Go.Proofs.YtmfhmcegmeinnaaGreatDoor.Mut
