/- RefCmp, RefCmp2: in one text. -/
import Derived.Test.YtmjelcjdfamikaaGreatDoorMutRows
import Derived.Test.YtmjelcjdfamikaaGreatDoorMutRights
import Derived.Deep.RegionHeld3
set_option linter.unusedSimpArgs false
set_option linter.unusedVariables false
/- The walks of the references' comparisons (layers 4, 7): cenotaphref04.Compare, Less; cenotaphref07.number, Text, rows, Compare. -/
namespace Go.Proofs.YtmjelcjdfamikaaGreatDoor.Mut
open Go.RowKit Go.Sort Go.Proofs.YtmjelcjdfamikaaGreatDoor.Ord
set_option linter.unusedSectionVars false
variable [Inhabited Lim]

set_option maxHeartbeats 1000000 in
theorem refst_any (x y : Stp) (w : World) :
    Calls Tryz.prog 74 #[vS x, vS y] w fun e w' => e = .returned (.int .i64 (stC x y)) ∧ RowKit.Below w.heap.size w w' := by
  obtain ⟨p, l, h⟩ := x
  obtain ⟨p', l', h'⟩ := y
  have hfin : stC ⟨p, l, h⟩ ⟨p', l', h'⟩ = if p < p' then -1 else if p' < p then 1 else if l < l' then -1 else if l' < l then 1 else if h < h' then -1 else if h' < h then 1 else 0 := by
    unfold stC orL orL orL orL cmpI
    simp only []
    repeat' split
    all_goals first | rfl | omega
  obtain ⟨Q, hQ⟩ : ∃ Q, Q = stC ⟨p, l, h⟩ ⟨p', l', h'⟩ := ⟨_, rfl⟩
  rw [← hQ] at hfin ⊢
  have HF := Lib.hid hfin
  clear hfin hQ
  go_enter Tryz.func74, Tryz.ntmps74
  go_wp2_with fail
  obtain ⟨W0, hW0⟩ : ∃ W0, W0 = (((w.alloc (Obj.cells #[Value.int IntKind.i64 p, Value.int IntKind.i64 l, Value.int IntKind.i64 h] 37)).alloc (Obj.cells #[Value.int IntKind.i64 p', Value.int IntKind.i64 l', Value.int IntKind.i64 h'] 37)).alloc
      (Obj.cells #[Value.int IntKind.i64 p, Value.int IntKind.i64 l, Value.int IntKind.i64 h] 132)).alloc (Obj.cells #[Value.int IntKind.i64 p', Value.int IntKind.i64 l', Value.int IntKind.i64 h'] 132) := ⟨_, rfl⟩
  have hb0 : RowKit.Below w.heap.size w W0 := by
    rw [hW0]
    exact ((((Below.refl _ _).alloc (Nat.le_refl _) _).alloc (by simp) _).alloc (by simp; omega) _).alloc (by simp; omega) _
  have a0 : W0.cell? ⟨w.heap.size + 1 + 1, 0, none⟩ = some (.int .i64 p) := by rw [hW0]; go_simp
  have a1 : W0.cell? ⟨w.heap.size + 1 + 1, 1, none⟩ = some (.int .i64 l) := by rw [hW0]; go_simp
  have a2 : W0.cell? ⟨w.heap.size + 1 + 1, 2, none⟩ = some (.int .i64 h) := by rw [hW0]; go_simp
  have b0 : W0.cell? ⟨w.heap.size + 1 + 1 + 1, 0, none⟩ = some (.int .i64 p') := by rw [hW0]; go_simp
  have b1 : W0.cell? ⟨w.heap.size + 1 + 1 + 1, 1, none⟩ = some (.int .i64 l') := by rw [hW0]; go_simp
  have b2 : W0.cell? ⟨w.heap.size + 1 + 1 + 1, 2, none⟩ = some (.int .i64 h') := by rw [hW0]; go_simp
  rw [← hW0]
  have HB0 := Lib.hid hb0
  clear hW0 hb0
  go_loopw [7] (fun iv wr => ∃ (k nq : Nat), k ≤ 3 ∧ iv = .int .i64 k ∧ wr = W0.drewN nq ∧ Hid ((1 ≤ k → p = p') ∧ (2 ≤ k → l = l') ∧ (3 ≤ k → h = h'))) (fun iv _ => 3 - (intOf iv).toNat)
  case atStart => exact ⟨0, 0, by omega, rfl, rfl, Lib.hid ⟨by omega, by omega, by omega⟩⟩
  case round =>
    obtain ⟨k, nq0, hk, rfl, rfl, he⟩ := hrel
    have h4 : k = 0 ∨ k = 1 ∨ k = 2 ∨ k = 3 := by omega
    rcases h4 with rfl | rfl | rfl | rfl
    · by_cases c1 : p < p'
      · go_wp2_with fail
        go_quiet (fail)
        go_wp2
        go_ret
        exact ⟨ret_int (by rw [HF.out]; repeat' split; all_goals omega), by repeat (first | exact HB0.out | apply below_drewN)⟩
      · by_cases c2 : p' < p
        · go_wp2_with fail
          go_quiet (fail)
          go_wp2_with fail
          go_quiet (fail)
          go_wp2
          go_ret
          exact ⟨ret_int (by rw [HF.out]; repeat' split; all_goals omega), by repeat (first | exact HB0.out | apply below_drewN)⟩
        · go_wp2_with fail
          go_quiet (fail)
          go_wp2_with fail
          go_quiet (fail)
          go_wp2
          go_roundw
          case rel => exact ⟨1, _, by omega, rfl, rfl, Lib.hid ⟨by omega, by omega, by omega⟩⟩
          case measure => simp [intOf]
    · by_cases c1 : l < l'
      · go_wp2_with fail
        go_quiet (fail)
        go_wp2
        go_ret
        exact ⟨ret_int (by have := he.out; rw [HF.out]; repeat' split; all_goals omega), by repeat (first | exact HB0.out | apply below_drewN)⟩
      · by_cases c2 : l' < l
        · go_wp2_with fail
          go_quiet (fail)
          go_wp2_with fail
          go_quiet (fail)
          go_wp2
          go_ret
          exact ⟨ret_int (by have := he.out; rw [HF.out]; repeat' split; all_goals omega), by repeat (first | exact HB0.out | apply below_drewN)⟩
        · go_wp2_with fail
          go_quiet (fail)
          go_wp2_with fail
          go_quiet (fail)
          go_wp2
          go_roundw
          case rel => exact ⟨2, _, by omega, rfl, rfl, Lib.hid ⟨by have := he.out; omega, by omega, by omega⟩⟩
          case measure => simp [intOf]
    · by_cases c1 : h < h'
      · go_wp2_with fail
        go_quiet (fail)
        go_wp2
        go_ret
        exact ⟨ret_int (by have := he.out; rw [HF.out]; repeat' split; all_goals omega), by repeat (first | exact HB0.out | apply below_drewN)⟩
      · by_cases c2 : h' < h
        · go_wp2_with fail
          go_quiet (fail)
          go_wp2_with fail
          go_quiet (fail)
          go_wp2
          go_ret
          exact ⟨ret_int (by have := he.out; rw [HF.out]; repeat' split; all_goals omega), by repeat (first | exact HB0.out | apply below_drewN)⟩
        · go_wp2_with fail
          go_quiet (fail)
          go_wp2_with fail
          go_quiet (fail)
          go_wp2
          go_roundw
          case rel => exact ⟨3, _, by omega, rfl, rfl, Lib.hid ⟨by have := he.out; omega, by have := he.out; omega, by omega⟩⟩
          case measure => simp [intOf]
    · go_wp2
      go_ret
      exact ⟨ret_int (by have := he.out; rw [HF.out]; repeat' split; all_goals omega), by repeat (first | exact HB0.out | apply below_drewN)⟩

theorem refless_any (x y : Stp) (w : World) : Calls Tryz.prog 76 #[vS x, vS y] w fun e w' => e = .returned (.bool (decide (stC x y < 0))) ∧ RowKit.Below w.heap.size w w' := by
  have HC := Lib.hid (fun W => refst_any x y W)
  obtain ⟨Q, hQ⟩ : ∃ Q, Q = stC x y := ⟨_, rfl⟩
  rw [← hQ] at HC ⊢
  clear hQ
  obtain ⟨p, l, h⟩ := x
  obtain ⟨p', l', h'⟩ := y
  go_enter Tryz.func76, Tryz.ntmps76
  go_wp2_with fail
  refine (HC.out _).mono ?_
  rintro e w1 ⟨rfl, hb⟩
  go_wp2_with fail
  go_ret
  exact ⟨rfl, below_then (((Below.refl _ _).alloc (Nat.le_refl _) _).alloc (by simp) _) (Nat.le_refl _) hb⟩

theorem refnum_any (a b : Int) (w : World) : Calls Tryz.prog 93 #[.int .i64 a, .int .i64 b] w fun e w' => e = .returned (.int .i64 (cmpI a b)) ∧ w = w' := by
  by_cases h : a < b
  · go_enter Tryz.func93, Tryz.ntmps93
    go_wp2
    go_ret
    exact ⟨ret_int (by unfold cmpI; repeat' split; all_goals omega), rfl⟩
  · by_cases h2 : b < a
    · go_enter Tryz.func93, Tryz.ntmps93
      go_wp2
      go_ret
      exact ⟨ret_int (by unfold cmpI; repeat' split; all_goals omega), rfl⟩
    · go_enter Tryz.func93, Tryz.ntmps93
      go_wp2
      go_ret
      exact ⟨ret_int (by unfold cmpI; repeat' split; all_goals omega), rfl⟩

theorem reftext_any (a b : ByteArray) (w : World) : Calls Tryz.prog 94 #[.string a, .string b] w fun e w' => e = .returned (.int .i64 (cmpS a b)) ∧ w = w' := by
  cases h : Op.bytesLess a.toList b.toList
  · cases h2 : (a.toList == b.toList)
    all_goals
      go_enter Tryz.func94, Tryz.ntmps94
      go_wp2
      go_ret
      exact ⟨ret_int (by unfold cmpS lessS; rw [h, h2]; rfl), rfl⟩
  · go_enter Tryz.func94, Tryz.ntmps94
    go_wp2
    go_ret
    exact ⟨ret_int (by unfold cmpS lessS; rw [h]; rfl), rfl⟩

theorem rowC_drop {a b : List Stp} {k : Nat} {x y : Stp} (hx : a[k]? = some x) (hy : b[k]? = some y) : rowC stC (a.drop k) (b.drop k) = if stC x y = 0 then rowC stC (a.drop (k + 1)) (b.drop (k + 1)) else stC x y := by
  obtain ⟨h1, e1⟩ := List.getElem?_eq_some_iff.1 hx
  obtain ⟨h2, e2⟩ := List.getElem?_eq_some_iff.1 hy
  rw [List.drop_eq_getElem_cons h1, List.drop_eq_getElem_cons h2, rowC, e1, e2]
theorem rowC_end {a b : List Stp} {k : Nat} (h1 : k ≤ a.length) (h2 : k ≤ b.length) (h : ¬ (k < a.length ∧ k < b.length)) : rowC stC (a.drop k) (b.drop k) = cmpI a.length b.length := by
  by_cases ha : k < a.length
  · have hb : k = b.length := by omega
    rw [hb, List.drop_length, ← hb, List.drop_eq_getElem_cons ha, rowC]
    unfold cmpI; rw [if_neg (by omega), if_pos (by omega)]
  · have ha : k = a.length := by omega
    by_cases hb : k < b.length
    · rw [ha, List.drop_length, ← ha, List.drop_eq_getElem_cons hb, rowC]
      unfold cmpI; rw [if_pos (by omega)]
    · have hb : k = b.length := by omega
      have e : a.drop k = [] := List.drop_of_length_le (by omega)
      have e2 : b.drop k = [] := List.drop_of_length_le (by omega)
      rw [e, e2, rowC]
      unfold cmpI; rw [if_neg (by omega), if_neg (by omega)]

set_option maxHeartbeats 2000000 in
set_option maxRecDepth 100000 in
theorem refrows_any (v1 v2 : Value) (a b : List Stp) (w : World) (h1 : SRow w v1 a) (h2 : SRow w v2 b) (l1 : a.length ≤ 1000000) (l2 : b.length ≤ 1000000) :
    Calls Tryz.prog 95 #[v1, v2] w fun e w' => e = .returned (.int .i64 (rowC stC a b)) ∧ RowKit.Below w.heap.size w w' := by
  obtain ⟨ao, ac, rfl, -, -⟩ := Lst.form h1
  obtain ⟨bo, bc, rfl, -, -⟩ := Lst.form h2
  obtain ⟨n, hn⟩ : ∃ n, n = a.length := ⟨_, rfl⟩
  obtain ⟨m, hm⟩ : ∃ n, n = b.length := ⟨_, rfl⟩
  obtain ⟨Q, hQ⟩ : ∃ Q, Q = rowC stC a b := ⟨_, rfl⟩
  rw [← hn] at h1 l1 ⊢
  rw [← hm] at h2 l2 ⊢
  rw [← hQ]
  have H1 := Lib.hid h1
  have H2 := Lib.hid h2
  have HN := Lib.hid (And.intro hn hm)
  have HQ := Lib.hid hQ
  clear h1 h2 hn hm hQ
  go_enter Tryz.func95, Tryz.ntmps95
  go_wp2_with fail
  go_loopw [5] (fun iv wr => ∃ k : Nat, k ≤ n ∧ k ≤ m ∧ iv = .int .i64 k ∧ Hid (rowC stC (a.drop k) (b.drop k) = Q) ∧ RowKit.Below w.heap.size w wr) (fun iv _ => n - (intOf iv).toNat)
  case atStart => exact ⟨0, by omega, by omega, rfl, Lib.hid (by rw [HQ.out]; rfl), Below.refl _ _⟩
  case round =>
    obtain ⟨k, hk, hk2, rfl, hi, hb⟩ := hrel
    by_cases hlt : k < n
    · by_cases hlt2 : k < m
      · have e1 : k < a.length := by have := HN.out; omega
        have e2 : k < b.length := by have := HN.out; omega
        obtain ⟨x, hx⟩ : ∃ x, a[k]? = some x := ⟨_, List.getElem?_eq_getElem e1⟩
        obtain ⟨y, hy⟩ : ∃ x, b[k]? = some x := ⟨_, List.getElem?_eq_getElem e2⟩
        obtain ⟨xb, xoff, ea, xl, x0, x1, x2⟩ := stamp_at (H1.out.below hb) hx
        obtain ⟨yb, yoff, eb, yl, y0, y1, y2⟩ := stamp_at (H2.out.below hb) hy
        cases ea
        cases eb
        have hst := rowC_drop hx hy
        rw [hi.out] at hst
        have HC := Lib.hid (fun W => refst_any x y W)
        obtain ⟨c, hc⟩ : ∃ c, c = stC x y := ⟨_, rfl⟩
        rw [← hc] at HC hst
        have HST := Lib.hid hst
        obtain ⟨p, l, h⟩ := x
        obtain ⟨p', l', h'⟩ := y
        simp only [] at x0 x1 x2 y0 y1 y2
        have hi0 : (0 : Int) ≤ (k : Int) := by omega
        have hi1 : (k : Int) < (n : Int) := by omega
        have hi2 : (k : Int) < (m : Int) := by omega
        clear hst hc hx hy hi e1 e2
        go_wp2_with fail
        refine wp_region_calm (by kernel_rfl) (by kernel_rfl) ?_
        repeat (go_big_quiet_step ((go_at_call 74; exact calm (HC.out _))))
        refine wpQuiet_nil ?_
        rintro _ ⟨z, rfl⟩
        have HB := Lib.hid (below_then hb (Nat.le_refl _) z.below)
        clear x0 x1 x2 y0 y1 y2
        by_cases hz : c = 0
        · subst hz
          have HS2 := Lib.hid (show rowC stC (a.drop (k + 1)) (b.drop (k + 1)) = Q by have h := HST.out; rw [if_pos rfl] at h; exact h.symm)
          go_wp2_with fail
          go_roundw
          case rel => exact ⟨k + 1, by omega, by omega, by go_num, HS2, HB.out⟩
          case measure => simp [intOf]; omega
        · have HS2 := Lib.hid (show c = Q by have h := HST.out; rw [if_neg hz] at h; exact h.symm)
          go_wp2_with fail
          go_ret
          exact ⟨ret_int HS2.out, HB.out⟩
      · have HS2 := Lib.hid (show cmpI n m = Q by rw [← hi.out, rowC_end (by have := HN.out; omega) (by have := HN.out; omega) (by have := HN.out; omega), ← HN.out.1, ← HN.out.2])
        go_wp2_with (go_at_call 93; refine (refnum_any _ _ _).mono ?_; rintro e w' ⟨rfl, rfl⟩)
        go_ret
        exact ⟨ret_int HS2.out, hb⟩
    · have HS2 := Lib.hid (show cmpI n m = Q by rw [← hi.out, rowC_end (by have := HN.out; omega) (by have := HN.out; omega) (by have := HN.out; omega), ← HN.out.1, ← HN.out.2])
      go_wp2_with (go_at_call 93; refine (refnum_any _ _ _).mono ?_; rintro e w' ⟨rfl, rfl⟩)
      go_ret
      exact ⟨ret_int HS2.out, hb⟩
end Go.Proofs.YtmjelcjdfamikaaGreatDoor.Mut

/- The walk of cenotaphref07.Compare (layer 7). PRINTED by wip/genrefcmp.py. -/
namespace Go.Proofs.YtmjelcjdfamikaaGreatDoor.Mut
open Go.RowKit Go.Sort Go.Proofs.YtmjelcjdfamikaaGreatDoor.Ord
set_option linter.unusedSectionVars false
variable [Inhabited Lim]

/-- Eight cells of a variable of the call's own. -/
structure K8 (w : World) (k : Nat) : Prop where
  lt : k < w.heap.size
  c0 : ∃ v, w.cell? ⟨k, 0, none⟩ = some (.int .i64 v)
  c1 : ∃ v, w.cell? ⟨k, 1, none⟩ = some (.int .i64 v)
  c2 : ∃ v, w.cell? ⟨k, 2, none⟩ = some (.int .i64 v)
  c3 : ∃ v, w.cell? ⟨k, 3, none⟩ = some (.int .i64 v)
  c4 : ∃ v, w.cell? ⟨k, 4, none⟩ = some (.int .i64 v)
  c5 : ∃ v, w.cell? ⟨k, 5, none⟩ = some (.int .i64 v)
  c6 : ∃ v, w.cell? ⟨k, 6, none⟩ = some (.int .i64 v)
  c7 : ∃ v, w.cell? ⟨k, 7, none⟩ = some (.int .i64 v)
  f0 : w.frozen? ⟨k, 0, none⟩ = false
  f1 : w.frozen? ⟨k, 1, none⟩ = false
  f2 : w.frozen? ⟨k, 2, none⟩ = false
  f3 : w.frozen? ⟨k, 3, none⟩ = false
  f4 : w.frozen? ⟨k, 4, none⟩ = false
  f5 : w.frozen? ⟨k, 5, none⟩ = false
  f6 : w.frozen? ⟨k, 6, none⟩ = false
  f7 : w.frozen? ⟨k, 7, none⟩ = false
theorem K8.new (w : World) : K8 (w.alloc (.cells #[.int .i64 0, .int .i64 0, .int .i64 0, .int .i64 0, .int .i64 0, .int .i64 0, .int .i64 0, .int .i64 0] 116)) w.heap.size :=
  ⟨by simp, ⟨0, by go_simp⟩, ⟨0, by go_simp⟩, ⟨0, by go_simp⟩, ⟨0, by go_simp⟩, ⟨0, by go_simp⟩, ⟨0, by go_simp⟩, ⟨0, by go_simp⟩, ⟨0, by go_simp⟩, by go_simp, by go_simp, by go_simp, by go_simp, by go_simp, by go_simp, by go_simp, by go_simp⟩
theorem K8.below {w w' : World} {k : Nat} (h : K8 w k) (hb : RowKit.Below w.heap.size w w') : K8 w' k := by
  have e : ∀ o, w'.cell? ⟨k, o, none⟩ = w.cell? ⟨k, o, none⟩ := fun o => hb.cell (p := ⟨k, o, none⟩) h.lt
  have f : ∀ o, w'.frozen? ⟨k, o, none⟩ = w.frozen? ⟨k, o, none⟩ := fun o => hb.frozen (p := ⟨k, o, none⟩) h.lt
  exact ⟨Nat.lt_of_lt_of_le h.lt hb.size, (e _).symm ▸ h.c0, (e _).symm ▸ h.c1, (e _).symm ▸ h.c2, (e _).symm ▸ h.c3, (e _).symm ▸ h.c4, (e _).symm ▸ h.c5, (e _).symm ▸ h.c6, (e _).symm ▸ h.c7, (f _).trans h.f0, (f _).trans h.f1, (f _).trans h.f2, (f _).trans h.f3, (f _).trans h.f4, (f _).trans h.f5, (f _).trans h.f6, (f _).trans h.f7⟩
/-- Eight numbers in a variable. -/
structure N8 (w : World) (k : Nat) (l : List Int) : Prop where
  len : l.length = 8
  lt : k < w.heap.size
  get : ∀ i v, l[i]? = some v → w.cell? ⟨k, i, none⟩ = some (.int .i64 v)
theorem n8_put {w : World} {k : Nat} (h : K8 w k) (v0 v1 v2 v3 v4 v5 v6 v7 : Int) : N8 ((((((((w.setCell ⟨k, 0, none⟩ (.int .i64 v0)).setCell ⟨k, 1, none⟩ (.int .i64 v1)).setCell ⟨k, 2, none⟩ (.int .i64 v2)).setCell ⟨k, 3, none⟩ (.int .i64 v3)).setCell ⟨k, 4, none⟩ (.int .i64 v4)).setCell ⟨k, 5, none⟩ (.int .i64 v5)).setCell ⟨k, 6, none⟩ (.int .i64 v6)).setCell ⟨k, 7, none⟩ (.int .i64 v7)) k [v0, v1, v2, v3, v4, v5, v6, v7] := by
  obtain ⟨hlt, ⟨u0, h0⟩, ⟨u1, h1⟩, ⟨u2, h2⟩, ⟨u3, h3⟩, ⟨u4, h4⟩, ⟨u5, h5⟩, ⟨u6, h6⟩, ⟨u7, h7⟩, -⟩ := h
  refine ⟨rfl, by simpa using hlt, fun i v hv => ?_⟩
  rcases i with _ | _ | _ | _ | _ | _ | _ | _ | i <;> simp at hv <;> (try subst hv) <;> go_simp
theorem n8_put_below {w0 w : World} {n k : Nat} (h : RowKit.Below n w0 w) (hk : n ≤ k) (v0 v1 v2 v3 v4 v5 v6 v7 : Int) : RowKit.Below n w0 ((((((((w.setCell ⟨k, 0, none⟩ (.int .i64 v0)).setCell ⟨k, 1, none⟩ (.int .i64 v1)).setCell ⟨k, 2, none⟩ (.int .i64 v2)).setCell ⟨k, 3, none⟩ (.int .i64 v3)).setCell ⟨k, 4, none⟩ (.int .i64 v4)).setCell ⟨k, 5, none⟩ (.int .i64 v5)).setCell ⟨k, 6, none⟩ (.int .i64 v6)).setCell ⟨k, 7, none⟩ (.int .i64 v7)) :=
  (((((((h.setCell (p := ⟨k, 0, none⟩) hk _).setCell (p := ⟨k, 1, none⟩) hk _).setCell (p := ⟨k, 2, none⟩) hk _).setCell (p := ⟨k, 3, none⟩) hk _).setCell (p := ⟨k, 4, none⟩) hk _).setCell (p := ⟨k, 5, none⟩) hk _).setCell (p := ⟨k, 6, none⟩) hk _).setCell (p := ⟨k, 7, none⟩) hk _
theorem far8 {w : World} {k b o : Nat} (v0 v1 v2 v3 v4 v5 v6 v7 : Int) (h : k ≠ b) : ((((((((w.setCell ⟨k, 0, none⟩ (.int .i64 v0)).setCell ⟨k, 1, none⟩ (.int .i64 v1)).setCell ⟨k, 2, none⟩ (.int .i64 v2)).setCell ⟨k, 3, none⟩ (.int .i64 v3)).setCell ⟨k, 4, none⟩ (.int .i64 v4)).setCell ⟨k, 5, none⟩ (.int .i64 v5)).setCell ⟨k, 6, none⟩ (.int .i64 v6)).setCell ⟨k, 7, none⟩ (.int .i64 v7)).cell? ⟨b, o, none⟩ = w.cell? ⟨b, o, none⟩ := by
  rw [World.cell?_setCell_far _ _ _ _ h, World.cell?_setCell_far _ _ _ _ h, World.cell?_setCell_far _ _ _ _ h, World.cell?_setCell_far _ _ _ _ h, World.cell?_setCell_far _ _ _ _ h, World.cell?_setCell_far _ _ _ _ h, World.cell?_setCell_far _ _ _ _ h, World.cell?_setCell_far _ _ _ _ h]
theorem alloc_keep {W : World} (o : Obj) {b i : Nat} {v : Value} (hb : b < W.heap.size) (h : W.cell? ⟨b, i, none⟩ = some v) : (W.alloc o).cell? ⟨b, i, none⟩ = some v := (((Below.refl W.heap.size W).alloc (Nat.le_refl _) o).cell (p := ⟨b, i, none⟩) hb).trans h
theorem alloc_keep_drew {W : World} (o : Obj) {b i : Nat} {v : Value} (hb : b < W.heap.size) (h : W.drew.cell? ⟨b, i, none⟩ = some v) : (W.alloc o).drew.cell? ⟨b, i, none⟩ = some v := alloc_keep o hb h
theorem n8_new (w : World) (v0 v1 v2 v3 v4 v5 v6 v7 : Int) (t : TypeId) : N8 (w.alloc (.cells #[.int .i64 v0, .int .i64 v1, .int .i64 v2, .int .i64 v3, .int .i64 v4, .int .i64 v5, .int .i64 v6, .int .i64 v7] t)) w.heap.size [v0, v1, v2, v3, v4, v5, v6, v7] := by
  refine ⟨rfl, by simp, fun i v hv => ?_⟩
  rcases i with _ | _ | _ | _ | _ | _ | _ | _ | i <;> simp at hv <;> (try subst hv) <;> go_simp
/-- The array comes, in a new variable. -/
def ArrP (w0 : World) (l : List Int) (p : Value) (w : World) : Prop := ∃ k, p = .pointer (some ⟨k, 0, none⟩) ∧ N8 w k l ∧ RowKit.Below w0.heap.size w0 w
theorem orL_drop {l : List Int} {k : Nat} {x : Int} (h : l[k]? = some x) : orL (l.drop k) = if x = 0 then orL (l.drop (k + 1)) else x := by
  obtain ⟨h1, e1⟩ := List.getElem?_eq_some_iff.1 h
  rw [List.drop_eq_getElem_cons h1, orL, e1]

set_option maxHeartbeats 8000000 in
set_option maxRecDepth 100000 in
theorem refcompare_any (x y : Ro) (w : World) (hx : Over w x) (hy : Over w y) (h1 : x.1.over.length ≤ 1000000) (h2 : y.1.over.length ≤ 1000000) :
    Calls Tryz.prog 51 #[vM x, vM y] w fun e w' => e = .returned (.int .i64 (muC x.1 y.1)) ∧ RowKit.Below w.heap.size w w' := by
  have HO := Lib.hid (fun (z : World) (h : RowKit.Below w.heap.size w z) => refrows_any x.2 y.2 x.1.over y.1.over z (hx.below h).lst (hy.below h).lst h1 h2)
  have HS := Lib.hid (fun (z : World) => refst_any x.1.at_ y.1.at_ z)
  have hfin : muC x.1 y.1 = orL [stC x.1.at_ y.1.at_, cmpI x.1.table y.1.table, cmpI x.1.kind y.1.kind, cmpS x.1.key y.1.key, cmpS x.1.fin y.1.fin, cmpS x.1.val y.1.val, cmpI x.1.expiry y.1.expiry, rowC stC x.1.over y.1.over] := rfl
  rw [hfin]
  obtain ⟨c0, hc0⟩ : ∃ c, c = stC x.1.at_ y.1.at_ := ⟨_, rfl⟩
  obtain ⟨c7, hc7⟩ : ∃ c, c = rowC stC x.1.over y.1.over := ⟨_, rfl⟩
  rw [← hc0] at HS ⊢
  rw [← hc7] at HO ⊢
  clear hfin hc0 hc7
  have hA := A0.of ((At.new w 40 x).below ((Below.refl _ _).alloc (Nat.le_refl _) (.cells (enM y).toArray 40)))
  have hB := A0.of (At.new (w.alloc (.cells (enM x).toArray 40)) 40 y)
  rw [World.size_alloc] at hB
  have hW := ((Below.refl _ w).alloc (Nat.le_refl _) (.cells (enM x).toArray 40)).alloc (by simp) (.cells (enM y).toArray 40)
  obtain ⟨W0, hW0⟩ : ∃ W0, W0 = (w.alloc (.cells (enM x).toArray 40)).alloc (.cells (enM y).toArray 40) := ⟨_, rfl⟩
  rw [← hW0] at hA hB hW
  have HAB := Lib.hid (And.intro hA hB)
  have HW := Lib.hid hW
  have HW0 := Lib.hid hW0
  clear hA hB hW hW0
  obtain ⟨ao1, ac1, e1, -, -⟩ := Over.form hx
  obtain ⟨ao2, ac2, e2, -, -⟩ := Over.form hy
  obtain ⟨⟨at1, ak1, akey1, afin1, aval1, aex1, ⟨ap1, al1, aw1⟩, aov1⟩, av1⟩ := x
  obtain ⟨⟨at2, ak2, akey2, afin2, aval2, aex2, ⟨ap2, al2, aw2⟩, aov2⟩, av2⟩ := y
  simp only [] at e1 e2 HO HS ⊢
  subst e1 e2
  unfold enM at HW0
  simp only [] at HW0
  generalize aov1.length = n1 at *
  generalize aov2.length = n2 at *
  unfold vM
  simp only []
  clear hx hy h1 h2
  obtain ⟨l8, hl8⟩ : ∃ l, l = [c0, cmpI at1 at2, cmpI ak1 ak2, cmpS akey1 akey2, cmpS afin1 afin2, cmpS aval1 aval2, cmpI aex1 aex2, c7] := ⟨_, rfl⟩
  rw [← hl8]
  obtain ⟨Q, hQ⟩ : ∃ Q, Q = orL l8 := ⟨_, rfl⟩
  rw [← hQ]
  have HQ := Lib.hid hQ
  have HL8 := Lib.hid hl8
  clear hQ hl8
  go_enter Tryz.func51, Tryz.ntmps51
  go_wp2_with fail
  rw [← HW0.out]
  clear HW0
  have hszW := HAB.out.2.lt
  have naW : W0.heap.size ≠ w.heap.size := by omega
  have nbW : W0.heap.size ≠ w.heap.size + 1 := by omega
  go_cut [5] (fun p wx => ArrP w [c0, cmpI at1 at2, cmpI ak1 ak2, cmpS akey1 akey2, cmpS afin1 afin2, cmpS aval1 aval2, cmpI aex1 aex2, c7] p wx)
  case first =>
    have hS0 : W0.drew.cell? ⟨w.heap.size, 0, none⟩ = some (.int .i64 at1) ∧ W0.drew.cell? ⟨w.heap.size, 1, none⟩ = some (.int .i64 ak1) ∧ W0.drew.cell? ⟨w.heap.size, 2, none⟩ = some (.string akey1) ∧ W0.drew.cell? ⟨w.heap.size, 3, none⟩ = some (.string afin1) ∧ W0.drew.cell? ⟨w.heap.size, 4, none⟩ = some (.string aval1) ∧ W0.drew.cell? ⟨w.heap.size, 5, none⟩ = some (.int .i64 aex1) ∧ W0.drew.cell? ⟨w.heap.size, 6, none⟩ = some (.int .i64 ap1) ∧ W0.drew.cell? ⟨w.heap.size, 7, none⟩ = some (.int .i64 al1) ∧ W0.drew.cell? ⟨w.heap.size, 8, none⟩ = some (.int .i64 aw1) ∧ W0.drew.cell? ⟨w.heap.size, 9, none⟩ = some (.slice ao1 n1 ac1) ∧ W0.drew.cell? ⟨w.heap.size + 1, 0, none⟩ = some (.int .i64 at2) ∧ W0.drew.cell? ⟨w.heap.size + 1, 1, none⟩ = some (.int .i64 ak2) ∧ W0.drew.cell? ⟨w.heap.size + 1, 2, none⟩ = some (.string akey2) ∧ W0.drew.cell? ⟨w.heap.size + 1, 3, none⟩ = some (.string afin2) ∧ W0.drew.cell? ⟨w.heap.size + 1, 4, none⟩ = some (.string aval2) ∧ W0.drew.cell? ⟨w.heap.size + 1, 5, none⟩ = some (.int .i64 aex2) ∧ W0.drew.cell? ⟨w.heap.size + 1, 6, none⟩ = some (.int .i64 ap2) ∧ W0.drew.cell? ⟨w.heap.size + 1, 7, none⟩ = some (.int .i64 al2) ∧ W0.drew.cell? ⟨w.heap.size + 1, 8, none⟩ = some (.int .i64 aw2) ∧ W0.drew.cell? ⟨w.heap.size + 1, 9, none⟩ = some (.slice ao2 n2 ac2) := by
      obtain ⟨⟨-, a0, a1, a2, a3, a4, a5, a6, a7, a8, a9⟩, ⟨-, b0, b1, b2, b3, b4, b5, b6, b7, b8, b9⟩⟩ := HAB.out; simp only [] at a0 a1 a2 a3 a4 a5 a6 a7 a8 a9 b0 b1 b2 b3 b4 b5 b6 b7 b8 b9
      exact ⟨a0, a1, a2, a3, a4, a5, a6, a7, a8, a9, b0, b1, b2, b3, b4, b5, b6, b7, b8, b9⟩
    go_region_held3 (fun w' => w'.cell? ⟨w.heap.size, 0, none⟩ = some (.int .i64 at1) ∧ w'.cell? ⟨w.heap.size, 1, none⟩ = some (.int .i64 ak1) ∧ w'.cell? ⟨w.heap.size, 2, none⟩ = some (.string akey1) ∧ w'.cell? ⟨w.heap.size, 3, none⟩ = some (.string afin1) ∧ w'.cell? ⟨w.heap.size, 4, none⟩ = some (.string aval1) ∧ w'.cell? ⟨w.heap.size, 5, none⟩ = some (.int .i64 aex1) ∧ w'.cell? ⟨w.heap.size, 6, none⟩ = some (.int .i64 ap1) ∧ w'.cell? ⟨w.heap.size, 7, none⟩ = some (.int .i64 al1) ∧ w'.cell? ⟨w.heap.size, 8, none⟩ = some (.int .i64 aw1) ∧ w'.cell? ⟨w.heap.size, 9, none⟩ = some (.slice ao1 n1 ac1) ∧ w'.cell? ⟨w.heap.size + 1, 0, none⟩ = some (.int .i64 at2) ∧ w'.cell? ⟨w.heap.size + 1, 1, none⟩ = some (.int .i64 ak2) ∧ w'.cell? ⟨w.heap.size + 1, 2, none⟩ = some (.string akey2) ∧ w'.cell? ⟨w.heap.size + 1, 3, none⟩ = some (.string afin2) ∧ w'.cell? ⟨w.heap.size + 1, 4, none⟩ = some (.string aval2) ∧ w'.cell? ⟨w.heap.size + 1, 5, none⟩ = some (.int .i64 aex2) ∧ w'.cell? ⟨w.heap.size + 1, 6, none⟩ = some (.int .i64 ap2) ∧ w'.cell? ⟨w.heap.size + 1, 7, none⟩ = some (.int .i64 al2) ∧ w'.cell? ⟨w.heap.size + 1, 8, none⟩ = some (.int .i64 aw2) ∧ w'.cell? ⟨w.heap.size + 1, 9, none⟩ = some (.slice ao2 n2 ac2)) (first | (with_reducible assumption) | ((try dsimp only); (repeat' apply And.intro) <;> (first | (with_reducible assumption) | (go_split_ands; (try go_split_ands); (try (with_reducible rw [far8 _ _ _ _ _ _ _ _ (by assumption)])); with_reducible assumption) | (go_split_ands; (try go_split_ands); (first | (with_reducible refine alloc_keep _ ?_ (by with_reducible assumption)) | (with_reducible refine alloc_keep_drew _ ?_ (by with_reducible assumption))); omega)))) ((go_simp; first
      | (go_at_call 95; (with_reducible refine (HO.out _ (HWw1.out)).mono ?_); rintro e w2 ⟨rfl, hb⟩; have hb2 := below_then (Below.refl w1.heap.size w1) (Nat.le_refl _) hb; have HABw2 := Lib.hid (And.intro (HABw1.out.1.below hb2) (HABw1.out.2.below hb2)); have HWw2 := Lib.hid (below_then HWw1.out (Nat.le_refl _) hb2); have hszw2 := HABw2.out.2.lt; have naw2 : w2.heap.size ≠ w.heap.size := (by omega); have nbw2 : w2.heap.size ≠ w.heap.size + 1 := (by omega); obtain ⟨⟨-, a0, a1, a2, a3, a4, a5, a6, a7, a8, a9⟩, ⟨-, b0, b1, b2, b3, b4, b5, b6, b7, b8, b9⟩⟩ := HABw2.out; simp only [] at a0 a1 a2 a3 a4 a5 a6 a7 a8 a9 b0 b1 b2 b3 b4 b5 b6 b7 b8 b9; have hS : w2.cell? ⟨w.heap.size, 0, none⟩ = some (.int .i64 at1) ∧ w2.cell? ⟨w.heap.size, 1, none⟩ = some (.int .i64 ak1) ∧ w2.cell? ⟨w.heap.size, 2, none⟩ = some (.string akey1) ∧ w2.cell? ⟨w.heap.size, 3, none⟩ = some (.string afin1) ∧ w2.cell? ⟨w.heap.size, 4, none⟩ = some (.string aval1) ∧ w2.cell? ⟨w.heap.size, 5, none⟩ = some (.int .i64 aex1) ∧ w2.cell? ⟨w.heap.size, 6, none⟩ = some (.int .i64 ap1) ∧ w2.cell? ⟨w.heap.size, 7, none⟩ = some (.int .i64 al1) ∧ w2.cell? ⟨w.heap.size, 8, none⟩ = some (.int .i64 aw1) ∧ w2.cell? ⟨w.heap.size, 9, none⟩ = some (.slice ao1 n1 ac1) ∧ w2.cell? ⟨w.heap.size + 1, 0, none⟩ = some (.int .i64 at2) ∧ w2.cell? ⟨w.heap.size + 1, 1, none⟩ = some (.int .i64 ak2) ∧ w2.cell? ⟨w.heap.size + 1, 2, none⟩ = some (.string akey2) ∧ w2.cell? ⟨w.heap.size + 1, 3, none⟩ = some (.string afin2) ∧ w2.cell? ⟨w.heap.size + 1, 4, none⟩ = some (.string aval2) ∧ w2.cell? ⟨w.heap.size + 1, 5, none⟩ = some (.int .i64 aex2) ∧ w2.cell? ⟨w.heap.size + 1, 6, none⟩ = some (.int .i64 ap2) ∧ w2.cell? ⟨w.heap.size + 1, 7, none⟩ = some (.int .i64 al2) ∧ w2.cell? ⟨w.heap.size + 1, 8, none⟩ = some (.int .i64 aw2) ∧ w2.cell? ⟨w.heap.size + 1, 9, none⟩ = some (.slice ao2 n2 ac2) := ⟨a0, a1, a2, a3, a4, a5, a6, a7, a8, a9, b0, b1, b2, b3, b4, b5, b6, b7, b8, b9⟩; clear a0 a1 a2 a3 a4 a5 a6 a7 a8 a9 b0 b1 b2 b3 b4 b5 b6 b7 b8 b9; (try (have HK := Lib.hid (HK.out.below hb2); obtain ⟨kl, ⟨z0, k0⟩, ⟨z1, k1⟩, ⟨z2, k2⟩, ⟨z3, k3⟩, ⟨z4, k4⟩, ⟨z5, k5⟩, ⟨z6, k6⟩, ⟨z7, k7⟩, g0, g1, g2, g3, g4, g5, g6, g7⟩ := HK.out)); clear hb hb2)
      | (go_at_call 95; (with_reducible refine (HO.out _ (HWw1.out.alloc HWw1.out.size (.cells #[.int .i64 0, .int .i64 0, .int .i64 0, .int .i64 0, .int .i64 0, .int .i64 0, .int .i64 0, .int .i64 0] 116))).mono ?_); rintro e w2 ⟨rfl, hb⟩; have hb2 := below_then ((Below.refl w1.heap.size w1).alloc (Nat.le_refl _) (.cells #[.int .i64 0, .int .i64 0, .int .i64 0, .int .i64 0, .int .i64 0, .int .i64 0, .int .i64 0, .int .i64 0] 116)) (Nat.le_refl _) hb; have HABw2 := Lib.hid (And.intro (HABw1.out.1.below hb2) (HABw1.out.2.below hb2)); have HWw2 := Lib.hid (below_then HWw1.out (Nat.le_refl _) hb2); have hszw2 := HABw2.out.2.lt; have naw2 : w2.heap.size ≠ w.heap.size := (by omega); have nbw2 : w2.heap.size ≠ w.heap.size + 1 := (by omega); obtain ⟨⟨-, a0, a1, a2, a3, a4, a5, a6, a7, a8, a9⟩, ⟨-, b0, b1, b2, b3, b4, b5, b6, b7, b8, b9⟩⟩ := HABw2.out; simp only [] at a0 a1 a2 a3 a4 a5 a6 a7 a8 a9 b0 b1 b2 b3 b4 b5 b6 b7 b8 b9; have hS : w2.cell? ⟨w.heap.size, 0, none⟩ = some (.int .i64 at1) ∧ w2.cell? ⟨w.heap.size, 1, none⟩ = some (.int .i64 ak1) ∧ w2.cell? ⟨w.heap.size, 2, none⟩ = some (.string akey1) ∧ w2.cell? ⟨w.heap.size, 3, none⟩ = some (.string afin1) ∧ w2.cell? ⟨w.heap.size, 4, none⟩ = some (.string aval1) ∧ w2.cell? ⟨w.heap.size, 5, none⟩ = some (.int .i64 aex1) ∧ w2.cell? ⟨w.heap.size, 6, none⟩ = some (.int .i64 ap1) ∧ w2.cell? ⟨w.heap.size, 7, none⟩ = some (.int .i64 al1) ∧ w2.cell? ⟨w.heap.size, 8, none⟩ = some (.int .i64 aw1) ∧ w2.cell? ⟨w.heap.size, 9, none⟩ = some (.slice ao1 n1 ac1) ∧ w2.cell? ⟨w.heap.size + 1, 0, none⟩ = some (.int .i64 at2) ∧ w2.cell? ⟨w.heap.size + 1, 1, none⟩ = some (.int .i64 ak2) ∧ w2.cell? ⟨w.heap.size + 1, 2, none⟩ = some (.string akey2) ∧ w2.cell? ⟨w.heap.size + 1, 3, none⟩ = some (.string afin2) ∧ w2.cell? ⟨w.heap.size + 1, 4, none⟩ = some (.string aval2) ∧ w2.cell? ⟨w.heap.size + 1, 5, none⟩ = some (.int .i64 aex2) ∧ w2.cell? ⟨w.heap.size + 1, 6, none⟩ = some (.int .i64 ap2) ∧ w2.cell? ⟨w.heap.size + 1, 7, none⟩ = some (.int .i64 al2) ∧ w2.cell? ⟨w.heap.size + 1, 8, none⟩ = some (.int .i64 aw2) ∧ w2.cell? ⟨w.heap.size + 1, 9, none⟩ = some (.slice ao2 n2 ac2) := ⟨a0, a1, a2, a3, a4, a5, a6, a7, a8, a9, b0, b1, b2, b3, b4, b5, b6, b7, b8, b9⟩; clear a0 a1 a2 a3 a4 a5 a6 a7 a8 a9 b0 b1 b2 b3 b4 b5 b6 b7 b8 b9; have HK := Lib.hid ((K8.new w1).below hb); obtain ⟨kl, ⟨z0, k0⟩, ⟨z1, k1⟩, ⟨z2, k2⟩, ⟨z3, k3⟩, ⟨z4, k4⟩, ⟨z5, k5⟩, ⟨z6, k6⟩, ⟨z7, k7⟩, g0, g1, g2, g3, g4, g5, g6, g7⟩ := HK.out; clear hb hb2)
      | (go_at_call 74; (with_reducible refine (HS.out _).mono ?_); rintro e w1 ⟨rfl, hb⟩; have hb2 := below_then ((Below.refl W0.heap.size W0).drew) (Nat.le_refl _) hb; have HABw1 := Lib.hid (And.intro (HAB.out.1.below hb2) (HAB.out.2.below hb2)); have HWw1 := Lib.hid (below_then HW.out (Nat.le_refl _) hb2); have hszw1 := HABw1.out.2.lt; have naw1 : w1.heap.size ≠ w.heap.size := (by omega); have nbw1 : w1.heap.size ≠ w.heap.size + 1 := (by omega); obtain ⟨⟨-, a0, a1, a2, a3, a4, a5, a6, a7, a8, a9⟩, ⟨-, b0, b1, b2, b3, b4, b5, b6, b7, b8, b9⟩⟩ := HABw1.out; simp only [] at a0 a1 a2 a3 a4 a5 a6 a7 a8 a9 b0 b1 b2 b3 b4 b5 b6 b7 b8 b9; have hS : w1.cell? ⟨w.heap.size, 0, none⟩ = some (.int .i64 at1) ∧ w1.cell? ⟨w.heap.size, 1, none⟩ = some (.int .i64 ak1) ∧ w1.cell? ⟨w.heap.size, 2, none⟩ = some (.string akey1) ∧ w1.cell? ⟨w.heap.size, 3, none⟩ = some (.string afin1) ∧ w1.cell? ⟨w.heap.size, 4, none⟩ = some (.string aval1) ∧ w1.cell? ⟨w.heap.size, 5, none⟩ = some (.int .i64 aex1) ∧ w1.cell? ⟨w.heap.size, 6, none⟩ = some (.int .i64 ap1) ∧ w1.cell? ⟨w.heap.size, 7, none⟩ = some (.int .i64 al1) ∧ w1.cell? ⟨w.heap.size, 8, none⟩ = some (.int .i64 aw1) ∧ w1.cell? ⟨w.heap.size, 9, none⟩ = some (.slice ao1 n1 ac1) ∧ w1.cell? ⟨w.heap.size + 1, 0, none⟩ = some (.int .i64 at2) ∧ w1.cell? ⟨w.heap.size + 1, 1, none⟩ = some (.int .i64 ak2) ∧ w1.cell? ⟨w.heap.size + 1, 2, none⟩ = some (.string akey2) ∧ w1.cell? ⟨w.heap.size + 1, 3, none⟩ = some (.string afin2) ∧ w1.cell? ⟨w.heap.size + 1, 4, none⟩ = some (.string aval2) ∧ w1.cell? ⟨w.heap.size + 1, 5, none⟩ = some (.int .i64 aex2) ∧ w1.cell? ⟨w.heap.size + 1, 6, none⟩ = some (.int .i64 ap2) ∧ w1.cell? ⟨w.heap.size + 1, 7, none⟩ = some (.int .i64 al2) ∧ w1.cell? ⟨w.heap.size + 1, 8, none⟩ = some (.int .i64 aw2) ∧ w1.cell? ⟨w.heap.size + 1, 9, none⟩ = some (.slice ao2 n2 ac2) := ⟨a0, a1, a2, a3, a4, a5, a6, a7, a8, a9, b0, b1, b2, b3, b4, b5, b6, b7, b8, b9⟩; clear a0 a1 a2 a3 a4 a5 a6 a7 a8 a9 b0 b1 b2 b3 b4 b5 b6 b7 b8 b9; clear hb hb2)
      | (go_at_call 74; (with_reducible refine (HS.out _).mono ?_); rintro e w1 ⟨rfl, hb⟩; have hb2 := below_then (((Below.refl W0.heap.size W0).alloc (Nat.le_refl _) (.cells #[.int .i64 0, .int .i64 0, .int .i64 0, .int .i64 0, .int .i64 0, .int .i64 0, .int .i64 0, .int .i64 0] 116)).drew) (Nat.le_refl _) hb; have HABw1 := Lib.hid (And.intro (HAB.out.1.below hb2) (HAB.out.2.below hb2)); have HWw1 := Lib.hid (below_then HW.out (Nat.le_refl _) hb2); have hszw1 := HABw1.out.2.lt; have naw1 : w1.heap.size ≠ w.heap.size := (by omega); have nbw1 : w1.heap.size ≠ w.heap.size + 1 := (by omega); obtain ⟨⟨-, a0, a1, a2, a3, a4, a5, a6, a7, a8, a9⟩, ⟨-, b0, b1, b2, b3, b4, b5, b6, b7, b8, b9⟩⟩ := HABw1.out; simp only [] at a0 a1 a2 a3 a4 a5 a6 a7 a8 a9 b0 b1 b2 b3 b4 b5 b6 b7 b8 b9; have hS : w1.cell? ⟨w.heap.size, 0, none⟩ = some (.int .i64 at1) ∧ w1.cell? ⟨w.heap.size, 1, none⟩ = some (.int .i64 ak1) ∧ w1.cell? ⟨w.heap.size, 2, none⟩ = some (.string akey1) ∧ w1.cell? ⟨w.heap.size, 3, none⟩ = some (.string afin1) ∧ w1.cell? ⟨w.heap.size, 4, none⟩ = some (.string aval1) ∧ w1.cell? ⟨w.heap.size, 5, none⟩ = some (.int .i64 aex1) ∧ w1.cell? ⟨w.heap.size, 6, none⟩ = some (.int .i64 ap1) ∧ w1.cell? ⟨w.heap.size, 7, none⟩ = some (.int .i64 al1) ∧ w1.cell? ⟨w.heap.size, 8, none⟩ = some (.int .i64 aw1) ∧ w1.cell? ⟨w.heap.size, 9, none⟩ = some (.slice ao1 n1 ac1) ∧ w1.cell? ⟨w.heap.size + 1, 0, none⟩ = some (.int .i64 at2) ∧ w1.cell? ⟨w.heap.size + 1, 1, none⟩ = some (.int .i64 ak2) ∧ w1.cell? ⟨w.heap.size + 1, 2, none⟩ = some (.string akey2) ∧ w1.cell? ⟨w.heap.size + 1, 3, none⟩ = some (.string afin2) ∧ w1.cell? ⟨w.heap.size + 1, 4, none⟩ = some (.string aval2) ∧ w1.cell? ⟨w.heap.size + 1, 5, none⟩ = some (.int .i64 aex2) ∧ w1.cell? ⟨w.heap.size + 1, 6, none⟩ = some (.int .i64 ap2) ∧ w1.cell? ⟨w.heap.size + 1, 7, none⟩ = some (.int .i64 al2) ∧ w1.cell? ⟨w.heap.size + 1, 8, none⟩ = some (.int .i64 aw2) ∧ w1.cell? ⟨w.heap.size + 1, 9, none⟩ = some (.slice ao2 n2 ac2) := ⟨a0, a1, a2, a3, a4, a5, a6, a7, a8, a9, b0, b1, b2, b3, b4, b5, b6, b7, b8, b9⟩; clear a0 a1 a2 a3 a4 a5 a6 a7 a8 a9 b0 b1 b2 b3 b4 b5 b6 b7 b8 b9; have HK := Lib.hid ((K8.new W0).below (below_then ((Below.refl _ (W0.alloc (.cells #[.int .i64 0, .int .i64 0, .int .i64 0, .int .i64 0, .int .i64 0, .int .i64 0, .int .i64 0, .int .i64 0] 116))).drew) (Nat.le_refl _) hb)); clear hb hb2)
      | (go_at_call 93; (with_reducible refine (refnum_any _ _ _).mono ?_); rintro e w9 ⟨rfl, rfl⟩)
      | (go_at_call 94; (with_reducible refine (reftext_any _ _ _).mono ?_); rintro e w9 ⟨rfl, rfl⟩)))
    all_goals
      clear HAB HS HO
      go_wp2_with fail
      go_meet
    · exact ⟨w2.heap.size, rfl, n8_new _ _ _ _ _ _ _ _ _ _, HWw2.out.alloc HWw2.out.size _⟩
    rotate_right 1
    · exact ⟨W0.heap.size, rfl, n8_put HK.out _ _ _ _ _ _ _ _, n8_put_below HWw2.out (by omega) _ _ _ _ _ _ _ _⟩
    all_goals exact ⟨w1.heap.size, rfl, n8_put HK.out _ _ _ _ _ _ _ _, n8_put_below HWw2.out (by omega) _ _ _ _ _ _ _ _⟩
  case rest =>
    obtain ⟨kk, rfl, hn8, hbb⟩ := hcut
    rw [← HL8.out] at hn8
    clear HL8 HS HO HAB
    have HN := Lib.hid hn8
    have HB := Lib.hid hbb
    have hlen := hn8.len
    have HL := Lib.hid hlen
    clear hn8 hbb hlen
    go_wp2_with fail
    go_loop [6] (fun iv => ∃ k : Nat, k ≤ 8 ∧ iv = .int .i64 k ∧ Hid (orL (l8.drop k) = Q)) (fun iv => 8 - (intOf iv).toNat)
    case atStart => exact ⟨0, by omega, rfl, Lib.hid (by rw [HQ.out]; rfl)⟩
    case round =>
      obtain ⟨k, hk, rfl, hi⟩ := hrel
      by_cases hlt : k < 8
      · have hkl : k < l8.length := by have := HL.out; omega
        obtain ⟨x, hx⟩ : ∃ x, l8[k]? = some x := ⟨_, List.getElem?_eq_getElem hkl⟩
        have hc := HN.out.get k x hx
        have hst := orL_drop hx
        rw [hi.out] at hst
        have HST := Lib.hid hst
        clear hst hi hx
        by_cases hz : x = 0
        · subst hz
          have H2 := Lib.hid (show orL (l8.drop (k + 1)) = Q from by have h := HST.out; rw [if_pos rfl] at h; exact h.symm)
          clear HST
          go_wp2_with fail
          go_round
          case rel => exact ⟨k + 1, by omega, by go_num, H2⟩
          case measure => simp [intOf]; omega
        · have H2 := Lib.hid (show x = Q from by have h := HST.out; rw [if_neg hz] at h; exact h.symm)
          clear HST
          go_wp2_with fail
          go_ret
          exact ⟨ret_int H2.out, HB.out⟩
      · obtain rfl : k = 8 := by omega
        have H2 := Lib.hid (show (0 : Int) = Q from by rw [← hi.out, List.drop_of_length_le (by have := HL.out; omega)]; rfl)
        clear hi
        go_wp2_with fail
        go_ret
        exact ⟨ret_int H2.out, HB.out⟩
end Go.Proofs.YtmjelcjdfamikaaGreatDoor.Mut
