/- The tree of nothing: the walk of merkle.Of at the content of nothing; the law's alive (layer 24). -/
import Derived.Test.YtehoanpjlinfaaaMrkNone
import Derived.Laws.Tables
import Derived.Deep.WholeRow
import Derived.Great.BuildSlice
import Derived.Laws.CopyOwn
import Derived.Great.Walk
namespace Go.Proofs.Ytehoanpjlinfaaa.Mrk
open Go.RowKit Go.Proofs.Ytehoanpjlinfaaa.Ints

/-! The tree of nothing: the same sum at all nodes of a level. -/
def lev : Nat → Nat
  | 0 => 14695981039346656037
  | k + 1 => nodeF (lev k) (lev k)
theorem lev_lt : ∀ k, lev k < 18446744073709551616
  | 0 => by decide
  | k + 1 => nodeF_lt _ _
def noneT (j : Nat) : Nat := if 16 ≤ j then lev 0 else if 8 ≤ j then lev 1 else if 4 ≤ j then lev 2 else if 2 ≤ j then lev 3 else if 1 ≤ j then lev 4 else 0
theorem noneT_wide : Wide noneT := by
  intro i _
  unfold noneT
  repeat' split
  all_goals first | exact lev_lt _ | omega
theorem noneT_ok : ∀ i, i < 16 → 1 ≤ i → okAt noneT i := by
  intro i h1 h2
  unfold okAt noneT
  by_cases h8 : 8 ≤ i
  · rw [if_neg (by omega), if_pos h8, if_pos (by omega), if_pos (by omega)]; rfl
  by_cases h4 : 4 ≤ i
  · rw [if_neg (by omega), if_neg h8, if_pos h4, if_neg (by omega), if_pos (by omega), if_neg (by omega), if_pos (by omega)]; rfl
  by_cases h2 : 2 ≤ i
  · rw [if_neg (by omega), if_neg h8, if_neg h4, if_pos h2, if_neg (by omega), if_neg (by omega), if_pos (by omega), if_neg (by omega), if_neg (by omega), if_pos (by omega)]; rfl
  · rw [if_neg (by omega), if_neg h8, if_neg h4, if_neg h2, if_pos (by omega), if_neg (by omega), if_neg (by omega), if_neg (by omega), if_pos (by omega), if_neg (by omega), if_neg (by omega), if_neg (by omega), if_pos (by omega)]; rfl

/-! Reckoned. -/
def lowK : Nat → Nat → List Nat
  | 0, _ => []
  | f + 1, n => n % 128 :: (if n / 128 = 0 then [] else lowK f (n / 128))
theorem low_fuel : ∀ (f n : Nat), n < 128 ^ (f + 1) → low n = lowK (f + 1) n
  | 0, n, h => by
    have : n / 128 = 0 := by rw [Nat.pow_one] at h; omega
    rw [low, lowK, if_pos this, if_pos this]
  | f + 1, n, h => by
    rw [low, lowK]
    split
    · rfl
    · rw [low_fuel f (n / 128) (by rw [Nat.div_lt_iff_lt_mul (by decide)]; rw [Nat.pow_succ] at h; exact h)]
def putK (n : Nat) : List Nat := hi (lowK 10 n).tail.reverse ++ [n % 128]
theorem put_fuel {n : Nat} (h : n < 18446744073709551616) : putF n = putK n := by
  unfold putF putK; rw [low_fuel 9 n (Nat.lt_of_lt_of_le h (by decide))]
def nodeK (a b : Nat) : Nat := sumF (sumF 14695981039346656037 (putK (a / 4))) (putK (b / 4) ++ [a % 4 * 4 + b % 4])
theorem node_fuel {a b : Nat} (ha : a < 18446744073709551616) (hb : b < 18446744073709551616) : nodeF a b = nodeK a b := by
  unfold nodeF nodeK; rw [put_fuel (by omega), put_fuel (by omega)]
def levK : Nat → Nat
  | 0 => 14695981039346656037
  | k + 1 => nodeK (levK k) (levK k)
theorem lev_fuel : ∀ k, lev k = levK k
  | 0 => rfl
  | k + 1 => by rw [lev, node_fuel (lev_lt k) (lev_lt k), lev_fuel k]; rfl
theorem lev4 : lev 4 ≠ 0 := by
  rw [lev_fuel]
  have h : Nat.beq (levK 4) 0 = false := by kernel_rfl
  exact Nat.ne_of_beq_eq_false h

theorem TreeAt.frozen {W : World} {t : TypeId} {b : Nat} {a : Nat → Nat} (h : TreeAt W t b a) (i : Nat) : W.frozen? ⟨b, i, none⟩ = false := frozen_of_row W b i (vT a) t h
def upd (a : Nat → Nat) (i x : Nat) : Nat → Nat := fun j => if j = i then x else a j
theorem TreeAt.set {W : World} {t : TypeId} {b : Nat} {a : Nat → Nat} (h : TreeAt W t b a) (i x : Nat) : TreeAt (W.setCell ⟨b, i, none⟩ (.int .u64 x)) t b (upd a i x) := by
  have h2 := heap_setCell_same W b i (vT a) t (.int .u64 x) h
  unfold TreeAt
  rw [h2]
  congr 2
  apply Array.ext_getElem?
  intro j
  by_cases hj : j < 32
  · by_cases hij : i = j
    · subst hij
      simp [vT, lT, upd, hj]
    · have hij' : ¬ j = i := fun e => hij e.symm
      rw [Array.getElem?_setIfInBounds_ne hij]
      simp [vT, lT, upd, hj, hij']
  · simp [vT, lT, hj]
theorem TreeAt.ext {W : World} {t : TypeId} {b : Nat} {a a' : Nat → Nat} (h : TreeAt W t b a) (e : ∀ i, i < 32 → a i = a' i) : TreeAt W t b a' := by
  have : vT a = vT a' := by
    unfold vT lT
    congr 1
    apply List.map_congr_left
    intro i hi
    rw [e i (List.mem_range.1 hi)]
  unfold TreeAt
  rw [← this]
  exact h
theorem zero_tree : (zeroValue 52).run Try.prog = fun w => .ok (.agg (vT fun _ => 0)) w := by
  funext w
  exact (zero_of_info (P := Try.prog) (t := 52) (v := .agg (vT fun _ => 0)) (n := 32) (by kernel_rfl)).1 w

theorem push3 {α : Type} (H : Array α) (x0 x1 x2 : α) : (((H.push x0).push x1).push x2)[H.size]? = some x0 ∧ (((H.push x0).push x1).push x2)[H.size + 1]? = some x1 ∧ (((H.push x0).push x1).push x2)[H.size + 1 + 1]? = some x2 := by
  refine ⟨?_, ?_, ?_⟩ <;> simp only [Array.getElem?_push, Array.size_push] <;> (repeat' split) <;> (first | rfl | (exfalso; omega) | exact absurd trivial (by assumption))
theorem built_tree : Try.prog.built 52 [] = some (vT fun _ => 0) := by kernel_rfl
theorem wp_alloc_tree {ops : Array Oper} {rest : List Oper} {o : Oper} {a : Act} {w : World} {Q : Exit → Act → World → Prop} (hg : o.guard = none) (hop : o.op = .alloc 52) (Z : Array Value) (hZ : Z = vT fun _ => 0)
    (h : wpList Try.prog ops Q rest (a.put o.dst (.pointer (some ⟨w.heap.size, 0, none⟩))) (w.alloc (.cells Z 52))) : wpList Try.prog ops Q (o :: rest) a w := by
  subst hZ
  refine Great.wpList_allocTo hg o.dst rfl (.pointer (some ⟨w.heap.size, 0, none⟩)) (.cells (vT fun _ => 0) 52) ?_ h
  unfold execOp
  simp only [hop, Instr.alloc, newVar, newRow, Sem.run_bind, Sem.run_pure, zero_tree, Result.andThen_ok, run_newObj_alloc, Value.cells]
theorem wp_build_tree {ops : Array Oper} {rest : List Oper} {o : Oper} {a : Act} {w : World} {Q : Exit → Act → World → Prop} (hg : o.guard = none) (hop : o.op = .build 52 #[]) (Z : Array Value) (hZ : Z = vT fun _ => 0)
    (h : wpList Try.prog ops Q rest (a.put o.dst (.agg Z)) w) : wpList Try.prog ops Q (o :: rest) a w := by
  subst hZ
  exact wpList_buildTo hg 52 #[] hop o.dst rfl (vT fun _ => 0) (by rw [Array.map_empty]; exact built_tree) h
theorem vT_one (a : Nat → Nat) : (vT a).all (·.oneCell') = true := by
  rw [Array.all_eq_true_iff_forall_mem]
  intro x hx
  simp [vT, lT] at hx
  obtain ⟨i, _, rfl⟩ := hx
  rfl

def noneC : Array Value := #[.slice none 0 0, .slice none 0 0, .slice none 0 0]
/-- What the walk of Of stands on: the content, the result's variable, the tree. -/
structure OfSt (w : World) (N : Nat) (a : Nat → Nat) (W : World) : Prop where
  tree : TreeAt W 52 (N + 1 + 1) a
  res : TreeAt W 52 (N + 1) fun _ => 0
  con : W.heap[N]? = some (.cells noneC 104 (0, 0))
  below : Below N w W
theorem OfSt.later {w W W' : World} {N : Nat} {a : Nat → Nat} (h : OfSt w N a W) (hb : Below W.heap.size W W') : OfSt w N a W' :=
  ⟨h.tree.below hb, h.res.below hb, (hb.block N (Array.getElem?_eq_some_iff.1 h.con).1).trans h.con, h.below.trans (hb.mono (Nat.le_of_lt (Array.getElem?_eq_some_iff.1 h.con).1))⟩
theorem OfSt.set {w W : World} {N : Nat} {a : Nat → Nat} (h : OfSt w N a W) (i x : Nat) : OfSt w N (upd a i x) (W.setCell ⟨N + 1 + 1, i, none⟩ (.int .u64 x)) := by
  have hg : W.grownBy (W.setCell ⟨N + 1 + 1, i, none⟩ (.int .u64 x)) (some (N + 1 + 1)) := grown_setCell (World.grownBy.refl _ _) (Or.inl rfl) _
  exact ⟨h.tree.set i x, h.res.kept hg (by simp), (hg.block N (Array.getElem?_eq_some_iff.1 h.con).1 (by simp; omega)).trans h.con, h.below.setCell (p := ⟨N + 1 + 1, i, none⟩) (by simp; omega) _⟩
theorem OfSt.ext {w W : World} {N : Nat} {a a' : Nat → Nat} (h : OfSt w N a W) (e : ∀ i, i < 32 → a i = a' i) : OfSt w N a' W := ⟨h.tree.ext e, h.res, h.con, h.below⟩
def leaves (i : Nat) : Nat → Nat := fun j => if 16 ≤ j ∧ j < 16 + i then lev 0 else 0
def above (i : Nat) : Nat → Nat := fun j => if i < j then noneT j else 0
theorem leaves_next {i : Nat} : ∀ j, j < 32 → upd (leaves i) (16 + i) (lev 0) j = leaves (i + 1) j := by
  intro j hj
  unfold upd leaves
  split <;> split <;> (try split) <;> first | rfl | omega
theorem leaves_all : ∀ j, j < 32 → leaves 16 j = above 15 j := by
  intro j hj
  unfold leaves above noneT
  by_cases h : 16 ≤ j
  · rw [if_pos (by omega), if_pos (by omega), if_pos h]
  · rw [if_neg (by omega), if_neg (by omega)]
theorem above_next {i : Nat} (hi : 0 < i) : ∀ j, j < 32 → upd (above i) i (noneT i) j = above (i - 1) j := by
  intro j hj
  unfold upd above
  by_cases h : j = i
  · subst h; rw [if_pos rfl, if_pos (by omega)]
  · rw [if_neg h]
    by_cases h2 : i < j
    · rw [if_pos h2, if_pos (by omega)]
    · rw [if_neg h2, if_neg (by omega)]
theorem above_none : ∀ j, j < 32 → above 0 j = noneT j := by
  intro j hj
  unfold above
  by_cases h : 0 < j
  · rw [if_pos h]
  · obtain rfl : j = 0 := by omega
    rfl

set_option maxHeartbeats 4000000 in
set_option maxRecDepth 100000 in
theorem of_none (w : World) : Calls Try.prog 56 #[vNone] w fun e w' => e = .returned (.agg (vT noneT)) ∧ Below w.heap.size w w' := by
  have hZs : (Try.prog.info? 52).map (·.size) = some (vT fun _ => 0).size := by rw [vT_size]; exact size52
  have hZ1 := vT_one (fun _ => 0)
  obtain ⟨Z, hZ⟩ : ∃ Z, Z = vT fun _ => 0 := ⟨_, rfl⟩
  rw [← hZ] at hZs hZ1
  have HZ := Lib.hid hZ
  have HZS := Lib.hid hZs
  have HZ1 := Lib.hid hZ1
  clear hZ hZs hZ1
  unfold vNone
  go_enter Try.func56, Try.ntmps56
  go_upto_region 1 with (first | (refine wp_alloc_tree rfl rfl Z HZ.out ?_))
  apply wp_region_lit
  refine wp_build_tree rfl rfl Z HZ.out ?_
  refine wp_alloc_tree rfl rfl Z HZ.out ?_
  refine wpList_store_row rfl 52 _ _ rfl _ Z rfl rfl 52 Z (heap_alloc_last _ _) HZS.out rfl HZ1.out ?_
  rw [World.setRow_alloc_new]
  obtain ⟨W, hW⟩ : ∃ W, W = ((w.alloc (.cells #[Value.slice none 0 0, Value.slice none 0 0, Value.slice none 0 0] 104)).alloc (.cells Z 52)).alloc (.cells Z 52) := ⟨_, rfl⟩
  have hw3 : W.heap = ((w.heap.push (.cells #[Value.slice none 0 0, Value.slice none 0 0, Value.slice none 0 0] 104)).push (.cells Z 52)).push (.cells Z 52) := by rw [hW]; rfl
  have hC : W.heap[w.heap.size]? = some (.cells noneC 104 (0, 0)) := by rw [hw3]; exact (push3 w.heap _ _ _).1
  have hR : TreeAt W 52 (w.heap.size + 1) fun _ => 0 := by unfold TreeAt; rw [hw3, ← HZ.out]; exact (push3 w.heap _ _ _).2.1
  have hT : TreeAt W 52 (w.heap.size + 1 + 1) fun _ => 0 := by unfold TreeAt; rw [hw3, ← HZ.out]; exact (push3 w.heap _ _ _).2.2
  have hb0 : Below w.heap.size w W := by rw [hW]; exact (((Below.refl _ _).alloc (Nat.le_refl _) _).alloc (by simp) _).alloc (by simp; omega) _
  rw [← hW]
  have S0 : OfSt w w.heap.size (fun _ => 0) W := ⟨hT, hR, hC, hb0⟩
  have S1 := Lib.hid (S0.ext (a' := leaves 0) (fun j _ => by unfold leaves; rw [if_neg (by omega)]))
  clear hW hw3 hC hR hT hb0 S0
  go_upto_region 3 with fail
  go_loopw [10] (fun iv wr => ∃ i : Nat, iv = .int .i64 i ∧ i ≤ 16 ∧ Hid (OfSt w w.heap.size (leaves i) wr)) (fun iv _ => 16 - (intOf iv).toNat)
  case atStart => exact ⟨0, rfl, by omega, S1⟩
  case round =>
    obtain ⟨i, rfl, hi, hs⟩ := hrel
    by_cases hlt : i < 16
    · have m1 : IntKind.i64.wrap (16 + (i : Int)) = 16 + (i : Int) := IntWalk.i64_in _ (by omega)
      have m2 : (0 : Int) ≤ 16 + (i : Int) := by omega
      have m3 : (16 + (i : Int)).toNat = 16 + i := by omega
      have m4 : 16 + (i : Int) < 32 := by omega
      have m5 : 16 + i < 32 := by omega
      have c1 := hs.out.tree.cell (i := 16 + i) m5
      have f1 := hs.out.tree.frozen (16 + i)
      have S2 := Lib.hid ((hs.out.set (16 + i) (lev 0)).ext leaves_next)
      go_wp2_with fail
      go_roundw
      case rel => exact ⟨i + 1, by go_num, by omega, S2⟩
      case measure => simp [intOf]; omega
    · obtain rfl : i = 16 := by omega
      have S3 := Lib.hid (hs.out.ext leaves_all)
      have g0 : wr.cell? ⟨w.heap.size, 0, none⟩ = some (.slice none 0 0) := by rw [cell_of_row wr w.heap.size 0 noneC _ (0, 0) hs.out.con]; rfl
      have g1 : wr.cell? ⟨w.heap.size, 1, none⟩ = some (.slice none 0 0) := by rw [cell_of_row wr w.heap.size 1 noneC _ (0, 0) hs.out.con]; rfl
      have g2 : wr.cell? ⟨w.heap.size, 2, none⟩ = some (.slice none 0 0) := by rw [cell_of_row wr w.heap.size 2 noneC _ (0, 0) hs.out.con]; rfl
      have hal := Lib.hid (all_none wr)
      unfold vNone at hal
      go_wp2_with fail
      refine hal.out.mono ?_
      rintro e w2 ⟨v, rfl, ⟨ao, cap, rfl⟩, hb2⟩
      have S4 := Lib.hid (S3.out.later hb2)
      go_wp2_with fail
      go_loopw [20] (fun iv wr => iv = .int .i64 0 ∧ Hid (OfSt w w.heap.size (above 15) wr)) (fun _ _ => 0)
      case atStart => exact ⟨rfl, S4⟩
      case round =>
        obtain ⟨rfl, hs⟩ := hrel
        go_wp2_with fail
        go_loopw [8] (fun iv wr => ∃ i : Nat, iv = .int .i64 i ∧ i ≤ 15 ∧ Hid (OfSt w w.heap.size (above i) wr)) (fun iv _ => (intOf iv).toNat)
        case atStart => exact ⟨15, rfl, by omega, hs⟩
        case round =>
          obtain ⟨i, rfl, hi, hs⟩ := hrel
          by_cases h0 : 0 < i
          · obtain ⟨j, hj⟩ : ∃ j, j = 2 * i := ⟨_, rfl⟩
            have m1 : IntKind.i64.wrap (2 * (i : Int)) = (j : Int) := by rw [IntWalk.i64_in _ (by omega)]; omega
            have m2 : IntKind.i64.wrap ((j : Int) + 1) = (j : Int) + 1 := IntWalk.i64_in _ (by omega)
            have m3 : (0 : Int) ≤ (j : Int) + 1 := by omega
            have m4 : ((j : Int) + 1).toNat = j + 1 := by omega
            have m5 : j < 32 := by omega
            have m6 : j + 1 < 32 := by omega
            have m7 : (j : Int) + 1 < 32 := by omega
            have m8 : IntKind.i64.wrap ((i : Int) - 1) = ((i - 1 : Nat) : Int) := by rw [IntWalk.i64_in _ (by omega)]; omega
            have m9 : i < 32 := by omega
            have e2 : above i j = noneT j := if_pos (by omega)
            have e3 : above i (j + 1) = noneT (j + 1) := if_pos (by omega)
            have c2 := hs.out.tree.cell (i := j) m5
            have c3 := hs.out.tree.cell (i := j + 1) m6
            have hok : noneT i = nodeF (noneT j) (noneT (j + 1)) := by rw [hj]; exact noneT_ok i (by omega) h0
            have hnd := fun w' => node_any (noneT j) (noneT (j + 1)) w' (noneT_wide j m5) (noneT_wide (j + 1) m6)
            rw [← hok] at hnd
            rw [e2] at c2
            rw [e3] at c3
            generalize noneT j = x at *
            generalize noneT (j + 1) = y at *
            have hnx : ∀ k, k < 32 → upd (above i) i (noneT i) k = above (i - 1) k := above_next h0
            obtain ⟨z, hz⟩ : ∃ z, z = noneT i := ⟨_, rfl⟩
            rw [← hz] at hnd hnx
            have HND := Lib.hid hnd
            have HNX := Lib.hid hnx
            have hT := hs.out.tree.lt
            obtain ⟨W0, rfl⟩ : ∃ W0 : World, W0 = wr := ⟨_, rfl⟩
            clear hok hnd hnx hz e2 e3 hj
            go_wp2_with fail
            refine wp_region_calm_tail 12 (by kernel_rfl) (by kernel_rfl) ?_
            simp only [List.take_succ_cons, List.take_zero, List.drop_succ_cons, List.drop_zero]
            repeat (go_big_quiet_step ((go_at_call 54; exact calm (HND.out _))))
            refine wpQuiet_nil ?_
            rintro _ ⟨q, rfl⟩
            have hsq := hs.out.later q.below
            have cq := hsq.tree.cell (i := i) m9
            have fq := hsq.tree.frozen i
            have S5 := Lib.hid ((hsq.set i z).ext HNX.out)
            clear hsq
            go_wp2_with fail
            go_roundw
            case rel => exact ⟨i - 1, by first | rfl | go_num, by omega, S5⟩
            case measure => simp [intOf]; omega
          · obtain rfl : i = 0 := by omega
            have S6 := Lib.hid (hs.out.ext above_none)
            have hsz : (Try.prog.info? 52).map (·.size) = some (vT noneT).size := by rw [vT_size]; exact size52
            have hone := vT_one noneT
            have hq : (vT fun _ => 0).size = (vT noneT).size := by rw [vT_size, vT_size]
            obtain ⟨Y, hY⟩ : ∃ Y, Y = vT noneT := ⟨_, rfl⟩
            obtain ⟨Y0, hY0⟩ : ∃ Y, Y = vT fun _ => 0 := ⟨_, rfl⟩
            have h6t : wr.heap[w.heap.size + 1 + 1]? = some (.cells Y 52 (0, 0)) := by rw [hY]; exact S6.out.tree
            have h6r : wr.heap[w.heap.size + 1]? = some (.cells Y0 52 (0, 0)) := by rw [hY0]; exact S6.out.res
            rw [← hY] at hsz hone hq
            have HY := Lib.hid hY
            rw [← hY0] at hq
            have h7 : (wr.setRow (w.heap.size + 1) Y).heap[w.heap.size + 1]? = some (.cells Y 52 (0, 0)) := setRow_heap _ _ _ _ _ _ h6r
            have h8 : Below w.heap.size w (wr.setRow (w.heap.size + 1) Y) := below_setRow S6.out.below (by omega) _
            have HSZ := Lib.hid hsz
            have HONE := Lib.hid hone
            have HQ := Lib.hid hq
            have H6T := Lib.hid h6t
            have H6R := Lib.hid h6r
            have H7 := Lib.hid h7
            have H8 := Lib.hid h8
            clear hsz hone hq hY hY0 h6t h6r h7 h8
            go_upto_region 17 with fail
            apply wp_region_lit
            refine wpList_load_row rfl 52 _ rfl (w.heap.size + 1 + 1) rfl 52 Y (0, 0) _ H6T.out Try.underlying52 rfl HSZ.out ?_
            refine wpList_store_row rfl 52 _ _ rfl (w.heap.size + 1) Y rfl rfl 52 Y0 H6R.out HSZ.out HQ.out HONE.out ?_
            go_wp2_with fail
            refine bodyPost_ret (v := .agg Y) (results_cell_row rfl _ _ (w.heap.size + 1) 52 Y (0, 0) _ rfl H7.out Try.underlying52 rfl HSZ.out) rfl ⟨by rw [HY.out], H8.out⟩
end Go.Proofs.Ytehoanpjlinfaaa.Mrk
