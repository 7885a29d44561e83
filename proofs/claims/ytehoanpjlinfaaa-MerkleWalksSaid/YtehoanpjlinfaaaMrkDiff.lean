/- Where two trees differ: the walk of merkle.Differ (layer 24). -/
import Derived.Test.YtehoanpjlinfaaaMrkDown
import Derived.Laws.EntriesVeiled
namespace Go.Proofs.Ytehoanpjlinfaaa.Mrk
open Go.RowKit Go.Proofs.Ytehoanpjlinfaaa.Ints

theorem downF_bd (D : Nat → Bool) : ∀ f i, (downF D f i).2 ≤ 2 ^ (f + 1) - 1 ∧ (downF D f i).1.length ≤ 2 ^ f
  | 0, i => by unfold downF; cases D i <;> simp
  | f + 1, i => by
    have h1 := downF_bd D f (2 * i)
    have h2 := downF_bd D f (2 * i + 1)
    have h3 : 1 ≤ 2 ^ f := Nat.one_le_two_pow
    have e : 2 ^ (f + 1 + 1) = 2 * 2 ^ (f + 1) := by rw [Nat.pow_succ 2 (f + 1)]; omega
    have e1 : 2 ^ (f + 1) = 2 * 2 ^ f := by rw [Nat.pow_succ]; omega
    unfold downF
    cases D i
    · simp only [Bool.false_eq_true, if_false, List.length_append]
      omega
    · simp only [if_true, List.length_nil]
      omega

theorem push5 {α : Type} (H : Array α) (x0 x1 x2 x3 x4 : α) : (((((H.push x0).push x1).push x2).push x3).push x4)[H.size]? = some x0 ∧ (((((H.push x0).push x1).push x2).push x3).push x4)[H.size + 1]? = some x1 ∧
    (((((H.push x0).push x1).push x2).push x3).push x4)[H.size + 1 + 1]? = some x2 ∧ (((((H.push x0).push x1).push x2).push x3).push x4)[H.size + 1 + 1 + 1]? = some x3 ∧ (((((H.push x0).push x1).push x2).push x3).push x4)[H.size + 1 + 1 + 1 + 1]? = some x4 := by
  refine ⟨?_, ?_, ?_, ?_, ?_⟩ <;> simp only [Array.getElem?_push, Array.size_push] <;> (repeat' split) <;> (first | rfl | (exfalso; omega) | exact absurd trivial (by assumption))
/-- The variables, just laid. -/
def fnV (N : Nat) : Value := .func (.func 52) #[] #[.pointer (some ⟨N + 1 + 1 + 1, 0, none⟩), .pointer (some ⟨N, 0, none⟩), .pointer (some ⟨N + 1, 0, none⟩), .pointer (some ⟨N + 1 + 1, 0, none⟩), .pointer (some ⟨N + 1 + 1 + 1 + 1, 0, none⟩)]
def laid (w : World) (A B : Array Value) : World := (((((w.alloc (.cells A 52)).alloc (.cells B 52)).alloc (.cells #[.slice none 0 0] 38)).alloc (.cells #[.int .i64 0] 3)).alloc (.cells #[fnV w.heap.size] 98))
theorem laid_below (w : World) (A B : Array Value) : Below w.heap.size w (laid w A B) :=
  ((((((Below.refl _ _).alloc (Nat.le_refl _) _).alloc (by simp) _).alloc (by simp; omega) _).alloc (by simp; omega) _).alloc (by simp; omega) _)
theorem laid_st (w : World) (a b : Nat → Nat) : St w.heap.size (w.heap.size + 5) (w.heap.size + 1 + 1 + 1) (w.heap.size + 1 + 1) (w.heap.size + 1 + 1 + 1 + 1) w.heap.size (w.heap.size + 1) a b [] 0 (laid w (vT a) (vT b)) := by
  have hs : (laid w (vT a) (vT b)).heap.size = w.heap.size + 5 := by simp [laid]
  have hh : (laid w (vT a) (vT b)).heap = ((((w.heap.push (.cells (vT a) 52)).push (.cells (vT b) 52)).push (.cells #[.slice none 0 0] 38)).push (.cells #[.int .i64 0] 3)).push (.cells #[fnV w.heap.size] 98) := rfl
  refine ⟨?_, ⟨.slice none 0 0, ?_, World.ownsRow_nil _ _ _ _⟩, ?_, ?_, ?_, by omega, by omega⟩
  · unfold Boxed; rw [hh]; exact (push5 _ _ _ _ _ _).2.2.2.1
  · unfold Boxed; rw [hh]; exact (push5 _ _ _ _ _ _).2.2.1
  · unfold Boxed; rw [hh]; exact (push5 _ _ _ _ _ _).2.2.2.2
  · unfold TreeAt; rw [hh]; exact (push5 _ _ _ _ _ _).1
  · unfold TreeAt; rw [hh]; exact (push5 _ _ _ _ _ _).2.1

set_option maxHeartbeats 2000000 in
set_option maxRecDepth 100000 in
theorem differ_any (a b : Nat → Nat) (w : World) :
    Calls Try.prog 18 #[.agg (vT a), .agg (vT b)] w fun e w' => ∃ v, e = .returned (.tuple #[v, .int .i64 ((downF (sameAt a b) 4 1).2 : Nat)]) ∧
      w'.ownsRow w.heap.size 3 1 v (downF (sameAt a b) 4 1).1.length ((downF (sameAt a b) 4 1).1.flatMap enI) ∧ Below w.heap.size w w' := by
  have hbd := downF_bd (sameAt a b) 4 1
  have hdn := down_any w.heap.size (w.heap.size + 5) (w.heap.size + 1 + 1 + 1) (w.heap.size + 1 + 1) (w.heap.size + 1 + 1 + 1 + 1) w.heap.size (w.heap.size + 1) a b 4 1 (by decide) (by decide) [] 0 (laid w (vT a) (vT b)) (laid_st w a b) (by omega) (by simp; omega)
  obtain ⟨T, hT⟩ : ∃ T, T = downF (sameAt a b) 4 1 := ⟨_, rfl⟩
  rw [← hT] at hbd hdn ⊢
  have cf := (laid_st w a b).fn.cell
  have hbl := laid_below w (vT a) (vT b)
  obtain ⟨A, hA⟩ : ∃ A, A = vT a := ⟨_, rfl⟩
  obtain ⟨B, hB⟩ : ∃ A, A = vT b := ⟨_, rfl⟩
  rw [← hA, ← hB] at hdn cf hbl ⊢
  obtain ⟨W, hW⟩ : ∃ W, W = laid w A B := ⟨_, rfl⟩
  have hW' : (((((w.alloc (.cells A 52)).alloc (.cells B 52)).alloc (.cells #[.slice none 0 0] 38)).alloc (.cells #[.int .i64 0] 3)).alloc (.cells #[fnV w.heap.size] 98)) = W := by rw [hW]; rfl
  unfold fnV at hW'
  have HW := Lib.hid hW'
  rw [← hW] at hdn cf hbl
  have HDN := Lib.hid hdn
  clear hA hB hbd hdn hT hW hW'
  go_enter Try.func18, Try.ntmps18
  go_upto_region 5 with fail
  rw [HW.out]
  go_wp2_with fail
  refine HDN.out.mono ?_
  rintro e W2 ⟨⟨v, rfl⟩, hs2, hb2⟩
  rw [List.nil_append, Nat.zero_add] at hs2
  have cl := hs2.lk.cell
  obtain ⟨v, hv, hrow⟩ := hs2.row
  have cv := hv.cell
  have hb3 := hbl.trans hb2
  obtain ⟨ao, cap, rfl⟩ := row_form hrow
  obtain ⟨k, hk⟩ : ∃ k, k = T.2 := ⟨_, rfl⟩
  have HR := Lib.hid hrow
  rw [← hk] at cl
  have HK := Lib.hid hk
  clear hs2 hv hrow cf hbl hk
  go_wp2_with fail
  go_quiet (fail)
  have hd := below_drewN (Below.refl W2.heap.size W2) nq
  go_wp2_with fail
  go_ret2
  exact ⟨_, by rw [← HK.out]; rfl, row_below (own_base HR.out (by omega)) hd, below_then hb3 (Nat.le_refl _) hd⟩
end Go.Proofs.Ytehoanpjlinfaaa.Mrk
