/- Is each node's sum that of those below? The walks of Sound, merkle's and the document's; Root (layer 24). -/
import Derived.Test.YtehoanpjlinfaaaMrkRef
namespace Go.Proofs.Ytehoanpjlinfaaa.Mrk
open Go.RowKit Go.Proofs.Ytehoanpjlinfaaa.Ints

def okAt (a : Nat → Nat) (i : Nat) : Prop := a i = nodeF (a (2 * i)) (a (2 * i + 1))
instance (a : Nat → Nat) (i : Nat) : Decidable (okAt a i) := inferInstanceAs (Decidable (_ = _))
def soundF (a : Nat → Nat) : Bool := (List.range 16).all fun i => decide (i = 0) || decide (okAt a i)
theorem soundF_iff {a : Nat → Nat} : soundF a = true ↔ ∀ i, i < 16 → 1 ≤ i → okAt a i := by
  unfold soundF
  rw [List.all_eq_true]
  constructor
  · intro h i hi h1
    have := h i (List.mem_range.2 hi)
    rw [Bool.or_eq_true, decide_eq_true_iff, decide_eq_true_iff] at this
    rcases this with h0 | h0
    · omega
    · exact h0
  · intro h i hi
    rw [Bool.or_eq_true, decide_eq_true_iff, decide_eq_true_iff]
    by_cases h0 : i = 0
    · exact Or.inl h0
    · exact Or.inr (h i (List.mem_range.1 hi) (by omega))
theorem soundF_no {a : Nat → Nat} {i : Nat} (h1 : 1 ≤ i) (h : i < 16) (hn : ¬ okAt a i) : soundF a = false := by
  cases hs : soundF a
  · rfl
  · exact absurd (soundF_iff.1 hs i h h1) hn
theorem soundF_yes {a : Nat → Nat} (h : ∀ i, i < 16 → 1 ≤ i → okAt a i) : soundF a = true := soundF_iff.2 h
/-- A tree's sums are 64 bits wide. -/
def Wide (a : Nat → Nat) : Prop := ∀ i, i < 32 → a i < 18446744073709551616
theorem laid1_at (w : World) (t : TypeId) (a : Nat → Nat) : TreeAt (w.alloc (.cells (vT a) t)) t w.heap.size a := by
  show (w.heap.push _)[w.heap.size]? = _
  simp

set_option maxHeartbeats 2000000 in
set_option maxRecDepth 100000 in
theorem sound_any (a : Nat → Nat) (w : World) (ha : Wide a) :
    Calls Try.prog 20 #[.agg (vT a)] w fun e w' => e = .returned (.bool (soundF a)) ∧ Below w.heap.size w w' := by
  have hat := laid1_at w 52 a
  have hbl : Below w.heap.size w (w.alloc (.cells (vT a) 52)) := (Below.refl _ _).alloc (Nat.le_refl _) _
  obtain ⟨A, hA⟩ : ∃ A, A = vT a := ⟨_, rfl⟩
  rw [← hA] at hat hbl ⊢
  obtain ⟨W, hW⟩ : ∃ W, W = w.alloc (.cells A 52) := ⟨_, rfl⟩
  rw [← hW] at hat hbl
  have HW := Lib.hid hW.symm
  have HAT := Lib.hid hat
  have HWD := Lib.hid ha
  clear hat hW hA ha
  go_enter Try.func20, Try.ntmps20
  go_upto_region 1 with fail
  rw [HW.out]
  go_wp2_with fail
  go_loopw [3] (fun iv wr => ∃ (i : Nat), iv = .int .i64 i ∧ i ≤ 15 ∧ Hid (∀ j, j < 16 → 1 ≤ j → i < j → okAt a j) ∧ Below W.heap.size W wr) (fun iv _ => (intOf iv).toNat)
  case atStart => exact ⟨15, rfl, by omega, Lib.hid (fun j h1 h2 h3 => by omega), Below.refl _ _⟩
  case round =>
    obtain ⟨i, rfl, hi, hs, hb⟩ := hrel
    have T1 := HAT.out.below hb
    by_cases h0 : 0 < i
    · obtain ⟨j, hj⟩ : ∃ j, j = 2 * i := ⟨_, rfl⟩
      have c1 := T1.cell (i := i) (by omega)
      have c2 := T1.cell (i := j) (by omega)
      have c3 := T1.cell (i := j + 1) (by omega)
      have m1 : IntKind.i64.wrap (2 * (i : Int)) = (j : Int) := by rw [IntWalk.i64_in _ (by omega)]; omega
      have m2 : IntKind.i64.wrap ((j : Int) + 1) = (j : Int) + 1 := IntWalk.i64_in _ (by omega)
      have m3 : (0 : Int) ≤ (j : Int) + 1 := by omega
      have m4 : ((j : Int) + 1).toNat = j + 1 := by omega
      have m5 : j < 32 := by omega
      have m6 : j + 1 < 32 := by omega
      have m7 : (j : Int) + 1 < 32 := by omega
      have m8 : IntKind.i64.wrap ((i : Int) - 1) = ((i - 1 : Nat) : Int) := by rw [IntWalk.i64_in _ (by omega)]; omega
      have hx := HWD.out j m5
      have hy := HWD.out (j + 1) m6
      have hok : okAt a i ↔ a i = nodeF (a j) (a (j + 1)) := by rw [hj]; exact Iff.rfl
      obtain ⟨x, hxe⟩ : ∃ x, x = a j := ⟨_, rfl⟩
      obtain ⟨y, hye⟩ : ∃ x, x = a (j + 1) := ⟨_, rfl⟩
      obtain ⟨z, hze⟩ : ∃ x, x = a i := ⟨_, rfl⟩
      rw [← hxe] at hx hok c2
      rw [← hye] at hy hok c3
      rw [← hze] at hok c1
      have hnd : ∀ w', Calls Try.prog 54 #[.int .u64 x, .int .u64 y] w' fun e w'' => e = .returned (.int .u64 (nodeF x y : Nat)) ∧ Below w'.heap.size w' w'' := fun w' => node_any x y w' hx hy
      obtain ⟨N, hN⟩ : ∃ N, N = nodeF x y := ⟨_, rfl⟩
      rw [← hN] at hnd hok
      have HND := Lib.hid hnd
      have HOK := Lib.hid hok
      have hcb := T1.lt
      clear hnd hok hxe hye hze hN hj T1
      by_cases hz : z = N
      · have HZ := Lib.hid hz
        subst hz
        go_wp2_with fail
        refine wp_region_calm (by kernel_rfl) (by kernel_rfl) ?_
        repeat (go_big_quiet_step ((go_at_call 54; exact calm (HND.out _))))
        refine wpQuiet_nil ?_
        rintro _ ⟨q, rfl⟩
        go_wp2_with fail
        go_roundw
        case rel => exact ⟨i - 1, by first | rfl | go_num, by omega, Lib.hid (fun k h1 h2 h3 => by
          by_cases hk : k = i
          · subst hk; exact HOK.out.2 (by first | rfl | trivial)
          · exact hs.out k h1 h2 (by omega)), hb.trans (q.below.mono hb.size)⟩
        case measure => simp [intOf]; omega
      · have hfin : soundF a = false := soundF_no (i := i) (by omega) (by omega) (fun h => hz (HOK.out.1 h))
        have HF := Lib.hid hfin
        clear hfin
        go_wp2_with fail
        refine wp_region_calm (by kernel_rfl) (by kernel_rfl) ?_
        repeat (go_big_quiet_step ((go_at_call 54; exact calm (HND.out _))))
        refine wpQuiet_nil ?_
        rintro _ ⟨q, rfl⟩
        go_wp2_with fail
        go_ret
        exact ⟨by rw [HF.out]; rfl, (hbl.trans (hb.mono hbl.size)).trans (q.below.mono (Nat.le_trans hbl.size hb.size))⟩
    · have hfin : soundF a = true := soundF_yes (fun j h1 h2 => hs.out j h1 h2 (by omega))
      have HF := Lib.hid hfin
      clear hfin T1
      go_wp2_with fail
      go_ret
      exact ⟨by rw [HF.out]; rfl, hbl.trans (hb.mono hbl.size)⟩

set_option maxHeartbeats 2000000 in
set_option maxRecDepth 100000 in
theorem refsound_any (a : Nat → Nat) (w : World) (ha : Wide a) :
    Calls Try.prog 21 #[.agg (vT a)] w fun e w' => e = .returned (.bool (soundF a)) ∧ Below w.heap.size w w' := by
  have hat := laid1_at w 51 a
  have hbl : Below w.heap.size w (w.alloc (.cells (vT a) 51)) := (Below.refl _ _).alloc (Nat.le_refl _) _
  obtain ⟨A, hA⟩ : ∃ A, A = vT a := ⟨_, rfl⟩
  rw [← hA] at hat hbl ⊢
  obtain ⟨W, hW⟩ : ∃ W, W = w.alloc (.cells A 51) := ⟨_, rfl⟩
  rw [← hW] at hat hbl
  have HW := Lib.hid hW.symm
  have HAT := Lib.hid hat
  have HWD := Lib.hid ha
  clear hat hW hA ha
  go_enter Try.func21, Try.ntmps21
  go_upto_region 1 with fail
  rw [HW.out]
  go_wp2_with fail
  go_loopw [3] (fun iv wr => ∃ (i : Nat), iv = .int .i64 i ∧ i ≤ 16 ∧ 1 ≤ i ∧ Hid (∀ j, j < 16 → 1 ≤ j → j < i → okAt a j) ∧ Below W.heap.size W wr) (fun iv _ => 16 - (intOf iv).toNat)
  case atStart => exact ⟨1, rfl, by omega, by omega, Lib.hid (fun j h1 h2 h3 => by omega), Below.refl _ _⟩
  case round =>
    obtain ⟨i, rfl, hi, hi1, hs, hb⟩ := hrel
    have T1 := HAT.out.below hb
    by_cases h0 : i < 16
    · obtain ⟨j, hj⟩ : ∃ j, j = 2 * i := ⟨_, rfl⟩
      have c1 := T1.cell (i := i) (by omega)
      have c2 := T1.cell (i := j) (by omega)
      have c3 := T1.cell (i := j + 1) (by omega)
      have m1 : IntKind.i64.wrap (2 * (i : Int)) = (j : Int) := by rw [IntWalk.i64_in _ (by omega)]; omega
      have m2 : IntKind.i64.wrap ((j : Int) + 1) = (j : Int) + 1 := IntWalk.i64_in _ (by omega)
      have m3 : (0 : Int) ≤ (j : Int) + 1 := by omega
      have m4 : ((j : Int) + 1).toNat = j + 1 := by omega
      have m5 : j < 32 := by omega
      have m6 : j + 1 < 32 := by omega
      have m7 : (j : Int) + 1 < 32 := by omega
      have m8 : IntKind.i64.wrap ((i : Int) + 1) = (i : Int) + 1 := by rw [IntWalk.i64_in _ (by omega)]
      have hx := HWD.out j m5
      have hy := HWD.out (j + 1) m6
      have hok : okAt a i ↔ a i = nodeF (a j) (a (j + 1)) := by rw [hj]; exact Iff.rfl
      obtain ⟨x, hxe⟩ : ∃ x, x = a j := ⟨_, rfl⟩
      obtain ⟨y, hye⟩ : ∃ x, x = a (j + 1) := ⟨_, rfl⟩
      obtain ⟨z, hze⟩ : ∃ x, x = a i := ⟨_, rfl⟩
      rw [← hxe] at hx hok c2
      rw [← hye] at hy hok c3
      rw [← hze] at hok c1
      have hnd : ∀ w', Calls Try.prog 55 #[.int .u64 x, .int .u64 y] w' fun e w'' => e = .returned (.int .u64 (nodeF x y : Nat)) ∧ Below w'.heap.size w' w'' := fun w' => refnode_any x y w' hx hy
      obtain ⟨N, hN⟩ : ∃ N, N = nodeF x y := ⟨_, rfl⟩
      rw [← hN] at hnd hok
      have HND := Lib.hid hnd
      have HOK := Lib.hid hok
      have hcb := T1.lt
      clear hnd hok hxe hye hze hN hj T1
      by_cases hz : z = N
      · have HZ := Lib.hid hz
        subst hz
        go_wp2_with fail
        refine wp_region_calm (by kernel_rfl) (by kernel_rfl) ?_
        repeat (go_big_quiet_step ((go_at_call 55; exact calm (HND.out _))))
        refine wpQuiet_nil ?_
        rintro _ ⟨q, rfl⟩
        go_wp2_with fail
        go_roundw
        case rel => exact ⟨i + 1, by first | rfl | go_num, by omega, by omega, Lib.hid (fun k h1 h2 h3 => by
          by_cases hk : k = i
          · subst hk; exact HOK.out.2 (by first | rfl | trivial)
          · exact hs.out k h1 h2 (by omega)), hb.trans (q.below.mono hb.size)⟩
        case measure => simp [intOf]; omega
      · have hfin : soundF a = false := soundF_no (i := i) (by omega) (by omega) (fun h => hz (HOK.out.1 h))
        have HF := Lib.hid hfin
        clear hfin
        go_wp2_with fail
        refine wp_region_calm (by kernel_rfl) (by kernel_rfl) ?_
        repeat (go_big_quiet_step ((go_at_call 55; exact calm (HND.out _))))
        refine wpQuiet_nil ?_
        rintro _ ⟨q, rfl⟩
        go_wp2_with fail
        go_ret
        exact ⟨by rw [HF.out]; rfl, (hbl.trans (hb.mono hbl.size)).trans (q.below.mono (Nat.le_trans hbl.size hb.size))⟩
    · have hfin : soundF a = true := soundF_yes (fun j h1 h2 => hs.out j h1 h2 (by omega))
      have HF := Lib.hid hfin
      clear hfin T1
      go_wp2_with fail
      go_ret
      exact ⟨by rw [HF.out]; rfl, hbl.trans (hb.mono hbl.size)⟩

theorem root_any (a : Nat → Nat) (w : World) :
    Calls Try.prog 22 #[.agg (vT a)] w fun e w' => e = .returned (.int .u64 (a 1 : Nat)) ∧ Below w.heap.size w w' := by
  have hat := laid1_at w 52 a
  have hbl : Below w.heap.size w (w.alloc (.cells (vT a) 52)) := (Below.refl _ _).alloc (Nat.le_refl _) _
  obtain ⟨A, hA⟩ : ∃ A, A = vT a := ⟨_, rfl⟩
  rw [← hA] at hat hbl ⊢
  obtain ⟨W, hW⟩ : ∃ W, W = w.alloc (.cells A 52) := ⟨_, rfl⟩
  rw [← hW] at hat hbl
  have HW := Lib.hid hW.symm
  have c1 := hat.cell (i := 1) (by decide)
  clear hat hW hA
  go_enter Try.func22, Try.ntmps22
  go_upto_region 1 with fail
  rw [HW.out]
  go_wp2_with fail
  go_ret
  exact ⟨rfl, hbl⟩
end Go.Proofs.Ytehoanpjlinfaaa.Mrk
