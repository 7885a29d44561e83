/- The walks of layer 32 (quorum): Count. -/
import Derived.Test.YtigeieahhkoolaaCalm
import Derived.Test.YtigeieahhkoolaaCountPlain
namespace Go.Proofs.Ytigeieahhkoolaa.Quorum
open Go.RowKit

def Cnt (w : World) (C : Nat) (need copies : Int) (a : Ans) : Prop := w.rowIs C 89 13 (cell need copies a)
theorem Cnt.need {w : World} {C : Nat} {need copies : Int} {a : Ans} (h : Cnt w C need copies a) : w.cell? ⟨C, 0, none⟩ = some (.int .i64 need) := World.rowIs.cell h (by omega)
theorem Cnt.copies {w : World} {C : Nat} {need copies : Int} {a : Ans} (h : Cnt w C need copies a) : w.cell? ⟨C, 1, none⟩ = some (.int .i64 copies) := World.rowIs.cell h (by omega)
theorem Cnt.why {w : World} {C : Nat} {need copies : Int} {a : Ans} (h : Cnt w C need copies a) : w.cell? ⟨C, 12, none⟩ = some (.int .i64 a.why) := World.rowIs.cell h (by omega)
theorem Cnt.ok {w : World} {C : Nat} {need copies : Int} {a : Ans} (h : Cnt w C need copies a) (k : Nat) (hk : k < 5) : w.cell? ⟨C, 2 + k, none⟩ = some (.bool (a.ok k)) := by
  rw [← cell_ok need copies a k hk]; exact World.rowIs.cell h (by omega)
theorem Cnt.no {w : World} {C : Nat} {need copies : Int} {a : Ans} (h : Cnt w C need copies a) (k : Nat) (hk : k < 5) : w.cell? ⟨C, 7 + k, none⟩ = some (.bool (a.no k)) := by
  rw [← cell_no need copies a k hk]; exact World.rowIs.cell h (by omega)

/-- An array of five bools, at an index. -/
theorem idx5 (f : Nat → Bool) (k : Nat) (hk : k < 5) : ∀ w, (Instr.index 68 (.agg #[.bool (f 0), .bool (f 1), .bool (f 2), .bool (f 3), .bool (f 4)]) (.int .i64 k)).run Try.prog w = .ok (.bool (f k)) w := by
  have h : k = 0 ∨ k = 1 ∨ k = 2 ∨ k = 3 ∨ k = 4 := by omega
  rcases h with rfl | rfl | rfl | rfl | rfl
  · exact fun _ => by kernel_rfl
  · exact fun _ => by kernel_rfl
  · exact fun _ => by kernel_rfl
  · exact fun _ => by kernel_rfl
  · exact fun _ => by kernel_rfl

theorem cells_of {W w1 : World} {C : Nat} (hb : Below W.heap.size W w1) (h : C < W.heap.size) : ∀ o, w1.cell? ⟨C, o, none⟩ = W.cell? ⟨C, o, none⟩ := fun o => hb.cell (p := ⟨C, o, none⟩) h
theorem many_any (f : Nat → Bool) (w : World) :
    Calls Try.prog 47 #[.agg #[.bool (f 0), .bool (f 1), .bool (f 2), .bool (f 3), .bool (f 4)]] w fun e w' => e = .returned (.int .i64 (cntF f 5)) ∧ Below w.heap.size w w' := by
  go_enter Try.func47, Try.ntmps47
  go_wp2
  go_loop [3, 7] (fun nv iv => ∃ k : Nat, k ≤ 5 ∧ iv = .int .i64 k ∧ nv = .int .i64 (cntF f k)) (fun _ iv => 5 - (intOf iv).toNat)
  case atStart => exact ⟨0, by omega, rfl, rfl⟩
  case round =>
    obtain ⟨k, hk, rfl, rfl⟩ := hrel
    have hc := cntF_le f k
    by_cases hlt : k < 5
    · have hx := idx5 f k hlt
      cases hf : f k
      · have hs : cntF f (k + 1) = cntF f k := by show cntF f k + (if f k = true then 1 else 0) = _; rw [hf]; rfl
        rw [hf] at hx
        have HS := Lib.hid hs
        clear hs hf
        go_wp2
        go_round
        case rel => exact ⟨k + 1, by omega, by go_num, by rw [HS.out]⟩
        case measure => simp [intOf]; omega
      · have hs : cntF f (k + 1) = cntF f k + 1 := by show cntF f k + (if f k = true then 1 else 0) = _; rw [hf]; rfl
        rw [hf] at hx
        have HS := Lib.hid hs
        clear hs hf
        go_wp2
        go_round
        case rel => exact ⟨k + 1, by omega, by go_num, by rw [HS.out]; go_num⟩
        case measure => simp [intOf]; omega
    · obtain rfl : k = 5 := by omega
      go_wp2
      go_ret
      exact ⟨rfl, (Below.refl _ _).alloc (Nat.le_refl _) _⟩

set_option maxHeartbeats 1000000 in
theorem yes_any (C : Nat) (need copies : Int) (a : Ans) (w : World) (h : Cnt w C need copies a) :
    Calls Try.prog 36 #[.pointer (some ⟨C, 0, none⟩)] w fun e w' => e = .returned (.bool (decide (need ≤ (cntF a.ok 5 : Int)))) ∧ Below w.heap.size w w' := by
  have hC := World.rowIs.lt h
  have c0 := h.need
  have c2 : w.cell? ⟨C, 2, none⟩ = some (.bool (a.ok 0)) := h.ok 0 (by omega)
  have c3 : w.cell? ⟨C, 3, none⟩ = some (.bool (a.ok 1)) := h.ok 1 (by omega)
  have c4 : w.cell? ⟨C, 4, none⟩ = some (.bool (a.ok 2)) := h.ok 2 (by omega)
  have c5 : w.cell? ⟨C, 5, none⟩ = some (.bool (a.ok 3)) := h.ok 3 (by omega)
  have c6 : w.cell? ⟨C, 6, none⟩ = some (.bool (a.ok 4)) := h.ok 4 (by omega)
  have hc := cntF_le a.ok 5
  clear h
  go_enter Try.func36, Try.ntmps36
  go_wp2_with fail
  go_region_with (go_at_call 47; refine (many_any a.ok _).mono ?_; rintro e w1 ⟨rfl, hb1⟩; have d0 : w1.cell? ⟨C, 0, none⟩ = some (.int .i64 need) := (hb1.cell (p := ⟨C, 0, none⟩) (by exact hC)).trans (by exact c0))
  all_goals
    go_wp2
    go_ret
    exact ⟨rfl, below_then (below_drewN (Below.refl _ _) 1) (Nat.le_refl _) hb1⟩

theorem yes_lit (C : Nat) (need copies : Int) (a : Ans) (w : World) (h : Cnt w C need copies a) (q : Bool) (hq : decide (need ≤ (cntF a.ok 5 : Int)) = q) :
    Calls Try.prog 36 #[.pointer (some ⟨C, 0, none⟩)] w fun e w' => e = .returned (.bool q) ∧ Below w.heap.size w w' := by
  subst hq; exact yes_any C need copies a w h

set_option maxHeartbeats 1000000 in
theorem no_any (C : Nat) (need copies : Int) (a : Ans) (w : World) (h : Cnt w C need copies a) (_k1 : -1099511627776 ≤ copies) (_k2 : copies ≤ 1099511627776) :
    Calls Try.prog 37 #[.pointer (some ⟨C, 0, none⟩)] w fun e w' => e = .returned (.tuple #[.int .i64 a.why, .bool (!decide (need ≤ (cntF a.ok 5 : Int)) && decide (copies - cntF a.no 5 < need))]) ∧ Below w.heap.size w w' := by
  have hC := World.rowIs.lt h
  have c0 := h.need
  have c1 := h.copies
  have c12 := h.why
  have c2 : w.cell? ⟨C, 7, none⟩ = some (.bool (a.no 0)) := h.no 0 (by omega)
  have c3 : w.cell? ⟨C, 8, none⟩ = some (.bool (a.no 1)) := h.no 1 (by omega)
  have c4 : w.cell? ⟨C, 9, none⟩ = some (.bool (a.no 2)) := h.no 2 (by omega)
  have c5 : w.cell? ⟨C, 10, none⟩ = some (.bool (a.no 3)) := h.no 3 (by omega)
  have c6 : w.cell? ⟨C, 11, none⟩ = some (.bool (a.no 4)) := h.no 4 (by omega)
  have hc := cntF_le a.no 5
  have H := Lib.hid h
  clear h
  have q : ∀ (x : BW w) o, x.at.cell? ⟨C, o, none⟩ = w.cell? ⟨C, o, none⟩ := fun x o => x.cell hC o
  have HC : ∀ x : BW w, Cnt x.at C need copies a := fun x => World.rowIs.of_block H.out (x.below.block C hC)
  have HK := Lib.hid HC
  clear HC
  cases hy : decide (need ≤ (cntF a.ok 5 : Int))
  all_goals
    go_enter Try.func37, Try.ntmps37
    go_wp2_with fail
    refine wp_region_calm (by kernel_rfl) (by kernel_rfl) ?_
    repeat (go_big_quiet_step (first | (go_at_call 36; exact calm (yes_lit C need copies a _ (HK.out _) _ hy)) | (go_at_call 47; exact calm (many_any a.no _))))
    refine wpQuiet_nil ?_
    rintro _ ⟨y, rfl⟩
    go_wp2
    go_ret2
  · have e1 : IntKind.i64.wrap (copies - (cntF a.no 5 : Int)) = copies - (cntF a.no 5 : Int) := IntWalk.i64_in _ ⟨by omega, by omega⟩
    exact ⟨by simp [e1], y.below⟩
  · exact ⟨rfl, y.below⟩

theorem said_any (C : Nat) (need copies : Int) (a : Ans) (n : Int) (w : World) (h : Cnt w C need copies a) (hf : a.Fit) :
    Calls Try.prog 38 #[.pointer (some ⟨C, 0, none⟩), .int .i64 n] w fun e w' => e = .returned (.tuple #[.bool (decide (0 ≤ n) && (decide (n < 5) && a.sd n.toNat)), .bool (decide (0 ≤ n) && (decide (n < 5) && a.ok n.toNat))]) ∧ Below w.heap.size w w' := by
  by_cases h0 : 0 ≤ n
  · by_cases h5 : n < 5
    · obtain ⟨k, rfl⟩ := Int.eq_ofNat_of_zero_le h0
      have c0 := h.ok k (by omega)
      have c1 := h.no k (by omega)
      have hfk := hf k
      unfold Ans.no at c1
      have HX : Hid (((Int.ofNat k : Int)).toNat = k) := Lib.hid rfl
      clear h hf
      cases ho : a.ok k
      · rw [ho] at c0 c1
        cases hs : a.sd k
        all_goals
          rw [hs] at c1
          simp only [Bool.not_false, Bool.and_true] at c1
          go_enter Try.func38, Try.ntmps38
          go_wp2_with fail
          go_quiet (fail)
          go_wp2
          go_ret2
          refine ⟨?_, below_drewN (Below.refl _ _) _⟩
          simp [ho, hs, h5]
      · have hs := hfk ho
        rw [ho] at c0
        go_enter Try.func38, Try.ntmps38
        go_wp2_with fail
        go_quiet (fail)
        go_wp2
        go_ret2
        refine ⟨?_, below_drewN (Below.refl _ _) _⟩
        simp [ho, hs, h5]
    · clear h hf
      go_enter Try.func38, Try.ntmps38
      go_wp2
      go_ret2
      refine ⟨?_, Below.refl _ _⟩
      simp
      constructor <;> intros <;> omega
  · clear h hf
    go_enter Try.func38, Try.ntmps38
    go_wp2
    go_ret2
    refine ⟨?_, Below.refl _ _⟩
    simp
    constructor <;> intros <;> omega

theorem new_any (need copies : Int) (w : World) : Calls Try.prog 34 #[.int .i64 need, .int .i64 copies] w fun e w' => e = .returned (.pointer (some ⟨w.heap.size, 0, none⟩)) ∧ Cnt w' w.heap.size need copies ⟨fun _ => false, fun _ => false, 0⟩ ∧ Below w.heap.size w w' := by
  go_enter Try.func34, Try.ntmps34
  go_wp2
  go_ret
  refine ⟨rfl, ?_, (Below.refl _ _).alloc (Nat.le_refl _) _⟩
  refine World.rowIs_alloc w _ _ _ ?_
  intro i hi
  have hi' : i < 13 := hi
  change (⟨(List.range 13).map (cell need copies ⟨fun _ => false, fun _ => false, 0⟩)⟩ : Array Value)[i]? = some _
  simp [hi']

theorem Cnt.set_ok {w : World} {C : Nat} {need copies : Int} {a : Ans} (h : Cnt w C need copies a) (k : Nat) (hk : k < 5) (hs : a.sd k = false) (ho : a.ok k = false) :
    Cnt (w.setCell ⟨C, 2 + k, none⟩ (.bool true)) C need copies ⟨updB a.sd k true, updB a.ok k true, a.why⟩ := by
  refine (World.rowIs.set h (2 + k) (.bool true)).congr fun i hi => ?_
  unfold cell Ans.no updB
  simp only
  by_cases e : i = 2 + k
  · subst e
    simp (disch := omega) only [if_neg, if_pos, ite_true]
  · rw [if_neg e]
    repeat' split
    all_goals first | rfl | omega | (rename_i h6; rw [h6, hs, ho]; rfl)

theorem Cnt.set_no {w : World} {C : Nat} {need copies : Int} {a : Ans} (h : Cnt w C need copies a) (k : Nat) (hk : k < 5) (hs : a.sd k = false) (ho : a.ok k = false) :
    Cnt (w.setCell ⟨C, 7 + k, none⟩ (.bool true)) C need copies ⟨updB a.sd k true, updB a.ok k false, a.why⟩ := by
  refine (World.rowIs.set h (7 + k) (.bool true)).congr fun i hi => ?_
  unfold cell Ans.no updB
  simp only
  by_cases e : i = 7 + k
  · subst e
    simp (disch := omega) only [if_neg, if_pos, ite_true]
    rfl
  · rw [if_neg e]
    repeat' split
    all_goals first | rfl | omega | (rename_i h6; rw [h6, ho])

theorem Cnt.set_why {w : World} {C : Nat} {need copies : Int} {a : Ans} (h : Cnt w C need copies a) (v : Int) : Cnt (w.setCell ⟨C, 12, none⟩ (.int .i64 v)) C need copies ⟨a.sd, a.ok, v⟩ := by
  refine (World.rowIs.set h 12 (.int .i64 v)).congr fun i hi => ?_
  unfold cell Ans.no
  simp only
  by_cases e : i = 12
  · subst e; rfl
  · rw [if_neg e]
    repeat' split
    all_goals first | rfl | omega

set_option maxHeartbeats 1000000 in
theorem say_any (C : Nat) (need copies : Int) (a : Ans) (n why : Int) (w : World) (h : Cnt w C need copies a) (hf : a.Fit) :
    Calls Try.prog 35 #[.pointer (some ⟨C, 0, none⟩), .int .i64 n, .int .i64 why] w fun e w' => e = .returned (.bool (a.counts n)) ∧ Cnt w' C need copies (a.say n why) ∧ w.grownBy w' (some C) := by
  by_cases hc : a.counts n = true
  · have hc' := hc
    unfold Ans.counts at hc'
    simp at hc'
    obtain ⟨n0, n5, hs⟩ := hc'
    obtain ⟨k, rfl⟩ := Int.eq_ofNat_of_zero_le n0
    simp only [Int.toNat_natCast] at hs
    have ho : a.ok k = false := by cases e : a.ok k with | false => rfl | true => rw [hf k e] at hs; cases hs
    have c0 := h.ok k (by omega)
    have c1 := h.no k (by omega)
    have c2 := h.why
    have f0 : w.frozen? ⟨C, 2 + k, none⟩ = false := World.rowIs.frozen h _
    have f1 : w.frozen? ⟨C, 7 + k, none⟩ = false := World.rowIs.frozen h _
    have f2 : w.frozen? ⟨C, 12, none⟩ = false := World.rowIs.frozen h _
    rw [ho] at c0
    unfold Ans.no at c1
    rw [hs, ho] at c1
    simp only [Bool.not_false, Bool.and_true] at c1
    have HS : a.say (k : Int) why = if why = 0 then ⟨updB a.sd k true, updB a.ok k true, a.why⟩ else ⟨updB a.sd k true, updB a.ok k false, if a.why = 0 then why else a.why⟩ := by
      unfold Ans.say; rw [if_pos hc]; simp only [Int.toNat_natCast]
    rw [hc, HS]
    have H := Lib.hid h
    have HO := Lib.hid ho
    have HSD := Lib.hid hs
    clear h hf hc HS hs ho
    by_cases w0 : why = 0
    · subst w0
      rw [if_pos rfl]
      go_enter Try.func35, Try.ntmps35
      go_wp2
      go_ret
      exact ⟨rfl, H.out.set_ok k (by omega) HSD.out HO.out, grown_setCell (World.grownBy.refl _ _) (Or.inl rfl) _⟩
    · rw [if_neg w0]
      have w0' : (why == 0) = false := by simpa using w0
      cases w1 : (a.why == 0)
      · rw [if_neg (by simpa using w1)]
        go_enter Try.func35, Try.ntmps35
        go_wp2
        go_ret
        exact ⟨rfl, H.out.set_no k (by omega) HSD.out HO.out, grown_setCell (World.grownBy.refl _ _) (Or.inl rfl) _⟩
      · rw [if_pos (by simpa using w1)]
        go_enter Try.func35, Try.ntmps35
        go_wp2
        go_ret
        exact ⟨rfl, (H.out.set_no k (by omega) HSD.out HO.out).set_why why, grown_setCell (g := C) (grown_setCell (g := C) (World.grownBy.refl _ _) (Or.inl rfl) _) (Or.inl rfl) _⟩
  · have hc0 : a.counts n = false := by simpa using hc
    rw [Ans.say_not a n why hc0, hc0]
    by_cases n0 : 0 ≤ n
    · by_cases n5 : n < 5
      · obtain ⟨k, rfl⟩ := Int.eq_ofNat_of_zero_le n0
        have hs : a.sd k = true := by
          unfold Ans.counts at hc0
          simpa [n5] using hc0
        have c0 := h.ok k (by omega)
        have c1 := h.no k (by omega)
        unfold Ans.no at c1
        rw [hs] at c1
        have H := Lib.hid h
        clear h hf hc hc0 hs
        cases ho : a.ok k
        all_goals
          rw [ho] at c0 c1
          simp only [Bool.not_true, Bool.not_false, Bool.and_true, Bool.and_false] at c1
          clear ho
          go_enter Try.func35, Try.ntmps35
          go_wp2
          go_ret
          exact ⟨rfl, H.out, World.grownBy.refl _ _⟩
      · have H := Lib.hid h
        clear h hf hc hc0
        go_enter Try.func35, Try.ntmps35
        go_wp2
        go_ret
        exact ⟨rfl, H.out, World.grownBy.refl _ _⟩
    · have H := Lib.hid h
      clear h hf hc hc0
      go_enter Try.func35, Try.ntmps35
      go_wp2
      go_ret
      exact ⟨rfl, H.out, World.grownBy.refl _ _⟩
end Go.Proofs.Ytigeieahhkoolaa.Quorum
