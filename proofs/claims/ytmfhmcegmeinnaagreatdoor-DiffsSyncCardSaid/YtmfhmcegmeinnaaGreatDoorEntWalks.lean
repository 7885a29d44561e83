/- The walks of how entries stand (layer 36): diffs.Compare and the law's own compare. -/
import Derived.Test.YtmfhmcegmeinnaaGreatDoorCmpWalks
set_option linter.unusedSimpArgs false
set_option linter.unusedVariables false
namespace Go.Proofs.YtmfhmcegmeinnaaGreatDoor.Diffs
open Go.RowKit Go.Proofs.YtmfhmcegmeinnaaGreatDoor.Cmp

/-- An entry. -/
structure Ent where
  k : ByteArray
  p : Int
  l : Int
  h : Int
def enE (e : Ent) : List Value := [.string e.k, .int .i64 e.p, .int .i64 e.l, .int .i64 e.h]
def Ent.agg (e : Ent) : Value := .agg #[.string e.k, .int .i64 e.p, .int .i64 e.l, .int .i64 e.h]
def stE (a b : Ent) : Int := stC a.p a.l a.h b.p b.l b.h
def entC (a b : Ent) : Int := orL [cmpS a.k b.k, stE a b]

set_option maxHeartbeats 400000 in
theorem compare_any (a b : Ent) (w : World) :
    Calls Tryz.prog 79 #[.agg #[.string a.k, .int .i64 a.p, .int .i64 a.l, .int .i64 a.h], .agg #[.string b.k, .int .i64 b.p, .int .i64 b.l, .int .i64 b.h]] w fun e w' => e = .returned (.int .i64 (entC a b)) ∧ Below w.heap.size w w' := by
  go_enter Tryz.func79, Tryz.ntmps79
  go_wp2_with fail
  refine wp_region_calm_tail 10 (by kernel_rfl) (by kernel_rfl) ?_
  simp only [List.take_succ_cons, List.take_zero, List.drop_succ_cons, List.drop_zero]
  repeat (go_big_quiet_step (first | (go_at_call 142; exact calm_same (cmpS_any _ _ _)) | (go_at_call 143; exact calm (stamp_any _ _ _ _ _ _ _))))
  refine wpQuiet_nil ?_
  rintro _ ⟨y, rfl⟩
  go_wp2_with fail
  refine (or_any y.at.heap.size 0 2 [cmpS a.k b.k, stE a b] _ (ints_new _ _ [cmpS a.k b.k, stE a b]) (by simp)).mono ?_
  rintro e w2 ⟨rfl, rfl⟩
  go_wp2_with fail
  go_ret
  exact ⟨rfl, (((Below.refl _ _).alloc (Nat.le_refl _) _).alloc (by simp) _).trans (((y.below.alloc y.below.size _)).mono (by simp; omega))⟩

/-! ### the order of texts -/
theorem less_irrefl (a : List UInt8) : Op.bytesLess a a = false := by
  induction a with
  | nil => rfl
  | cons x a ih => simp [Op.bytesLess, ih]
theorem less_trans : ∀ (a b c : List UInt8), Op.bytesLess a b = true → Op.bytesLess b c = true → Op.bytesLess a c = true
  | _, [], _, h, _ => by cases ‹List UInt8› <;> simp [Op.bytesLess] at h
  | _, _ :: _, [], _, h => by simp [Op.bytesLess] at h
  | [], _ :: _, _ :: _, _, _ => by simp [Op.bytesLess]
  | x :: a, y :: b, z :: c, h1, h2 => by
    simp only [Op.bytesLess, Bool.or_eq_true, Bool.and_eq_true, decide_eq_true_eq, beq_iff_eq] at h1 h2 ⊢
    rcases h1 with h1 | ⟨rfl, h1⟩
    · rcases h2 with h2 | ⟨rfl, h2⟩
      · exact Or.inl (UInt8.lt_trans h1 h2)
      · exact Or.inl h1
    · rcases h2 with h2 | ⟨rfl, h2⟩
      · exact Or.inl h2
      · exact Or.inr ⟨rfl, less_trans a b c h1 h2⟩
theorem less_total : ∀ (a b : List UInt8), Op.bytesLess a b = true ∨ a = b ∨ Op.bytesLess b a = true
  | [], [] => Or.inr (Or.inl rfl)
  | [], _ :: _ => Or.inl rfl
  | _ :: _, [] => Or.inr (Or.inr rfl)
  | x :: a, y :: b => by
    simp only [Op.bytesLess, Bool.or_eq_true, Bool.and_eq_true, decide_eq_true_eq, beq_iff_eq, List.cons.injEq]
    have ht : x < y ∨ x = y ∨ y < x := by
      by_cases h1 : x < y
      · exact Or.inl h1
      · by_cases h2 : y < x
        · exact Or.inr (Or.inr h2)
        · exact Or.inr (Or.inl (UInt8.le_antisymm (UInt8.not_lt.1 h2) (UInt8.not_lt.1 h1)))
    rcases ht with h | rfl | h
    · exact Or.inl (Or.inl h)
    · rcases less_total a b with h | rfl | h
      · exact Or.inl (Or.inr ⟨rfl, h⟩)
      · exact Or.inr (Or.inl ⟨rfl, rfl⟩)
      · exact Or.inr (Or.inr (Or.inr ⟨rfl, h⟩))
    · exact Or.inr (Or.inr (Or.inl h))

theorem bytes_ext {a b : ByteArray} (h : a.toList = b.toList) : a = b := by
  rw [ByteArray.toList_eq, ByteArray.toList_eq] at h
  exact ByteArray.ext (Array.toList_inj.1 h)
theorem cmpS_zero (a b : ByteArray) : cmpS a b = 0 ↔ a.toList = b.toList := by
  unfold cmpS lessS
  rcases less_total a.toList b.toList with h | h | h
  · rw [h]
    simp
    intro e
    rw [e, less_irrefl] at h
    cases h
  · rw [h, less_irrefl]; simp
  · have h2 : Op.bytesLess a.toList b.toList = false := by
      cases e : Op.bytesLess a.toList b.toList with
      | false => rfl
      | true => have := less_trans _ _ _ e h; rw [less_irrefl] at this; cases this
    have h3 : a.toList ≠ b.toList := fun e => by rw [e, less_irrefl] at h; cases h
    simp [h2, h3]
theorem entC_eq (a b : Ent) : entC a b = if a.k.toList == b.k.toList then stE a b else cmpS a.k b.k := by
  show (if cmpS a.k b.k = 0 then (if stE a b = 0 then (0 : Int) else stE a b) else cmpS a.k b.k) = _
  by_cases h : a.k.toList = b.k.toList
  · have hb : (a.k.toList == b.k.toList) = true := by simpa using h
    rw [if_pos ((cmpS_zero _ _).2 h), hb]
    by_cases e : stE a b = 0
    · rw [if_pos e, e]; rfl
    · rw [if_neg e]; rfl
  · have hb : (a.k.toList == b.k.toList) = false := by simpa using h
    rw [if_neg (fun e => h ((cmpS_zero _ _).1 e)), hb]; rfl

theorem lawcompare_any (a b : Ent) (w : World) :
    Calls Tryz.prog 138 #[.agg #[.string a.k, .int .i64 a.p, .int .i64 a.l, .int .i64 a.h], .agg #[.string b.k, .int .i64 b.p, .int .i64 b.l, .int .i64 b.h]] w fun e w' => e = .returned (.int .i64 (entC a b)) ∧ Below w.heap.size w w' := by
  have hE := entC_eq a b
  cases hk : (a.k.toList == b.k.toList)
  · rw [hk] at hE
    have HE := Lib.hid hE
    clear hE
    go_enter Tryz.func138, Tryz.ntmps138
    go_wp2_with fail
    refine (textS_any _ _ _).mono ?_
    rintro e w2 ⟨rfl, rfl⟩
    go_wp2_with fail
    go_ret
    exact ⟨ret_int (by rw [HE.out]; rfl), ((Below.refl _ _).alloc (Nat.le_refl _) _).alloc (by simp) _⟩
  · rw [hk] at hE
    have HE := Lib.hid hE
    clear hE
    go_enter Tryz.func138, Tryz.ntmps138
    go_wp2_with fail
    refine (refstamp_any _ _ _ _ _ _ _).mono ?_
    rintro e w2 ⟨rfl, hb2⟩
    go_wp2_with fail
    go_ret
    exact ⟨ret_int (by rw [HE.out]; rfl), below_then (((Below.refl _ _).alloc (Nat.le_refl _) _).alloc (by simp) _) (Nat.le_refl _) hb2⟩
end Go.Proofs.YtmfhmcegmeinnaaGreatDoor.Diffs
