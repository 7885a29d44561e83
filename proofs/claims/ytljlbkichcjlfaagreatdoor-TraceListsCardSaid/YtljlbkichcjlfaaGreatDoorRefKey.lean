/- The walks of cenotaphref01.Bad, Val, letter, Key (layer 1): as the program's. -/
import Derived.Test.YtljlbkichcjlfaaGreatDoorMutRights
import Derived.Test.YtljlbkichcjlfaaGreatDoorTexts
import Derived.Test.YtljlbkichcjlfaaGreatDoorSlRow
import Derived.Shelf.Unicode.ValidAny
import Derived.Lib.ValidLaws
import Derived.Lib.RuneCountTail
set_option linter.unusedSimpArgs false
set_option linter.unusedVariables false
namespace Go.Proofs.YtljlbkichcjlfaaGreatDoor.Mut
open Go.RowKit Go.Shelf Go.Sort Go.Proofs.YtljlbkichcjlfaaGreatDoor.Ord
set_option linter.unusedSectionVars false
variable [Inhabited Lim]

theorem ext_list (s : ByteArray) (p : Nat) : (s.extract p s.size).data.toList = s.data.toList.drop p := by
  rw [ByteArray.data_extract, Array.toList_extract, List.extract_eq_take_drop]
  exact List.take_of_length_le (by rw [List.length_drop]; exact Nat.le_refl _)

theorem valid_from (s : ByteArray) : ∀ (f pos : Nat), s.size ≤ pos + f → valFrom s f pos = Lib.validD (s.extract pos s.size).data.toList := by
  intro f
  induction f with
  | zero =>
    intro pos h
    have : (s.extract pos s.size).data.toList = [] := by
      apply List.eq_nil_of_length_eq_zero
      have := ByteArray.size_extract (a := s) (b := pos) (e := s.size)
      have h2 : (s.extract pos s.size).size = 0 := by rw [this]; omega
      simpa using h2
    rw [this]; rfl
  | succ f ih =>
    intro pos h
    by_cases hp : pos < s.size
    · have hsz : (s.extract pos s.size).size = s.size - pos := by rw [ByteArray.size_extract]; omega
      have hne : (s.extract pos s.size).data.toList ≠ [] := by
        intro e
        have h2 := congrArg List.length e
        have h3 : (s.extract pos s.size).data.toList.length = (s.extract pos s.size).size := by simp
        rw [h3, hsz] at h2
        simp at h2
        omega
      rw [valFrom_step s f hp, Lib.validD_step _ hne]
      have hd : Lib.decodeL (s.extract pos s.size).data.toList = Utf8.decode s pos := by
        show Utf8.decode (s.extract pos s.size) 0 = _
        rw [Lib.tail_decode, Nat.add_zero]
      have hg : Lib.decodeGo (s.extract pos s.size) = Utf8.decode s pos := by
        unfold Lib.decodeGo
        rw [if_neg (by omega), Lib.tail_decode, Nat.add_zero]
      have hw := width_pos s pos hp
      rw [hd]
      have hb : badF s pos (Utf8.decode s pos).1 = decide ((Utf8.decode s pos).1 = 65533 ∧ (Utf8.decode s pos).2 = 1) := by
        unfold badF
        rw [hg]
        by_cases e1 : (Utf8.decode s pos).1 = 65533
        · have : (((Utf8.decode s pos).1 : Nat) : Int) = 65533 := by omega
          by_cases e2 : (Utf8.decode s pos).2 = 1
          · simp [e1, e2]
          · have h2 : ¬ (Utf8.decode s pos).2 < 2 := by omega
            have h3 : ¬ (((Utf8.decode s pos).2 : Nat) : Int) < 2 := by omega
            simp [e1, e2, h3]
        · have : ¬ (((Utf8.decode s pos).1 : Nat) : Int) = 65533 := by omega
          simp [e1, this]
      rw [hb]
      have hdrop : (s.extract pos s.size).data.toList.drop (Utf8.decode s pos).2 = (s.extract (pos + (Utf8.decode s pos).2) s.size).data.toList := by
        rw [ext_list, ext_list, List.drop_drop]
      rw [hdrop, ← ih (pos + (Utf8.decode s pos).2) (by omega)]
      by_cases hc : (Utf8.decode s pos).1 = 65533 ∧ (Utf8.decode s pos).2 = 1
      · rw [if_pos hc, decide_eq_true hc]; rfl
      · rw [if_neg hc, decide_eq_false hc]; rfl
    · rw [valFrom_end s _ hp]
      have : (s.extract pos s.size).data.toList = [] := by
        apply List.eq_nil_of_length_eq_zero
        have := ByteArray.size_extract (a := s) (b := pos) (e := s.size)
        have h2 : (s.extract pos s.size).size = 0 := by rw [this]; omega
        simpa using h2
      rw [this]; rfl
theorem valid_all (s : ByteArray) : Lib.validD s.data.toList = valFrom s s.size 0 := by
  rw [valid_from s s.size 0 (by omega)]
  rw [ext_list, List.drop_zero]

/-- Is a rune a letter? May it be within a key? -/
def letF (r : Int) : Bool := decide (128 ≤ r) || ((decide (65 ≤ r) && decide (r ≤ 90)) || (decide (97 ≤ r) && decide (r ≤ 122)))
def okR (r : Int) : Bool := letF r || ((decide (48 ≤ r) && decide (r ≤ 57)) || (r == 45 || r == 95))
theorem part_first (r : Int) : partF r true = letF r := by
  unfold partF letF
  cases decide (97 ≤ r) <;> cases decide (r ≤ 122) <;> cases decide (65 ≤ r) <;> cases decide (r ≤ 90) <;> cases decide (128 ≤ r) <;> rfl
theorem part_rest (r : Int) : partF r false = okR r := by
  unfold partF okR letF
  cases decide (97 ≤ r) <;> cases decide (r ≤ 122) <;> cases decide (65 ≤ r) <;> cases decide (r ≤ 90) <;> cases decide (128 ≤ r) <;> simp
theorem key_from (s : ByteArray) : ∀ (f pos : Nat), 0 < pos → keyFrom s f pos = (valFrom s f pos && (runesFrom s f pos).all okR) := by
  intro f
  induction f with
  | zero => intro pos _; rfl
  | succ f ih =>
    intro pos hp0
    by_cases hp : pos < s.size
    · have hw := width_pos s pos hp
      rw [keyFrom_step s f hp, valFrom_step s f hp, runesFrom_step s f hp, List.all_cons, decide_eq_false (show ¬ (pos : Int) = 0 by omega), part_rest, ih _ (by omega)]
      cases badF s pos (Utf8.decode s pos).1 <;> cases okR (Utf8.decode s pos).1 <;> simp
    · rw [keyFrom_end s _ hp, valFrom_end s _ hp, runesFrom_end s _ hp]; rfl
theorem okR_of_let {r : Int} (h : letF r = true) : okR r = true := by unfold okR; rw [h]; rfl
/-- The reference's words on a key. -/
theorem key_ref {s : ByteArray} {r : Int} {l : List Int} (hl : runesOf s = r :: l) : keyF s = (decide (s.size ≤ 24) && (valFrom s s.size 0 && (letF r && (r :: l).all okR))) := by
  have hs : 0 < s.size := by
    have := runesOf_len s
    rw [hl] at this
    simp at this; omega
  obtain ⟨f, hf⟩ : ∃ f, s.size = f + 1 := ⟨s.size - 1, by omega⟩
  have hl2 := hl
  unfold runesOf at hl2
  unfold keyF
  rw [decide_eq_true hs, Bool.true_and]
  rw [hf] at hl2 ⊢
  have h0 : (0 : Nat) < s.size := hs
  rw [runesFrom_step s f h0] at hl2
  injection hl2 with e1 e2
  have hw := width_pos s 0 h0
  rw [keyFrom_step s f h0, valFrom_step s f h0, show decide (((0 : Nat) : Int) = 0) = true from rfl, part_first, key_from s f _ (by omega), e2, e1, List.all_cons]
  cases hb : badF s 0 r <;> cases hq : letF r
  · simp
  · rw [okR_of_let hq]; simp
  · simp
  · simp
theorem key_none {s : ByteArray} (hl : runesOf s = []) : keyF s = false := by
  have : ¬ 0 < s.size := fun h => by
    obtain ⟨f, hf⟩ : ∃ f, s.size = f + 1 := ⟨s.size - 1, by omega⟩
    unfold runesOf at hl
    rw [hf, runesFrom_step s f h] at hl
    cases hl
  unfold keyF
  rw [decide_eq_false this]; rfl

end Go.Proofs.YtljlbkichcjlfaaGreatDoor.Mut
