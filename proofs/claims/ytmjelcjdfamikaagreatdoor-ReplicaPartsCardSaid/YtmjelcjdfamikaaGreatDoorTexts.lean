/- Strings, rune by rune: what a range over one hands over, what '[]rune(s)' holds. -/
import Derived.Test.YtmjelcjdfamikaaGreatDoorLstMore
import Derived.Laws.RangeAny
import Derived.Laws.IdiomStrings
import Derived.Lib.OthersKept
set_option linter.unusedSimpArgs false
set_option linter.unusedVariables false
namespace Go.Proofs.YtmjelcjdfamikaaGreatDoor
open Go.RowKit

/-- The runes of a string from a place on (b: fuel). -/
def runesFrom (s : ByteArray) : Nat → Nat → List Int
  | 0, _ => []
  | b + 1, i => if i < s.size then ((Utf8.decode s i).1 : Int) :: runesFrom s b (i + (Utf8.decode s i).2) else []
def runesOf (s : ByteArray) : List Int := runesFrom s s.size 0

theorem width_pos (s : ByteArray) (pos : Nat) (h : pos < s.size) : 1 ≤ (Utf8.decode s pos).2 := by
  by_cases ha : (s[pos]'h).toNat < 128
  · rw [decode_ascii s pos h ha]
    exact Nat.le_refl _
  · exact (decode_high s pos h (by omega)).2
theorem runesFrom_end (s : ByteArray) (b : Nat) {pos : Nat} (h : ¬ pos < s.size) : runesFrom s b pos = [] := by
  cases b with
  | zero => rfl
  | succ b => simp [runesFrom, h]
theorem runesFrom_step (s : ByteArray) (b : Nat) {pos : Nat} (h : pos < s.size) : runesFrom s (b + 1) pos = ((Utf8.decode s pos).1 : Int) :: runesFrom s b (pos + (Utf8.decode s pos).2) := by simp [runesFrom, h]
theorem runesFrom_len (s : ByteArray) : ∀ (b pos : Nat), (runesFrom s b pos).length ≤ b
  | 0, _ => by simp [runesFrom]
  | b + 1, pos => by
    unfold runesFrom
    split
    · have := runesFrom_len s b (pos + (Utf8.decode s pos).2)
      simp; omega
    · simp
theorem runesOf_len (s : ByteArray) : (runesOf s).length ≤ s.size := runesFrom_len s _ _
theorem runesFrom_bound (s : ByteArray) : ∀ (b pos : Nat), ∀ r ∈ runesFrom s b pos, 0 ≤ r ∧ r ≤ 2147483647
  | 0, _ => by simp [runesFrom]
  | b + 1, pos => by
    unfold runesFrom
    split
    · intro r hr
      rcases List.mem_cons.1 hr with rfl | hr
      · have := decode_le s pos; omega
      · exact runesFrom_bound s b _ r hr
    · simp
theorem runesOf_bound (s : ByteArray) : ∀ r ∈ runesOf s, 0 ≤ r ∧ r ≤ 2147483647 := runesFrom_bound s _ _
theorem conv_runes (s : ByteArray) : ∀ (b i : Nat) (acc : Array Value), (Conv.runesFrom s b i acc).toList = acc.toList ++ (runesFrom s b i).map (Value.int .i32)
  | 0, _, acc => by simp [Conv.runesFrom, runesFrom]
  | b + 1, i, acc => by
    unfold Conv.runesFrom runesFrom
    split
    · rename_i h
      have := conv_runes s b (i + (Utf8.decode s i).2) (acc.push (.int .i32 (Int.ofNat (Utf8.decode s i).1)))
      show (Conv.runesFrom s b (i + (Utf8.decode s i).2) (acc.push (.int .i32 (Int.ofNat (Utf8.decode s i).1)))).toList = _
      rw [this]
      simp
    · simp
/-- '[]rune(s)', its cells told by 'runesOf'. -/
theorem runes_row {P : Program} (src dst e : TypeId) (s : ByteArray) (hs : P.underlying src = some .string) (hd : P.underlying dst = some (.slice e)) (he : P.underlying e = some (.int .i32)) (hz : s.size ≤ 70368744177664) :
    ∃ (G : World → Nat) (C : World → Array Value), (∀ W, (convert src dst (.string s)).run P W = .ok (.slice (some ⟨W.heap.size, 0, none⟩) (runesOf s).length (G W)) (W.drew.alloc (.cells (C W) e))) ∧
      (∀ W, (runesOf s).length ≤ G W ∧ G W ≤ maxLen ∧ (C W).size = G W) ∧ ∀ (W : World) (i : Nat) (x : Int), (runesOf s)[i]? = some x → (C W)[i]? = some (Value.int .i32 x) := by
  have hl : (Conv.runesFrom s s.size 0 #[]).toList = (runesOf s).map (Value.int .i32) := by rw [conv_runes]; simp [runesOf]
  have hn : (Conv.runesFrom s s.size 0 #[]).size = (runesOf s).length := by rw [← Array.length_toList, hl, List.length_map]
  have hb := runesOf_len s
  refine ⟨fun W => grownCap W (runesOf s).length 0 e, fun W => Conv.runesFrom s s.size 0 #[] ++ Array.replicate (grownCap W (runesOf s).length 0 e - (runesOf s).length) (.int .i32 0), fun W => ?_, fun W => ⟨grownCap_ge W _ _ _, grownCap_le_maxLen W _ _ _ (by unfold maxLen; omega), ?_⟩, fun W i x hi => ?_⟩
  · have h := run_runes_of_string (P := P) W src dst e s hs hd he (by rw [hn]; omega)
    rw [hn] at h
    exact h
  · have := grownCap_ge W (runesOf s).length 0 e
    simp only [Array.size_append, Array.size_replicate, hn]
    omega
  · have hlt := (List.getElem?_eq_some_iff.1 hi).1
    rw [Array.getElem?_append_left (by rw [hn]; exact hlt), ← Array.getElem?_toList, hl, List.getElem?_map, hi]
    rfl
theorem iter_pos {w : World} {k : Nat} {s : ByteArray} {p : Nat} (h : w.heap[k]? = some (.stringIter s p)) : w.iterPos k = p := by simp [World.iterPos, h]
end Go.Proofs.YtmjelcjdfamikaaGreatDoor
