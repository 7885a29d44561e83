/- The bytes of a mutation that may be, by the program and by the document; the tree of a content as a function (layer 24, plain). · Keys put into a rising row, by the program and by the document, in plain Lean (layer 24). · Rows of texts: slices.Equal (turned from TriEq). · An append of any number of elements, none too, to a row with spare zero cells (of any program); an empty literal as such a row. · merkle.put and the document's Word: a key more in a row of texts (layers 24, 8). PRINTED by wip/genmrkput.py. · The document's Word (a key more in a row of texts), in (is a number in a row?) (layers 8, 24). PRINTED by wip/genmrkword.py. -/
import Derived.Test.YtkdgbkhnnehedaaGreatDoorRefBytes
import Derived.Test.YtkdgbkhnnehedaaGreatDoorPkMrkA
import Derived.Test.YtkdgbkhnnehedaaGreatDoorConKnown
import Derived.Test.YtkdgbkhnnehedaaGreatDoorMuts
import Derived.Test.YtkdgbkhnnehedaaGreatDoorLstMore
import Derived.Test.YtkdgbkhnnehedaaGreatDoorMutRows
import Derived.Test.YtkdgbkhnnehedaaGreatDoorSpare
import Derived.Test.YtkdgbkhnnehedaaGreatDoorSlRow
import Derived.Test.YtkdgbkhnnehedaaGreatDoorRegLin
set_option linter.unusedSimpArgs false
set_option linter.unusedVariables false
namespace Go.Proofs.YtkdgbkhnnehedaaGreatDoor.Mrk
open Go.RowKit Go.Proofs.YtkdgbkhnnehedaaGreatDoor.Spare Go.Proofs.YtkdgbkhnnehedaaGreatDoor.RegInv Go.Proofs.YtkdgbkhnnehedaaGreatDoor.Mut
set_option linter.unusedSectionVars false
variable [Inhabited Lim]

/-- The bytes of a mutation. -/
def bytesM (m : Mu) : List Nat := textF m.key ++ restL m.table.toNat m.kind.toNat m.expiry.toNat m.at_.p.toNat m.at_.l.toNat m.at_.w.toNat m.fin m.val m.over
/-- A mutation whose numbers are bytes, and not too long. -/
structure NumM (m : Mu) : Prop where
  t : 0 ≤ m.table ∧ m.table < 9223372036854775808
  k : 0 ≤ m.kind ∧ m.kind < 9223372036854775808
  e : 0 ≤ m.expiry ∧ m.expiry < 9223372036854775808
  at_ : NumS m.at_
  key : m.key.size ≤ 1000
  fin : m.fin.size ≤ 1000
  val : m.val.size ≤ 1000
  len : m.over.length ≤ 1000
  over : ∀ s ∈ m.over, NumS s
theorem num_st {s : Stp} (h : stR s = true) : NumS s := by
  unfold stR at h
  simp only [Bool.and_eq_true, decide_eq_true_eq] at h
  obtain ⟨⟨⟨⟨⟨⟨h1, h2⟩, h3⟩, h4⟩, h5⟩, h6⟩, -⟩ := h
  exact ⟨h1, h2, h3, by omega, by omega, by omega⟩
theorem num_over (t : Stp) : ∀ (l : List Stp) (p : Option Stp), overFrom t p l = true → ∀ s ∈ l, NumS s
  | [], _, _ => fun s hs => by simp at hs
  | x :: l, p, h => fun s hs => by
    unfold overFrom at h
    simp only [Bool.and_eq_true] at h
    rcases List.mem_cons.1 hs with rfl | hs
    · exact num_st h.1
    · exact num_over t l (some x) h.2.2.2 s hs
theorem num_right {m : Mu} (h : rightF m = true) : NumM m := by
  unfold rightF rightG at h
  simp only [Bool.and_eq_true, Bool.not_eq_true', Bool.or_eq_false_iff, Bool.and_eq_false_iff, decide_eq_true_eq, decide_eq_false_iff_not, Bool.not_eq_false'] at h
  obtain ⟨h1, h2, h3, ⟨e1, e2, -⟩, h4, h5, h6⟩ := h
  have k1 := keyF_size h2
  have k2 := valF_size h4.2
  unfold overF at h3
  simp only [Bool.and_eq_true, decide_eq_true_eq] at h3
  have k4 : m.fin.size ≤ 24 := by
    by_cases hk : m.kind = 3
    · rcases h5.2 with h | h
      · exact absurd hk h
      · exact keyF_size h.1
    · rcases h5.1 with h | h
      · exact absurd h hk
      · have := empty_size h; omega
  have k5 : (m.table = 1 ∨ m.table = 2) ∧ 1 ≤ m.kind ∧ m.kind ≤ 3 := by
    by_cases t1 : m.table = 1
    · rw [if_pos t1] at h6
      simp only [Bool.and_eq_true, decide_eq_true_eq] at h6
      exact ⟨Or.inl t1, h6.2.1, h6.2.2⟩
    · rw [if_neg t1] at h6
      by_cases t2 : m.table = 2
      · rw [if_pos t2] at h6
        simp only [Bool.or_eq_true, decide_eq_true_eq] at h6
        exact ⟨Or.inr t2, by omega, by omega⟩
      · rw [if_neg t2] at h6; cases h6
  exact ⟨by omega, by omega, by omega, num_st h1, by omega, by omega, by omega, by omega, num_over _ _ _ h3.1⟩
theorem putF_byte (n : Nat) : ∀ c ∈ putF n, c < 256 := putF_lt n
theorem strL_byte (s : ByteArray) : ∀ c ∈ strL s, c < 256 := by
  intro c hc
  unfold strL at hc
  obtain ⟨b, _, rfl⟩ := List.mem_map.1 hc
  exact b.toNat_lt
theorem bytesM_byte (m : Mu) : ∀ c ∈ bytesM m, c < 256 := by
  intro c hc
  unfold bytesM restL textF at hc
  simp only [List.mem_append, List.mem_flatMap] at hc
  rcases hc with (h | h) | h | h | (h | h) | (h | h) | h | h | h | h | h | ⟨s, _, h⟩
  all_goals first
    | exact putF_lt _ c h
    | exact strL_byte _ c h
    | (unfold stF at h
       simp only [List.mem_append] at h
       rcases h with h | h | h <;> exact putF_lt _ c h)
theorem bytesM_len {m : Mu} (h : NumM m) : (bytesM m).length ≤ 100000 := by
  obtain ⟨⟨t0, t1⟩, ⟨k0, k1⟩, ⟨e0, e1⟩, ⟨p0, l0, w0, p1, l1, w1⟩, s1, s2, s3, s4, s5⟩ := h
  have y0 := textF_len m.key (by omega)
  have y1 := putF_ten (n := m.table.toNat) (by omega)
  have y2 := putF_ten (n := m.kind.toNat) (by omega)
  have y3 := textF_len m.fin (by omega)
  have y4 := textF_len m.val (by omega)
  have y5 := putF_ten (n := m.expiry.toNat) (by omega)
  have y6 := putF_ten (n := m.at_.p.toNat) (by omega)
  have y7 := putF_ten (n := m.at_.l.toNat) (by omega)
  have y8 := putF_ten (n := m.at_.w.toNat) (by omega)
  have y9 := putF_ten (n := m.over.length) (by omega)
  have z1 := flat_len s5
  unfold bytesM restL
  simp only [List.length_append]
  omega
/-- These bytes come back in a row. -/
def BytesPost (w : World) (l : List Nat) (e : Ending) (w' : World) : Prop := ∃ v, e = .returned v ∧ BRow w' v l ∧ Below w.heap.size w w'
theorem mutbytes_any (x : Ro) (w : World) (hx : Over w x) (hn : NumM x.1) : Calls Tryz.prog 72 #[.slice none 0 0, vM x] w (BytesPost w (bytesM x.1)) := by
  obtain ⟨⟨tb, kd, key, fin, val, ex, ⟨p, l, h⟩, over⟩, ov⟩ := x
  obtain ⟨⟨t0, t1⟩, ⟨k0, k1⟩, ⟨e0, e1⟩, ⟨p0, l0, w0, p1, l1, w1⟩, s1, s2, s3, s4, s5⟩ := hn
  simp only [] at t0 t1 k0 k1 e0 e1 p0 l0 w0 p1 l1 w1 s1 s2 s3 s4 s5
  obtain ⟨tb, rfl⟩ := Int.eq_ofNat_of_zero_le t0
  obtain ⟨kd, rfl⟩ := Int.eq_ofNat_of_zero_le k0
  obtain ⟨ex, rfl⟩ := Int.eq_ofNat_of_zero_le e0
  obtain ⟨p, rfl⟩ := Int.eq_ofNat_of_zero_le p0
  obtain ⟨l, rfl⟩ := Int.eq_ofNat_of_zero_le l0
  obtain ⟨h, rfl⟩ := Int.eq_ofNat_of_zero_le w0
  refine (mutput_onto tb kd ex p l h key fin val over ov w (.slice none 0 0) [] w (by omega) (by omega) (by omega) (by omega) (by omega) (by omega) s1 s2 s3 s4 s5 hx.lst (Below.refl _ _) (World.ownsRow_nil _ _ _ _) (by simp)).mono ?_
  rintro e w' ⟨v', rfl, g1, g2, -⟩
  exact ⟨v', rfl, row_of g1, ⟨g2.os, g2.tape, g2.output, g2.size, fun i hi => g2.block i hi (by simp [Value.ownBlock])⟩⟩
theorem refmutbytes_any (x : Ro) (w : World) (hx : Over w x) (hn : NumM x.1) : Calls Tryz.prog 76 #[vM x] w (BytesPost w (bytesM x.1)) := by
  obtain ⟨⟨tb, kd, key, fin, val, ex, ⟨p, l, h⟩, over⟩, ov⟩ := x
  obtain ⟨⟨t0, t1⟩, ⟨k0, k1⟩, ⟨e0, e1⟩, ⟨p0, l0, w0, p1, l1, w1⟩, s1, s2, s3, s4, s5⟩ := hn
  simp only [] at t0 t1 k0 k1 e0 e1 p0 l0 w0 p1 l1 w1 s1 s2 s3 s4 s5
  obtain ⟨tb, rfl⟩ := Int.eq_ofNat_of_zero_le t0
  obtain ⟨kd, rfl⟩ := Int.eq_ofNat_of_zero_le k0
  obtain ⟨ex, rfl⟩ := Int.eq_ofNat_of_zero_le e0
  obtain ⟨p, rfl⟩ := Int.eq_ofNat_of_zero_le p0
  obtain ⟨l, rfl⟩ := Int.eq_ofNat_of_zero_le l0
  obtain ⟨h, rfl⟩ := Int.eq_ofNat_of_zero_le w0
  refine (refmutput_any tb kd ex p l h key fin val over ov w (by omega) (by omega) (by omega) (by omega) (by omega) (by omega) s1 s2 s3 s4 s5 hx.lst).mono ?_
  rintro e w' ⟨v', rfl, g1, g2⟩
  exact ⟨v', rfl, row_of g1, g2⟩

/-! ## The tree of mutations -/
/-- The leaves behind one mutation more. -/
def leafS (t : Nat → Nat) (m : Mu) : Nat → Nat := upd t (16 + bucketF m.key) (sumF (t (16 + bucketF m.key)) (bytesM m))
def leafT (l : List Mu) : Nat → Nat := l.foldl leafS (leaves 16)
/-- The nodes from i down to 1. -/
def nodesT : Nat → (Nat → Nat) → Nat → Nat
  | 0, t => t
  | i + 1, t => nodesT i (upd t (i + 1) (nodeF (t (2 * (i + 1))) (t (2 * (i + 1) + 1))))
def treeF (l : List Mu) : Nat → Nat := nodesT 15 (leafT l)
theorem upd_wide {a : Nat → Nat} (h : Wide a) (i x : Nat) (hx : x < 18446744073709551616) : Wide (upd a i x) := by
  intro j hj
  unfold upd
  split
  · exact hx
  · exact h j hj
theorem leaves_wide : Wide (leaves 16) := by
  intro j hj
  unfold leaves
  split
  · exact lev_lt 0
  · decide
theorem leafS_wide {t : Nat → Nat} (h : Wide t) (m : Mu) : Wide (leafS t m) := upd_wide h _ _ (sumF_lt (h _ (by have := bucketF_lt m.key; omega)) _)
theorem foldS_wide (l : List Mu) : ∀ {t : Nat → Nat}, Wide t → Wide (l.foldl leafS t) := by
  induction l with
  | nil => intro t h; exact h
  | cons m l ih => intro t h; exact ih (leafS_wide h m)
theorem leafT_wide (l : List Mu) : Wide (leafT l) := foldS_wide l leaves_wide
theorem leafT_snoc (l : List Mu) (m : Mu) : leafT (l ++ [m]) = leafS (leafT l) m := by unfold leafT; rw [List.foldl_append]; rfl
theorem nodesT_wide : ∀ (i : Nat) (t : Nat → Nat), Wide t → Wide (nodesT i t)
  | 0, t, h => h
  | i + 1, t, h => nodesT_wide i _ (upd_wide h _ _ (nodeF_lt _ _))
theorem treeF_wide (l : List Mu) : Wide (treeF l) := nodesT_wide 15 _ (leafT_wide l)
theorem nodesT_above : ∀ (i : Nat) (t : Nat → Nat) (j : Nat), i < j → nodesT i t j = t j
  | 0, t, j, _ => rfl
  | i + 1, t, j, h => by
    unfold nodesT
    rw [nodesT_above i _ j (by omega)]
    unfold upd
    rw [if_neg (by omega)]
theorem nodesT_ok : ∀ (i : Nat) (t : Nat → Nat) (j : Nat), 1 ≤ j → j ≤ i → okAt (nodesT i t) j
  | 0, t, j, h1, h2 => by omega
  | i + 1, t, j, h1, h2 => by
    by_cases h : j ≤ i
    · unfold nodesT
      exact nodesT_ok i _ j h1 h
    · obtain rfl : j = i + 1 := by omega
      unfold okAt
      rw [nodesT_above (i + 1) t (2 * (i + 1)) (by omega), nodesT_above (i + 1) t (2 * (i + 1) + 1) (by omega)]
      unfold nodesT
      rw [nodesT_above i _ (i + 1) (by omega)]
      unfold upd
      rw [if_pos rfl]
theorem treeF_sound (l : List Mu) : soundF (treeF l) = true := soundF_iff.2 fun i h1 h2 => nodesT_ok 15 _ i h2 (by omega)
/-- The nodes that are still to come. -/
theorem nodes_step {T : Nat → Nat} {t : Nat → Nat} {i : Nat} (h : nodesT (i + 1) t = T) : nodesT i (upd t (i + 1) (nodeF (t (2 * (i + 1))) (t (2 * (i + 1) + 1)))) = T := h
end Go.Proofs.YtkdgbkhnnehedaaGreatDoor.Mrk

namespace Go.Proofs.YtkdgbkhnnehedaaGreatDoor.Mrk
open Go.Proofs.YtkdgbkhnnehedaaGreatDoor.Mut Go.Proofs.YtkdgbkhnnehedaaGreatDoor.Ord

/-- A text more, where it belongs, if it isn't there (merkle.put). -/
def insK (k : ByteArray) : List ByteArray → List ByteArray
  | [] => [k]
  | x :: l => if x = k then x :: l else if lessS k x then k :: x :: l else x :: insK k l
/-- The document's: behind each round what is still to come. -/
def wordK (k : ByteArray) : Bool → List ByteArray → List ByteArray
  | q, [] => if q then [] else [k]
  | q, x :: l => (if !q && (lessS k x || decide (k = x)) then [k] else []) ++ (if x = k then [] else [x]) ++ wordK k (q || (lessS k x || decide (k = x))) l
/-- They rise. -/
def RiseK (l : List ByteArray) : Prop := l.Pairwise fun a b => lessS a b = true
theorem lessS_ne {a b : ByteArray} (h : lessS a b = true) : a ≠ b := fun e => less_ne h (by rw [e])
theorem lessS_trans {a b c : ByteArray} (h : lessS a b = true) (g : lessS b c = true) : lessS a c = true := less_trans _ _ _ h g
theorem lessS_asymm {a b : ByteArray} (h : lessS a b = true) : lessS b a = false := less_asymm h
theorem lessS_total (a b : ByteArray) : lessS a b = true ∨ a = b ∨ lessS b a = true := by
  rcases less_total a.toList b.toList with h | h | h
  · exact Or.inl h
  · exact Or.inr (Or.inl (bytes_ext h))
  · exact Or.inr (Or.inr h)
theorem wordK_in (k : ByteArray) : ∀ l : List ByteArray, (∀ x ∈ l, x ≠ k) → wordK k true l = l
  | [], _ => rfl
  | x :: l, h => by
    unfold wordK
    rw [if_neg (h x (by simp))]
    simp [wordK_in k l fun y hy => h y (by simp [hy])]
theorem word_put (k : ByteArray) : ∀ l : List ByteArray, RiseK l → wordK k false l = insK k l
  | [], _ => rfl
  | x :: l, h => by
    obtain ⟨h1, h2⟩ := List.pairwise_cons.1 h
    unfold wordK insK
    by_cases e : x = k
    · subst e
      simp [wordK_in x l fun y hy => (lessS_ne (h1 y hy)).symm]
    · rw [if_neg e, if_neg e]
      by_cases g : lessS k x = true
      · rw [if_pos g]
        simp [g, wordK_in k l fun y hy => (lessS_ne (lessS_trans g (h1 y hy))).symm]
      · have e' : ¬ k = x := fun q => e q.symm
        simp [g, e', word_put k l h2]
theorem insK_mem (k : ByteArray) : ∀ (l : List ByteArray) (y : ByteArray), y ∈ insK k l → y = k ∨ y ∈ l
  | [], y, h => by simp [insK] at h; exact Or.inl h
  | x :: l, y, h => by
    unfold insK at h
    split at h
    · exact Or.inr h
    · split at h
      · rcases List.mem_cons.1 h with h | h
        · exact Or.inl h
        · exact Or.inr h
      · rcases List.mem_cons.1 h with h | h
        · exact Or.inr (by simp [h])
        · rcases insK_mem k l y h with h | h
          · exact Or.inl h
          · exact Or.inr (by simp [h])
theorem insK_rise (k : ByteArray) : ∀ l : List ByteArray, RiseK l → RiseK (insK k l)
  | [], _ => List.pairwise_singleton _ _
  | x :: l, h => by
    obtain ⟨h1, h2⟩ := List.pairwise_cons.1 h
    unfold insK
    split
    · exact h
    · rename_i e
      split
      · rename_i g
        refine List.pairwise_cons.2 ⟨fun y hy => ?_, h⟩
        rcases List.mem_cons.1 hy with rfl | hy
        · exact g
        · exact lessS_trans g (h1 y hy)
      · rename_i g
        refine List.pairwise_cons.2 ⟨fun y hy => ?_, insK_rise k l h2⟩
        rcases insK_mem k l y hy with rfl | hy
        · rcases lessS_total x y with q | q | q
          · exact q
          · exact absurd q e
          · exact absurd q g
        · exact h1 y hy
theorem insK_len (k : ByteArray) : ∀ l : List ByteArray, (insK k l).length ≤ l.length + 1
  | [] => by simp [insK]
  | x :: l => by
    unfold insK
    split
    · simp
    · split
      · simp
      · have := insK_len k l; simp; omega
theorem wordK_len (k : ByteArray) : ∀ (l : List ByteArray) (q : Bool), (wordK k q l).length ≤ l.length + (if q then 0 else 1)
  | [], q => by cases q <;> simp [wordK]
  | x :: l, q => by
    have h := wordK_len k l (q || (lessS k x || decide (k = x)))
    unfold wordK
    generalize (lessS k x || decide (k = x)) = D at *
    have h2 : (if x = k then ([] : List ByteArray) else [x]).length ≤ 1 := by split <;> simp
    rw [List.length_append, List.length_append, List.length_cons]
    generalize (if x = k then ([] : List ByteArray) else [x]).length = e at *
    generalize (wordK k (q || D) l).length = f at *
    cases q <;> cases D <;> simp at h ⊢ <;> omega
/-- The keys of mutations in some leaves. -/
def keysK (p : Nat → Bool) (l : List Mu) : List ByteArray := l.foldl (fun a m => if p (bucketF m.key) then insK m.key a else a) []
theorem keysK_snoc (p : Nat → Bool) (l : List Mu) (m : Mu) : keysK p (l ++ [m]) = if p (bucketF m.key) then insK m.key (keysK p l) else keysK p l := by unfold keysK; rw [List.foldl_append]; rfl
theorem keysK_rise (p : Nat → Bool) (l : List Mu) : RiseK (keysK p l) := by
  unfold keysK
  have : ∀ (l : List Mu) (a : List ByteArray), RiseK a → RiseK (l.foldl (fun a m => if p (bucketF m.key) then insK m.key a else a) a) := by
    intro l
    induction l with
    | nil => intro a h; exact h
    | cons m l ih =>
      intro a h
      refine ih _ ?_
      show RiseK (if p (bucketF m.key) then insK m.key a else a)
      split
      · exact insK_rise _ _ h
      · exact h
  exact this l [] List.Pairwise.nil
theorem keysK_len (p : Nat → Bool) (l : List Mu) : (keysK p l).length ≤ l.length := by
  unfold keysK
  have : ∀ (l : List Mu) (a : List ByteArray), (l.foldl (fun a m => if p (bucketF m.key) then insK m.key a else a) a).length ≤ a.length + l.length := by
    intro l
    induction l with
    | nil => intro a; simp
    | cons m l ih =>
      intro a
      refine Nat.le_trans (ih _) ?_
      simp only [List.length_cons]
      split
      · have := insK_len m.key a; omega
      · omega
  simpa using this l []
/-- Leaves that may be: those of a row that are in 0 to 15. -/
def inK (l : List Int) (i : Nat) : Bool := l.any fun x => decide (x = i)
end Go.Proofs.YtkdgbkhnnehedaaGreatDoor.Mrk

namespace Go.Proofs.YtkdgbkhnnehedaaGreatDoor.Mut
open Go.RowKit Go.Sort Go.Shelf Go.Proofs.YtkdgbkhnnehedaaGreatDoor.Ord
set_option linter.unusedSectionVars false
variable [Inhabited Lim]

abbrev enTx (s : ByteArray) : List Value := [.string s]
abbrev TxRow (w : World) (v : Value) (l : List ByteArray) : Prop := Lst 1 enTx w v l
theorem str_at {w : World} {ao : Option Addr} {n cap : Nat} {l : List ByteArray} {k : Nat} {x : ByteArray} (h : TxRow w (.slice ao n cap) l) (hk : l[k]? = some x) :
    ∃ b off, ao = some ⟨b, off, none⟩ ∧ b < w.heap.size ∧ w.cell? ⟨b, off + k, none⟩ = some (.string x) := by
  obtain ⟨hlt, he⟩ := List.getElem?_eq_some_iff.1 hk
  obtain ⟨b, off, ha, hb, hc⟩ := Lst.get h hlt
  have := hc 0 (by decide)
  rw [he, Nat.mul_one] at this
  exact ⟨b, off, ha, hb, this⟩

theorem bytes_neM {x y : ByteArray} (h : ¬ x.toList = y.toList) : ¬ x = y := fun e => h (by rw [e])
def eqTx (a b : List ByteArray) : Bool := decide (a = b)
theorem eqTx_iff (a b : List ByteArray) : eqTx a b = true ↔ a = b := by unfold eqTx; simp
theorem eqTx_self (a : List ByteArray) : eqTx a a = true := (eqTx_iff a a).2 rfl

set_option maxHeartbeats 400000 in
theorem equalS_any (ao bo : Option Addr) (ac bc : Nat) (a b : List ByteArray) (w : World) (ha : TxRow w (.slice ao a.length ac) a) (hb : TxRow w (.slice bo b.length bc) b) (h1 : a.length ≤ 100000) (h2 : b.length ≤ 100000) :
    Calls Tryz.prog 32 #[.slice ao a.length ac, .slice bo b.length bc] w fun e w' => e = .returned (.bool (eqTx a b)) ∧ Below w.heap.size w w' := by
  have HA := Lib.hid ha
  have HB := Lib.hid hb
  clear ha hb
  cases hl : ((a.length : Int) != (b.length : Int))
  · have hll : a.length = b.length := by simp at hl; omega
    have HLL := Lib.hid hll
    obtain ⟨r, hr⟩ : ∃ r, r = eqTx a b := ⟨_, rfl⟩
    rw [← hr]
    have HR := Lib.hid hr
    clear hr hll
    go_enter Tryz.func32, Tryz.ntmps32
    go_wp2_with fail
    go_loopw [13] (fun iv wr => ∃ (k nq : Nat), k ≤ a.length ∧ iv = .int .i64 k ∧ wr = w.drewN nq ∧ Hid (eqTx (a.drop k) (b.drop k) = r)) (fun iv _ => a.length - (intOf iv).toNat)
    case atStart => exact ⟨0, 0, by omega, rfl, rfl, Lib.hid (by rw [HR.out]; simp)⟩
    case round =>
      obtain ⟨k, nq0, hk, rfl, rfl, hq0⟩ := hrel
      by_cases hlt : k < a.length
      · have hlb : k < b.length := by have := HLL.out; omega
        obtain ⟨ab, aoff, rfl, _, a0⟩ := str_at HA.out (List.getElem?_eq_getElem hlt)
        obtain ⟨bb, boff, rfl, _, b0⟩ := str_at HB.out (List.getElem?_eq_getElem hlb)
        have hda := List.drop_eq_getElem_cons hlt
        have hdb := List.drop_eq_getElem_cons hlb
        generalize a[k] = x at *
        generalize b[k] = y at *
        have HDA := Lib.hid hda
        have HDB := Lib.hid hdb
        clear hda hdb
        cases hqq : (!x.toList == y.toList)
        · have HQ := Lib.hid hqq
          go_wp2_with fail
          go_quiet (fail)
          go_wp2_with fail
          go_roundw
          case rel => exact ⟨k + 1, _, by omega, by go_num, rfl, Lib.hid (by have h1 := hq0.out; rw [HDA.out, HDB.out] at h1; have h2 := HQ.out; simp at h2; rw [← h1]; unfold eqTx; simp [bytes_ext h2])⟩
          case measure => simp [intOf]; omega
        · have HQ := Lib.hid hqq
          go_wp2_with fail
          go_quiet (fail)
          go_wp2_with fail
          go_ret
          exact ⟨by have h1 := hq0.out; rw [HDA.out, HDB.out] at h1; have h2 := HQ.out; simp at h2; rw [← h1]; unfold eqTx; simp [bytes_neM h2], by repeat (first | exact Below.refl _ _ | apply below_drewN)⟩
      · obtain rfl : k = a.length := by omega
        go_wp2_with fail
        go_ret
        exact ⟨by have := hq0.out; rw [List.drop_length, HLL.out, List.drop_length] at this; rw [← this]; rfl, by repeat (first | exact Below.refl _ _ | apply below_drewN)⟩
  · have hll : a.length ≠ b.length := by simp at hl; omega
    have : eqTx a b = false := by
      cases h : eqTx a b with
      | false => rfl
      | true => rw [eqTx_iff] at h; exact (hll (by rw [h])).elim
    rw [this]
    clear hll this
    go_enter Tryz.func32, Tryz.ntmps32
    go_wp2_with fail
    go_ret
    exact ⟨rfl, Below.refl _ _⟩

theorem equalS_lit (q : Bool) (ao bo : Option Addr) (ac bc : Nat) (a b : List ByteArray) (w : World) (hq : eqTx a b = q) (ha : TxRow w (.slice ao a.length ac) a) (hb : TxRow w (.slice bo b.length bc) b) (h1 : a.length ≤ 100000) (h2 : b.length ≤ 100000) :
    Calls Tryz.prog 32 #[.slice ao a.length ac, .slice bo b.length bc] w fun e w' => e = .returned (.bool q) ∧ Below w.heap.size w w' := by
  rw [← hq]; exact equalS_any ao bo ac bc a b w ha hb h1 h2


theorem flat_enS : ∀ l : List ByteArray, l.flatMap enTx = l.map Value.string
  | [] => rfl
  | x :: t => by rw [List.flatMap_cons, List.map_cons, flat_enS t]; rfl
end Go.Proofs.YtkdgbkhnnehedaaGreatDoor.Mut

namespace Go.Proofs.YtkdgbkhnnehedaaGreatDoor.Spare
open Go Go.RowKit

section
variable {P : Program}
/-- As run_append_spare, of any number of elements, none too. -/
theorem run_append_spareAny (w : World) (base : Nat) (t ty e : TypeId) (i : TypeInfo) (z : Value) (zs : List Value) (bytes : Nat) (ht : P.underlying t = some (.slice e)) (hi : P.info? e = some i) (hz : i.zero = some z)
    (hzc : z.cells = zs.toArray) (hsize : i.size = zs.length) (hby : i.bytes = bytes) (hpos : 0 < zs.length)
    (v : Value) (n : Nat) (xs : List Value) (hs : Spare w base e zs v n xs)
    (xo : Option Addr) (m c : Nat) (news : List Value) (hl : news.length = m * zs.length) (hx : m = 0 ∨ ∃ ad, xo = some ad ∧ ∀ j u, news[j]? = some u → w.cell? (ad.add j) = some u) (h1 : ∀ u ∈ news, u.oneCell' = true)
    (h63 : n + m ≤ maxLen) (hbytes : (n + m) * bytes ≤ 140737488355328) (hbase : base ≤ w.heap.size) :
    ∃ v' w', (Builtin.append_ #[t, t] ty #[v, .slice xo m c]).run P w = .ok v' w' ∧ Spare w' base e zs v' (n + m) (xs ++ news) ∧ w.grownBy w' v.ownBlock ∧ Kept w w' zs v n ∧ SpareLoc w v v' := by
  by_cases hm : m = 0
  · subst hm
    obtain rfl : news = [] := List.eq_nil_of_length_eq_zero (by simpa using hl)
    obtain ⟨ao, cap, rfl⟩ := row_form hs.own
    have hcap : n ≤ cap := by
      rcases hs.own.2 with ⟨e, _⟩ | ⟨g, c, cur, e, _, _, h3, _⟩
      · cases e; omega
      · cases e; exact h3
    have hsr : Src P i.size t (.slice xo 0 c) 0 [] w := by
      cases xo with
      | none => exact Src.ofNil w ht c
      | some a => exact Src.ofSlice w ht a 0 c [] (by simp) (fun j u h => by simp at h) (fun u h => by cases h)
    exact ⟨_, _, run_append_nothing w t t ty e i ht hi ao n cap hcap _ hsr, by simpa using hs, ⟨rfl, rfl, rfl, Nat.le_refl _, fun _ _ _ => rfl⟩, fun b o u hc => Or.inl hc, fun g hg => Or.inl hg⟩
  · rcases hx with h0 | ⟨ad, rfl, hx⟩
    · exact absurd h0 hm
    · exact run_append_spare (P := P) w base t ty e i z zs bytes ht hi hz hzc hsize hby hpos v n xs hs ad m c news (Or.inl (by omega)) hl hx h1 h63 hbytes hbase

theorem wpList_append_spareAny {w : World} {ops : Array Oper} {rest : List Oper} {o : Oper} {a : Act} {Q : Exit → Act → World → Prop} (hgd : o.guard = none) (s x : Operand) (t : TypeId)
    (ho : o.op = .call { callee := .builtin .append, args := #[s, x], argTypes := #[t, t] })
    (base : Nat) (e : TypeId) (i : TypeInfo) (z : Value) (zs : List Value) (bytes : Nat) (ht : P.underlying t = some (.slice e)) (hi : P.info? e = some i) (hz : i.zero = some z)
    (hzc : z.cells = zs.toArray) (hsize : i.size = zs.length) (hby : i.bytes = bytes) (hpos : 0 < zs.length)
    (v : Value) (n : Nat) (xs : List Value) (hs : a.eval s = v) (hown : Spare w base e zs v n xs)
    (xo : Option Addr) (m c : Nat) (news : List Value) (hxv : a.eval x = .slice xo m c) (hl : news.length = m * zs.length) (hx : m = 0 ∨ ∃ ad, xo = some ad ∧ ∀ j u, news[j]? = some u → w.cell? (ad.add j) = some u) (h1 : ∀ u ∈ news, u.oneCell' = true)
    (h63 : n + m ≤ maxLen) (hbytes : (n + m) * bytes ≤ 140737488355328) (hbase : base ≤ w.heap.size)
    (h : ∀ v' w', Spare w' base e zs v' (n + m) (xs ++ news) → w.grownBy w' v.ownBlock → Kept w w' zs v n → SpareLoc w v v' → wpList P ops Q rest (a.put o.dst v') w') : wpList P ops Q (o :: rest) a w := by
  refine wpList_plain hgd fun K hK => ?_
  obtain ⟨v', w', hr, q1, q2, q3, q4⟩ := run_append_spareAny (P := P) w base t o.type e i z zs bytes ht hi hz hzc hsize hby hpos v n xs hown xo m c news hl hx h1 h63 hbytes hbase
  unfold Oper.wp execOp
  simp only [ho, resolve, invoke, builtin, Sem.run_bind, Sem.run_pure, Result.andThen_ok, List.map_toArray, List.map_cons, List.map_nil, hs, hxv, hr]
  exact hK _ _ (h v' w' q1 q2 q3 q4)
/-- The same where the operation has a guard. -/
theorem wpList_append_spareAnyG {w : World} {ops : Array Oper} {rest : List Oper} {o : Oper} {a : Act} {Q : Exit → Act → World → Prop} (hgd : Region.wanted o (yielded ops a.tmps) = true) (s x : Operand) (t : TypeId)
    (ho : o.op = .call { callee := .builtin .append, args := #[s, x], argTypes := #[t, t] })
    (base : Nat) (e : TypeId) (i : TypeInfo) (z : Value) (zs : List Value) (bytes : Nat) (ht : P.underlying t = some (.slice e)) (hi : P.info? e = some i) (hz : i.zero = some z)
    (hzc : z.cells = zs.toArray) (hsize : i.size = zs.length) (hby : i.bytes = bytes) (hpos : 0 < zs.length)
    (v : Value) (n : Nat) (xs : List Value) (hs : a.eval s = v) (hown : Spare w base e zs v n xs)
    (xo : Option Addr) (m c : Nat) (news : List Value) (hxv : a.eval x = .slice xo m c) (hl : news.length = m * zs.length) (hx : m = 0 ∨ ∃ ad, xo = some ad ∧ ∀ j u, news[j]? = some u → w.cell? (ad.add j) = some u) (h1 : ∀ u ∈ news, u.oneCell' = true)
    (h63 : n + m ≤ maxLen) (hbytes : (n + m) * bytes ≤ 140737488355328) (hbase : base ≤ w.heap.size)
    (h : ∀ v' w', Spare w' base e zs v' (n + m) (xs ++ news) → w.grownBy w' v.ownBlock → Kept w w' zs v n → SpareLoc w v v' → wpList P ops Q rest (a.put o.dst v') w') : wpList P ops Q (o :: rest) a w := by
  refine wpList_step fun K hK => ?_
  rw [if_pos hgd]
  obtain ⟨v', w', hr, q1, q2, q3, q4⟩ := run_append_spareAny (P := P) w base t o.type e i z zs bytes ht hi hz hzc hsize hby hpos v n xs hown xo m c news hl hx h1 h63 hbytes hbase
  unfold Oper.wp execOp
  simp only [ho, resolve, invoke, builtin, Sem.run_bind, Sem.run_pure, Result.andThen_ok, List.map_toArray, List.map_cons, List.map_nil, hs, hxv, hr]
  exact hK _ _ (h v' w' q1 q2 q3 q4)
end
end Go.Proofs.YtkdgbkhnnehedaaGreatDoor.Spare

namespace Go.Proofs.YtkdgbkhnnehedaaGreatDoor.Mut
open Go.RowKit Go.Proofs.YtkdgbkhnnehedaaGreatDoor.Spare
set_option linter.unusedSectionVars false

def zM : List Value := [.int .i64 0, .int .i64 0, .string ByteArray.empty, .string ByteArray.empty, .string ByteArray.empty, .int .i64 0, .int .i64 0, .int .i64 0, .int .i64 0, .slice none 0 0]
theorem spare_lit (w : World) (base : Nat) (e : TypeId) (zs : List Value) (hpos : 0 < zs.length) (hb : base ≤ w.heap.size) : Spare (w.alloc (.cells #[] e)) base e zs (.slice (some ⟨w.heap.size, 0, none⟩) 0 0) 0 [] := by
  have h := fresh_spare w base e zs hpos 0 0 [] (by simp) (Nat.le_refl _) (Nat.zero_le _) hb
  have e0 : (([] : List Value).toArray ++ Builtin.zeroCells zs.toArray (0 - 0)) = #[] := by simp [Builtin.zeroCells]
  rw [e0] at h
  exact h
theorem lst_src {α : Type} {sz : Nat} {en : α → List Value} {w : World} {ao : Option Addr} {n cap : Nat} {l : List α} (hen : ∀ x, (en x).length = sz) (hsz : 0 < sz) (h : Lst sz en w (.slice ao n cap) l) :
    n = 0 ∨ ∃ ad, ao = some ad ∧ ∀ j u, (l.flatMap en)[j]? = some u → w.cell? (ad.add j) = some u := by
  have hl := Lst.len h
  cases ao with
  | some a => exact Or.inr ⟨a, rfl, Lst.news hen hsz h⟩
  | none =>
    left
    cases l with
    | nil => exact hl
    | cons x l =>
      obtain ⟨b, off, e, -⟩ := Lst.get h (show 0 < (x :: l).length by simp)
      cases e
end Go.Proofs.YtkdgbkhnnehedaaGreatDoor.Mut

namespace Go.Proofs.YtkdgbkhnnehedaaGreatDoor.Mrk
open Go.RowKit Go.Proofs.YtkdgbkhnnehedaaGreatDoor.Spare Go.Proofs.YtkdgbkhnnehedaaGreatDoor.RegInv Go.Proofs.YtkdgbkhnnehedaaGreatDoor.Mut Go.Proofs.YtkdgbkhnnehedaaGreatDoor.Ord
set_option linter.unusedSectionVars false
variable [Inhabited Lim]

theorem info_T : (Tryz.prog.info? 9).map (fun i => (i.zero, i.size, i.bytes)) = some (some (.string ByteArray.empty), 1, 16) := by kernel_rfl
theorem info_parts_T : ∃ i : TypeInfo, Tryz.prog.info? 9 = some i ∧ i.zero = some (.string ByteArray.empty) ∧ i.size = 1 ∧ i.bytes = 16 := by
  have h := info_T
  cases hq : Tryz.prog.info? 9 with
  | none => simp [hq] at h
  | some i => simp [hq] at h; exact ⟨i, rfl, h.1, h.2.1, h.2.2⟩
/-- A row of texts of one's own. -/
def OwnT (w : World) (base : Nat) (v : Value) (l : List ByteArray) : Prop := w.ownsRow base 9 1 v l.length (l.flatMap enTx)
theorem OwnT.below {w w' : World} {base : Nat} {v : Value} {l : List ByteArray} (h : OwnT w base v l) (hb : Below w.heap.size w w') : OwnT w' base v l :=
  World.ownsRow.kept h (grown_below (row := none) hb) (by cases v.ownBlock <;> simp)
theorem OwnT.nil (w : World) (base : Nat) : OwnT w base (.slice none 0 0) [] := World.ownsRow_nil _ _ _ _
theorem OwnT.form {w : World} {base : Nat} {v : Value} {l : List ByteArray} (h : OwnT w base v l) : ∃ ao cap, v = .slice ao l.length cap := by
  rcases h.2 with ⟨rfl, h0⟩ | ⟨g, cap, cur, rfl, _⟩
  · rw [h0]; exact ⟨_, _, rfl⟩
  · exact ⟨_, _, rfl⟩
theorem enTx_len (x : ByteArray) : (enTx x).length = 1 := rfl
theorem OwnT.row {w : World} {base : Nat} {v : Value} {l : List ByteArray} (h : OwnT w base v l) : TxRow w v l := Lst.owned enTx_len (by decide) rfl h
theorem flat_enT_len (l : List ByteArray) : (l.flatMap enTx).length = l.length := by rw [flat_enS, List.length_map]
theorem enT_one (l : List ByteArray) : ∀ u ∈ l.flatMap enTx, u.oneCell' = true := by
  intro u hu
  rw [flat_enS] at hu
  obtain ⟨c, _, rfl⟩ := List.mem_map.1 hu
  rfl
theorem OwnT.at0 {w : World} {base : Nat} {v : Value} {l : List ByteArray} (h : OwnT w base v l) (hl : l ≠ []) : ∃ g cap, v = .slice (some ⟨g, 0, none⟩) l.length cap ∧ l.length ≤ cap ∧ base ≤ g ∧ g < w.heap.size ∧ ∀ (i : Nat) (x : ByteArray), l[i]? = some x → w.cell? ⟨g, i, none⟩ = some (.string x) := by
  rcases h.2 with ⟨_, h0⟩ | ⟨g, cap, cur, rfl, h2, h3, h4, _⟩
  · exact absurd (List.eq_nil_of_length_eq_zero h0) hl
  · refine ⟨g, cap, rfl, h4, h2, (Array.getElem?_eq_some_iff.1 h3).1, fun i x hx => ?_⟩
    have := World.ownsRow.cells h (g := g) rfl i (.string x) (by rw [flat_enS, List.getElem?_map, hx]; rfl)
    rw [addr_add, Nat.zero_add] at this
    exact this
def sOwnT (b0 : Nat) (l : List ByteArray) : RSpec := sOne (fun v W => OwnT W b0 v l) (fun _ _ _ h hb => h.below hb)
/-- That row with these texts comes back, or a new one. -/
def PutT (base : Nat) (v : Value) (l : List ByteArray) (w : World) (e : Ending) (w' : World) : Prop := ∃ v', e = .returned v' ∧ OwnT w' base v' l ∧ w.grownBy w' v.ownBlock
def sNew1 (k : ByteArray) : RSpec := sOne (fun v W => ∃ g, v = .slice (some ⟨g, 0, none⟩) 1 1 ∧ g < W.heap.size ∧ W.cell? ⟨g, 0, none⟩ = some (.string k)) (fun _ _ _ h hb => by
  obtain ⟨g, h1, h2, h3⟩ := h
  exact ⟨g, h1, Nat.lt_of_lt_of_le h2 hb.size, (World.cell?_of_block (a := ⟨g, 0, none⟩) (hb.block g h2)).trans h3⟩)
theorem news_one {w : World} {g : Nat} {k : ByteArray} (h : w.cell? ⟨g, 0, none⟩ = some (.string k)) : ∀ (j : Nat) (u : Value), ([Value.string k] : List Value)[j]? = some u → w.cell? ((⟨g, 0, none⟩ : Addr).add j) = some u := by
  intro j u hu
  cases j with
  | zero => simp at hu; subst hu; rw [addr_add]; exact h
  | succ j => simp at hu
theorem new_cell (w : World) (x : Value) (t : TypeId) : (w.alloc (.cells #[x] t)).cell? ⟨w.heap.size, 0, none⟩ = some x := by
  have h := new_cells w [x] t 0 x rfl
  rw [addr_add] at h
  exact h
theorem insK_at (k : ByteArray) (l : List ByteArray) (i : Nat) (x : ByteArray) (hx : l[i]? = some x) (h : insK k l = l.take i ++ insK k (l.drop i)) (h1 : ¬ x = k) (h2 : lessS k x = false) : insK k l = l.take (i + 1) ++ insK k (l.drop (i + 1)) := by
  obtain ⟨hi, he⟩ := List.getElem?_eq_some_iff.1 hx
  rw [h, List.drop_eq_getElem_cons hi, he, List.take_add_one, hx]
  conv => lhs; unfold insK
  rw [if_neg h1, if_neg (by simp [h2])]
  simp
theorem insK_same (k : ByteArray) (l : List ByteArray) (i : Nat) (x : ByteArray) (hx : l[i]? = some x) (h : insK k l = l.take i ++ insK k (l.drop i)) (h1 : x = k) : insK k l = l := by
  obtain ⟨hi, he⟩ := List.getElem?_eq_some_iff.1 hx
  rw [h]
  conv => rhs; rw [← List.take_append_drop i l]
  congr 1
  rw [List.drop_eq_getElem_cons hi, he]
  unfold insK
  rw [if_pos h1]
theorem insK_here (k : ByteArray) (l : List ByteArray) (i : Nat) (x : ByteArray) (hx : l[i]? = some x) (h : insK k l = l.take i ++ insK k (l.drop i)) (h1 : ¬ x = k) (h2 : lessS k x = true) : insK k l = (l.take i ++ [k]) ++ l.drop i := by
  obtain ⟨hi, he⟩ := List.getElem?_eq_some_iff.1 hx
  rw [h, List.drop_eq_getElem_cons hi, he]
  conv => lhs; unfold insK
  rw [if_neg h1, if_pos h2]
  simp

set_option maxHeartbeats 4000000 in
set_option maxRecDepth 100000 in
theorem put_own (k : ByteArray) (base : Nat) (v : Value) (l : List ByteArray) (w : World) (hv : OwnT w base v l) (hbase : base ≤ w.heap.size) (hl : l.length ≤ 1000) :
    Calls Tryz.prog 78 #[v, .string k] w (PutT base v (insK k l) w) := by
  obtain ⟨vo, vc, rfl⟩ := hv.form
  unfold OwnT at hv
  obtain ⟨i0, hi, hz0, hz1, hz2⟩ := info_parts_T
  have HI := Lib.hid (And.intro hi (And.intro hz0 (And.intro hz1 hz2)))
  clear hi hz0 hz1 hz2
  obtain ⟨n, hn⟩ : ∃ n, n = l.length := ⟨_, rfl⟩
  rw [← hn] at hv hl ⊢
  have HV := Lib.hid hv
  have HN := Lib.hid hn
  obtain ⟨Q, hQ⟩ : ∃ Q, Q = insK k l := ⟨_, rfl⟩
  rw [← hQ]
  have HQ := Lib.hid hQ
  clear hv hn hQ
  go_enter Tryz.func78, Tryz.ntmps78
  go_wp2_with fail
  go_loopw [9] (fun iv wr => ∃ i : Nat, i ≤ n ∧ iv = .int .i64 i ∧ wr = w ∧ Hid (Q = l.take i ++ insK k (l.drop i))) (fun iv _ => n - (intOf iv).toNat)
  case atStart => exact ⟨0, by omega, rfl, rfl, Lib.hid (by rw [HQ.out]; simp)⟩
  case round =>
    obtain ⟨i, hi, rfl, rfl, hq⟩ := hrel
    obtain ⟨w, hww⟩ : ∃ W : World, W = wr := ⟨_, rfl⟩
    subst hww
    by_cases hlt : i < n
    · have hil : i < l.length := by have := HN.out; omega
      obtain ⟨x, hx⟩ : ∃ x, l[i]? = some x := ⟨_, List.getElem?_eq_getElem hil⟩
      have hne : l ≠ [] := fun e => by rw [e] at hil; simp at hil
      obtain ⟨g, cap, e, hcap, hbg, hgw, hcell⟩ := OwnT.at0 (by unfold OwnT; rw [← HN.out]; exact HV.out) hne
      rw [← HN.out] at e hcap
      cases e
      have c0 := hcell i x hx
      have HX := Lib.hid hx
      have HC := Lib.hid hcell
      clear hx hcell hne
      have j0 : (0 : Int) ≤ (i : Int) := by omega
      have j1 : (i : Int) < (n : Int) := by omega
      cases hqq : (x.toList == k.toList)
      · rcases hgg0 : Op.bytesLess x.toList k.toList with _ | _
        rotate_left
        · have hgg : lessS k x = false := less_asymm hgg0
          have HQ2 := Lib.hid (show Q = l.take (i + 1) ++ insK k (l.drop (i + 1)) from by
            have h := insK_at k l i x HX.out (by rw [← HQ.out]; exact hq.out) (fun e => by rw [e] at hqq; simp at hqq) hgg
            rw [HQ.out]; exact h)
          clear hgg
          go_wp2_with fail
          go_roundw
          case rel => exact ⟨i + 1, by omega, by go_num, by first | rfl | trivial, HQ2⟩
          case measure => simp [intOf]; omega
        · have hgg : lessS k x = true := by
            rcases less_total x.toList k.toList with h | h | h
            · rw [hgg0] at h; cases h
            · rw [h] at hqq; simp at hqq
            · exact h
          have HQ2 := Lib.hid (show Q = (l.take i ++ [k]) ++ l.drop i from by
            have h := insK_here k l i x HX.out (by rw [← HQ.out]; exact hq.out) (fun e => by rw [e] at hqq; simp at hqq) hgg
            rw [HQ.out]; exact h)
          have hcapn : n ≤ vc := hcap
          have HLT := Lib.hid (show (l.take i).length = i from by rw [List.length_take]; omega)
          have HLD := Lib.hid (show (l.drop i).length = n - i from by rw [List.length_drop, ← HN.out])
          obtain ⟨p1, hp1⟩ : ∃ p, p = l.take i := ⟨_, rfl⟩
          obtain ⟨p2, hp2⟩ : ∃ p, p = l.drop i := ⟨_, rfl⟩
          have HS1 := Lib.hid (show ∀ W, Below w.heap.size w W → ∀ (j : Nat) (u : Value), (p1.flatMap enTx)[j]? = some u → W.cell? ((⟨g, 0, none⟩ : Addr).add j) = some u from fun W hW j u hu => by
            rw [addr_add, Nat.zero_add, World.cell?_of_block (a := ⟨g, j, none⟩) (hW.block g hgw)]
            rw [hp1, flat_enS, List.getElem?_map] at hu
            obtain ⟨y, hy, rfl⟩ := Option.map_eq_some_iff.1 hu
            refine HC.out j y ?_
            rw [List.getElem?_take] at hy
            split at hy
            · exact hy
            · cases hy)
          have HS2 := Lib.hid (show ∀ W, Below w.heap.size w W → ∀ (j : Nat) (u : Value), (p2.flatMap enTx)[j]? = some u → W.cell? ((⟨g, i, none⟩ : Addr).add j) = some u from fun W hW j u hu => by
            rw [addr_add, World.cell?_of_block (a := ⟨g, i + j, none⟩) (hW.block g hgw)]
            rw [hp2, flat_enS, List.getElem?_map] at hu
            obtain ⟨y, hy, rfl⟩ := Option.map_eq_some_iff.1 hu
            exact HC.out (i + j) y (by rw [← hy, List.getElem?_drop]))
          rw [← hp1, ← hp2] at HQ2
          rw [← hp1] at HLT
          rw [← hp2] at HLD
          have HQ3 := Lib.hid (show (p1 ++ [k]).length = i + 1 from by rw [List.length_append, HLT.out]; rfl)
          obtain ⟨p3, hp3⟩ : ∃ p, p = p1 ++ [k] := ⟨_, rfl⟩
          rw [← hp3] at HQ2 HQ3
          have HP3 := Lib.hid hp3
          clear hp1 hp2 hp3 HC HX hq hil hgg
          have hcm : ∀ a b, Below w.heap.size w a → Below a.heap.size a b → Below w.heap.size w b := fun a b h hb => below_then h (Nat.le_refl _) hb
          have hpr : ∀ (j : Nat) (a b : World), (j = 3 → (fun _ => True) a) → Below a.heap.size a b → (j = 3 → (fun _ => True) b) := fun _ _ _ _ _ _ => trivial
          have k1 : (i : Int) ≤ (n : Int) := by omega
          have k2 : (i : Int) ≤ (vc : Int) := by omega
          go_upto_region 7 with fail
          clear c0
          obtain ⟨W0, hW0⟩ : ∃ W : World, W = w := ⟨_, rfl⟩
          have HBW := Lib.hid (show Below w.heap.size w W0 from by rw [hW0]; exact Below.refl _ _)
          rw [← hW0]
          clear hW0
          refine RegLin.wp_region_lin (RegLin.useL [(3, 6), (5, 6), (6, 10)]) (fun W => Below w.heap.size w W) (fun j W => j = 3 → (fun _ => True) W) 11 [false, false, false, false, false, false, false, false, false, false, false, false, false, false, false, false, false, false, false, false, false, false, false, true, true, true, true, true, true, true, true, true, true, true, false, false, false, false, false]
            [sLit (.slice (some ⟨g, 0, none⟩) n vc),
    sLit (.int .i64 i),
    sLit (.slice (some ⟨g, 0, none⟩) i vc),
    sOwnT w.heap.size p1,
    sLit (.string k),
    sNew1 k,
    sOwnT w.heap.size p3,
    sLit (.slice (some ⟨g, 0, none⟩) n vc),
    sLit (.int .i64 i),
    sOne (fun v _ => ∃ cc, v = .slice (some ⟨g, i, none⟩) (n - i) cc) (fun _ _ _ h _ => h),
    sOwnT w.heap.size Q] (hcm _ _ HBW.out (Below.refl _ _).drew) (fun j _ _ => trivial) (by kernel_rfl) (by kernel_rfl) (by kernel_rfl) (by kernel_rfl) (fun F hF => ?_)
          simp only [over, overL, Nat.reduceAdd] at hF
          obtain rfl := funext hF
          clear hF
          refine ⟨⟨?_, ?_, ?_, ?_, ?_, ?_, ?_, ?_, ?_, ?_, ?_, trivial⟩, ?_⟩
          · intro V W hc hp hd K hK _
            clear hd
            go_wp2_with fail
            refine hK _ _ ?_ ?_ ?_
            · rfl
            · exact RegLin.keeps_below hcm hpr hc (Below.refl _ _)
            · exact rfl
          · intro V W hc hp hd K hK _
            clear hd
            go_wp2_with fail
            refine hK _ _ ?_ ?_ ?_
            · rfl
            · exact RegLin.keeps_below hcm hpr hc (Below.refl _ _)
            · exact rfl
          · intro V W hc hp hd K hK _
            have h0 : (V 23) = .slice (some ⟨g, 0, none⟩) n vc := hd 0 (by decide) (by kernel_rfl) (RegLin.useL_ok (by kernel_rfl))
            have h1 : (V 24) = .int .i64 i := hd 1 (by decide) (by kernel_rfl) (RegLin.useL_ok (by kernel_rfl))
            clear hd
            go_wp2_with fail
            refine hK _ _ ?_ ?_ ?_
            · rfl
            · exact RegLin.keeps_below hcm hpr hc (Below.refl _ _)
            · exact rfl
          · intro V W hc hp hd K hK _
            have h2 : (V 25) = .slice (some ⟨g, 0, none⟩) i vc := hd 2 (by decide) (by kernel_rfl) (RegLin.useL_ok (by kernel_rfl))
            clear hd
            have hbw : w.heap.size ≤ W.heap.size := hc.size
            have HCC := Lib.hid hc
            clear hc hp
            go_wp2_with (at_builtin; refine wpList_append_spareAny rfl (.const (.slice none 0 0)) (.tmp 25) 84 rfl w.heap.size 9 i0 (.string ByteArray.empty) [.string ByteArray.empty] 16 Tryz.underlying84 HI.out.1 HI.out.2.1 rfl HI.out.2.2.1 HI.out.2.2.2 (by decide) (.slice none 0 0) 0 [] rfl (Spare.nil _ _ _ _) (some ⟨g, 0, none⟩) i vc (p1.flatMap enTx) (by first | rfl | exact h2) (by rw [flat_enT_len, HLT.out]; exact (Nat.mul_one _).symm) (Or.inr ⟨_, rfl, HS1.out _ HCC.out⟩) (enT_one _) (by unfold maxLen; omega) (by omega) hbw ?_)
            intro v1 w1 g1 g2 g3 g4
            have G1 := Lib.hid (show OwnT w1 w.heap.size v1 p1 from by have h := g1.own; unfold OwnT; rw [HLT.out]; first | exact h | simpa using h)
            have G2 := Lib.hid (show Below W.heap.size W w1 from ⟨g2.os, g2.tape, g2.output, g2.size, fun j hj => g2.block j hj (by simp [Value.ownBlock])⟩)
            clear g1 g2 g3 g4
            go_wp2_with fail
            refine hK _ _ ?_ ?_ ?_
            · rfl
            · exact RegLin.keeps_below hcm hpr HCC.out G2.out
            · exact G1.out
          · intro V W hc hp hd K hK _
            clear hd
            go_wp2_with fail
            refine hK _ _ ?_ ?_ ?_
            · rfl
            · exact RegLin.keeps_below hcm hpr hc (Below.refl _ _)
            · exact rfl
          · intro V W hc hp hd K hK _
            have h4 : (V 27) = .string k := hd 4 (by decide) (by kernel_rfl) (RegLin.useL_ok (by kernel_rfl))
            clear hd
            have HCC := Lib.hid hc
            clear hc hp
            go_wp2_with fail
            refine hK _ _ ?_ ?_ ?_
            · rfl
            · exact RegLin.keeps_below hcm hpr HCC.out ((Below.refl _ _).alloc (Nat.le_refl _) _)
            · exact ⟨_, rfl, by simp, new_cell _ _ _⟩
          · intro V W hc hp hd K hK _
            have h3 : OwnT W w.heap.size (V 26) p1 := hd 3 (by decide) (by kernel_rfl) (RegLin.useL_ok (by kernel_rfl))
            have h5 : ∃ g, (V 28) = .slice (some ⟨g, 0, none⟩) 1 1 ∧ g < W.heap.size ∧ W.cell? ⟨g, 0, none⟩ = some (.string k) := hd 5 (by decide) (by kernel_rfl) (RegLin.useL_ok (by kernel_rfl))
            clear hd
            have HA := Lib.hid (show W.ownsRow w.heap.size 9 1 (V 26) i (p1.flatMap enTx) from by have h := h3; unfold OwnT at h; rw [HLT.out] at h; exact h)
            obtain ⟨gn, e5, hgl, hgc⟩ := h5
            clear h3
            have hbw : w.heap.size ≤ W.heap.size := hc.size
            have HCC := Lib.hid hc
            clear hc hp
            go_wp2_with (at_builtin; refine wpList_append_own_loc rfl (.tmp 26) (.tmp 28) 84 rfl w.heap.size 9 i0 (.string ByteArray.empty) [.string ByteArray.empty] 16 Tryz.underlying84 HI.out.1 HI.out.2.1 rfl HI.out.2.2.1 HI.out.2.2.2 (by decide) (V 26) (i) (p1.flatMap enTx) rfl HA.out ⟨gn, 0, none⟩ 1 1 [.string k] (by first | rfl | exact e5) (by decide) rfl (news_one hgc) (by intro u hu; simp at hu; subst hu; rfl) (by unfold maxLen; omega) (by omega) hbw ?_)
            intro v1 w1 g1 g2 g3
            have G1 := Lib.hid (show OwnT w1 w.heap.size v1 p3 from by unfold OwnT; rw [HQ3.out, HP3.out, List.flatMap_append]; exact g1)
            have G2 := Lib.hid (show Below w.heap.size w w1 from HCC.out.grown g2 hbw (fun k hk => (World.ownsRow.lt HA.out k hk).1))
            clear g1 g2 g3
            go_wp2_with fail
            refine hK _ _ ?_ ?_ ?_
            · rfl
            · refine RegLin.keeps_by G2.out (by kernel_rfl) (fun j hj hne hl h => ?_)
              match j, hj, hne, hl, h with
              | 0, _, _, _, h => exact h
              | 1, _, _, _, h => exact h
              | 2, _, _, _, h => exact h
              | 3, _, _, hl, _ => exact Bool.noConfusion (hl.symm.trans (show RegLin.liveB _ 11 [(3, 6), (5, 6), (6, 10)] 6 3 = false from by kernel_rfl))
              | 4, _, _, _, h => exact h
              | 5, _, _, hl, _ => exact Bool.noConfusion (hl.symm.trans (show RegLin.liveB _ 11 [(3, 6), (5, 6), (6, 10)] 6 5 = false from by kernel_rfl))
              | 6, _, hne, _, _ => exact absurd rfl hne
              | 7, _, _, _, h => exact h
              | 8, _, _, _, h => exact h
              | 9, _, _, _, h => exact h
              | 10, _, _, hl, _ => exact Bool.noConfusion (hl.symm.trans (show RegLin.liveB _ 11 [(3, 6), (5, 6), (6, 10)] 6 10 = false from by kernel_rfl))
              | j + 11, hj, _, _, _ => exact absurd hj (by omega)
            · exact G1.out
          · intro V W hc hp hd K hK _
            clear hd
            go_wp2_with fail
            refine hK _ _ ?_ ?_ ?_
            · rfl
            · exact RegLin.keeps_below hcm hpr hc (Below.refl _ _)
            · exact rfl
          · intro V W hc hp hd K hK _
            clear hd
            go_wp2_with fail
            refine hK _ _ ?_ ?_ ?_
            · rfl
            · exact RegLin.keeps_below hcm hpr hc (Below.refl _ _)
            · exact rfl
          · intro V W hc hp hd K hK _
            have h7 : (V 30) = .slice (some ⟨g, 0, none⟩) n vc := hd 7 (by decide) (by kernel_rfl) (RegLin.useL_ok (by kernel_rfl))
            have h8 : (V 31) = .int .i64 i := hd 8 (by decide) (by kernel_rfl) (RegLin.useL_ok (by kernel_rfl))
            clear hd
            have HCC := Lib.hid hc
            clear hc hp
            go_wp2_with fail
            refine hK _ _ ?_ ?_ ?_
            · rfl
            · exact RegLin.keeps_below hcm hpr HCC.out (Below.refl _ _)
            · exact ⟨_, rfl⟩
          · intro V W hc hp hd K hK _
            have h6 : OwnT W w.heap.size (V 29) p3 := hd 6 (by decide) (by kernel_rfl) (RegLin.useL_ok (by kernel_rfl))
            have h9 : ∃ cc, (V 32) = .slice (some ⟨g, i, none⟩) (n - i) cc := hd 9 (by decide) (by kernel_rfl) (RegLin.useL_ok (by kernel_rfl))
            clear hd
            have HA := Lib.hid (show W.ownsRow w.heap.size 9 1 (V 29) (i + 1) (p3.flatMap enTx) from by have h := h6; unfold OwnT at h; rw [HQ3.out] at h; exact h)
            obtain ⟨cc, e9⟩ := h9
            clear h6
            have hbw : w.heap.size ≤ W.heap.size := hc.size
            have HCC := Lib.hid hc
            clear hc hp
            go_wp2_with (at_builtin; refine wpList_append_own_loc rfl (.tmp 29) (.tmp 32) 84 rfl w.heap.size 9 i0 (.string ByteArray.empty) [.string ByteArray.empty] 16 Tryz.underlying84 HI.out.1 HI.out.2.1 rfl HI.out.2.2.1 HI.out.2.2.2 (by decide) (V 29) (i + 1) (p3.flatMap enTx) rfl HA.out ⟨g, i, none⟩ (n - i) cc (p2.flatMap enTx) (by first | rfl | exact e9) (by omega) (by rw [flat_enT_len, HLD.out]; exact (Nat.mul_one _).symm) (HS2.out _ HCC.out) (enT_one _) (by unfold maxLen; omega) (by omega) hbw ?_)
            intro v1 w1 g1 g2 g3
            have G1 := Lib.hid (show OwnT w1 w.heap.size v1 Q from by unfold OwnT; rw [(show Q.length = i + 1 + (n - i) from (by rw [HQ2.out, List.length_append, HQ3.out, HLD.out])), HQ2.out, List.flatMap_append]; exact g1)
            have G2 := Lib.hid (show Below w.heap.size w w1 from HCC.out.grown g2 hbw (fun k hk => (World.ownsRow.lt HA.out k hk).1))
            clear g1 g2 g3
            go_wp2_with fail
            refine hK _ _ ?_ ?_ ?_
            · rfl
            · refine RegLin.keeps_by G2.out (by kernel_rfl) (fun j hj hne hl h => ?_)
              match j, hj, hne, hl, h with
              | 0, _, _, _, h => exact h
              | 1, _, _, _, h => exact h
              | 2, _, _, _, h => exact h
              | 3, _, _, hl, _ => exact Bool.noConfusion (hl.symm.trans (show RegLin.liveB _ 11 [(3, 6), (5, 6), (6, 10)] 10 3 = false from by kernel_rfl))
              | 4, _, _, _, h => exact h
              | 5, _, _, hl, _ => exact Bool.noConfusion (hl.symm.trans (show RegLin.liveB _ 11 [(3, 6), (5, 6), (6, 10)] 10 5 = false from by kernel_rfl))
              | 6, _, _, hl, _ => exact Bool.noConfusion (hl.symm.trans (show RegLin.liveB _ 11 [(3, 6), (5, 6), (6, 10)] 10 6 = false from by kernel_rfl))
              | 7, _, _, _, h => exact h
              | 8, _, _, _, h => exact h
              | 9, _, _, _, h => exact h
              | 10, _, hne, _, _ => exact absurd rfl hne
              | j + 11, hj, _, _, _ => exact absurd hj (by omega)
            · exact G1.out
          · intro V W hc hd
            have h10 : OwnT W w.heap.size (V 33) Q := hd 10 (by decide) rfl
            clear hd
            simp only [List.drop_succ_cons, List.drop_zero]
            have H9 := Lib.hid h10
            have HCC := Lib.hid hc
            clear h10 hc
            go_wp2_with fail
            go_ret
            exact ⟨_, rfl, own_base H9.out hbase, grown_below HCC.out⟩
      · have HQ2 := Lib.hid (show Q = l from by
            have h := insK_same k l i x HX.out (by rw [← HQ.out]; exact hq.out) (bytes_ext (by simpa using hqq))
            rw [HQ.out]; exact h)
        go_wp2_with fail
        go_ret
        exact ⟨_, rfl, by rw [HQ2.out]; unfold OwnT; rw [← HN.out]; exact HV.out, World.grownBy.refl _ _⟩
    · obtain rfl : i = n := by omega
      have HQ2 := Lib.hid (show Q = l ++ [k] from by
        have h := hq.out
        rw [List.take_of_length_le (by rw [HN.out]; exact Nat.le_refl _), List.drop_of_length_le (by rw [HN.out]; exact Nat.le_refl _)] at h
        exact h)
      clear hq
      go_wp2_with (at_builtin; refine wpList_append_own_loc rfl _ _ 84 rfl base 9 i0 (.string ByteArray.empty) [.string ByteArray.empty] 16 Tryz.underlying84 HI.out.1 HI.out.2.1 rfl HI.out.2.2.1 HI.out.2.2.2 (by decide) (.slice vo i vc) i (l.flatMap enTx) rfl (HV.out.alloc _) ⟨_, 0, none⟩ 1 1 [.string k] rfl (by decide) rfl (news_one (new_cell _ _ _)) (by intro u hu; simp at hu; subst hu; rfl) (by unfold maxLen; omega) (by omega) (by simp; omega) ?_)
      intro v1 w1 g1 g2 g3
      have G1 := Lib.hid (show OwnT w1 base v1 Q from by
        have e : Q.length = i + 1 := by rw [HQ2.out, List.length_append, ← HN.out]; rfl
        unfold OwnT; rw [e, HQ2.out, List.flatMap_append]; exact g1)
      have G2 := Lib.hid (show w.grownBy w1 (Value.slice vo i vc).ownBlock from (World.grownBy_alloc w _ (Value.slice vo i vc).ownBlock).andThen g2 (fun j hj => Or.inr hj))
      clear g1 g2 g3
      go_wp2_with fail
      go_ret
      exact ⟨_, rfl, G1.out, G2.out⟩
end Go.Proofs.YtkdgbkhnnehedaaGreatDoor.Mrk

namespace Go.Proofs.YtkdgbkhnnehedaaGreatDoor.Mrk
open Go.RowKit Go.Proofs.YtkdgbkhnnehedaaGreatDoor.Spare Go.Proofs.YtkdgbkhnnehedaaGreatDoor.Mut Go.Proofs.YtkdgbkhnnehedaaGreatDoor.Ord Go.Proofs.YtkdgbkhnnehedaaGreatDoor.Ints
set_option linter.unusedSectionVars false
variable [Inhabited Lim]

/-- A new row of these texts comes back. -/
def NewT (l : List ByteArray) (w : World) (e : Ending) (w' : World) : Prop := ∃ v, e = .returned v ∧ OwnT w' w.heap.size v l ∧ Below w.heap.size w w'
theorem wordK_step (k x : ByteArray) (q D E : Bool) (l : List ByteArray) (hD : (Op.bytesLess k.toList x.toList || k.toList == x.toList) = D) (hE : (x.toList == k.toList) = E) :
    wordK k q (x :: l) = (if !q && D then [k] else []) ++ (if E then [] else [x]) ++ wordK k (q || D) l := by
  have d : (lessS k x || decide (k = x)) = D := by
    rw [← hD]
    unfold lessS
    congr 1
    rw [Bool.eq_iff_iff]
    simp [bytes_iff]
  have e : decide (x = k) = E := by
    rw [← hE, Bool.eq_iff_iff]
    simp [bytes_iff]
  show (if !q && (lessS k x || decide (k = x)) then [k] else []) ++ (if x = k then [] else [x]) ++ wordK k (q || (lessS k x || decide (k = x))) l = _
  rw [d]
  congr 2
  cases E
  · rw [if_neg (by simpa using e)]; rfl
  · rw [if_pos (by simpa using e)]; rfl

set_option maxHeartbeats 4000000 in
set_option maxRecDepth 100000 in
theorem word_any (k : ByteArray) (v : Value) (l : List ByteArray) (w : World) (hv : TxRow w v l) (hl : l.length ≤ 1000) :
    Calls Tryz.prog 80 #[v, .string k] w (NewT (wordK k false l) w) := by
  obtain ⟨vo, vc, rfl, -, -⟩ := Lst.form hv
  obtain ⟨i0, hi, hz0, hz1, hz2⟩ := info_parts_T
  have HI := Lib.hid (And.intro hi (And.intro hz0 (And.intro hz1 hz2)))
  clear hi hz0 hz1 hz2
  obtain ⟨n, hn⟩ : ∃ n, n = l.length := ⟨_, rfl⟩
  rw [← hn] at hv hl ⊢
  have HV := Lib.hid hv
  have HN := Lib.hid hn
  obtain ⟨Q, hQ⟩ : ∃ Q, Q = wordK k false l := ⟨_, rfl⟩
  rw [← hQ]
  have HQ := Lib.hid hQ
  have hQl := wordK_len k l false
  clear hv hn hQ hQl
  go_enter Tryz.func80, Tryz.ntmps80
  go_wp2_with fail
  go_loopw [5, 6, 7] (fun ov qv iv wr => ∃ (i on : Nat) (q : Bool) (out : List ByteArray), i ≤ n ∧ iv = .int .i64 i ∧ qv = .bool q ∧ on ≤ 2 * i ∧ Hid (on = out.length) ∧ Hid (out ++ wordK k q (l.drop i) = Q) ∧ Hid (wr.ownsRow w.heap.size 9 1 ov on (out.flatMap enTx)) ∧ Below w.heap.size w wr) (fun _ _ iv _ => n - (intOf iv).toNat)
  case atStart => exact ⟨0, 0, false, [], by omega, rfl, rfl, by omega, Lib.hid rfl, Lib.hid (by rw [HQ.out]; rfl), Lib.hid (World.ownsRow_nil _ _ _ _), Below.refl _ _⟩
  case round =>
    obtain ⟨i, on, q, out, hi, rfl, rfl, hon, hol, hq, hown, hbl⟩ := hrel
    have hsz := hbl.size
    by_cases hlt : i < n
    · have hil : i < l.length := by have := HN.out; omega
      obtain ⟨x, hx⟩ : ∃ x, l[i]? = some x := ⟨_, List.getElem?_eq_getElem hil⟩
      have HTX : Hid (TxRow wr (.slice vo n vc) l) := Lib.hid (Lst.below HV.out hbl)
      obtain ⟨g, off, rfl, hgw, c0⟩ := str_at HTX.out hx
      have hgw0 : wr.cell? ⟨g, off + i, none⟩ = some (.string x) := c0
      have HST := Lib.hid (show out ++ wordK k q (x :: l.drop (i + 1)) = Q from by
        have h := hq.out
        rw [List.drop_eq_getElem_cons hil, (List.getElem?_eq_some_iff.1 hx).2] at h
        exact h)
      have hsrc := fun W (hW : Below wr.heap.size wr W) => (World.cell?_of_block (a := ⟨g, off + i, none⟩) (hW.block g hgw)).trans c0
      have HSRC := Lib.hid hsrc
      have j0 : (0 : Int) ≤ (i : Int) := by omega
      have j1 : (i : Int) < (n : Int) := by omega
      have HXL := Lib.hid hx
      clear hx hil hq hgw0 hsrc
      cases hD : (Op.bytesLess k.toList x.toList || k.toList == x.toList) <;> cases hE : (x.toList == k.toList) <;> cases q
      · have HS2 := Lib.hid (show out ++ ([] ++ [x] ++ wordK k false (l.drop (i + 1))) = Q from by
          have h := HST.out
          rw [wordK_step k x _ _ _ _ hD hE] at h
          exact h)
        have HOW := hown
        go_wp2_with (at_builtin; refine wpList_append_own_loc rfl _ _ 84 rfl w.heap.size 9 i0 (.string ByteArray.empty) [.string ByteArray.empty] 16 Tryz.underlying84 HI.out.1 HI.out.2.1 rfl HI.out.2.2.1 HI.out.2.2.2 (by decide) _ (on) _ rfl (HOW.out.alloc _) ⟨_, 0, none⟩ 1 1 [.string x] rfl (by decide) rfl (news_one (new_cell _ _ _)) (by intro u hu; simp at hu; subst hu; rfl) (by unfold maxLen; omega) (by omega) (by simp; omega) ?_)
        intro v1 w1 g1 g2 g3
        have HO1 := Lib.hid (show w1.ownsRow w.heap.size 9 1 v1 (on + 1) ((out ++ [x]).flatMap enTx) from by first | (rw [List.flatMap_append]; exact g1) | (simp only [List.flatMap_append, List.flatMap_singleton, List.append_assoc, enTx, List.cons_append, List.nil_append]; exact g1) | simpa using g1)
        have HB1 := Lib.hid (show Below w.heap.size w w1 from (hbl.alloc hsz _).grown g2 (by simp; omega) (fun j hj => (HOW.out.lt j hj).1))
        clear g1 g2 g3
        go_wp2_with fail
        go_roundw
        case rel => exact ⟨i + 1, on + 1, false, out ++ [x], by omega, by go_num, rfl, by omega, Lib.hid (by simp [hol.out]), Lib.hid (by rw [← HS2.out]; simp), HO1, HB1.out⟩
        case measure => simp [intOf]; omega
      · have HS2 := Lib.hid (show out ++ ([] ++ [x] ++ wordK k true (l.drop (i + 1))) = Q from by
          have h := HST.out
          rw [wordK_step k x _ _ _ _ hD hE] at h
          exact h)
        have HOW := hown
        go_wp2_with (at_builtin; refine wpList_append_own_loc rfl _ _ 84 rfl w.heap.size 9 i0 (.string ByteArray.empty) [.string ByteArray.empty] 16 Tryz.underlying84 HI.out.1 HI.out.2.1 rfl HI.out.2.2.1 HI.out.2.2.2 (by decide) _ (on) _ rfl (HOW.out.alloc _) ⟨_, 0, none⟩ 1 1 [.string x] rfl (by decide) rfl (news_one (new_cell _ _ _)) (by intro u hu; simp at hu; subst hu; rfl) (by unfold maxLen; omega) (by omega) (by simp; omega) ?_)
        intro v1 w1 g1 g2 g3
        have HO1 := Lib.hid (show w1.ownsRow w.heap.size 9 1 v1 (on + 1) ((out ++ [x]).flatMap enTx) from by first | (rw [List.flatMap_append]; exact g1) | (simp only [List.flatMap_append, List.flatMap_singleton, List.append_assoc, enTx, List.cons_append, List.nil_append]; exact g1) | simpa using g1)
        have HB1 := Lib.hid (show Below w.heap.size w w1 from (hbl.alloc hsz _).grown g2 (by simp; omega) (fun j hj => (HOW.out.lt j hj).1))
        clear g1 g2 g3
        go_wp2_with fail
        go_roundw
        case rel => exact ⟨i + 1, on + 1, true, out ++ [x], by omega, by go_num, rfl, by omega, Lib.hid (by simp [hol.out]), Lib.hid (by rw [← HS2.out]; simp), HO1, HB1.out⟩
        case measure => simp [intOf]; omega
      · have HS2 := Lib.hid (show out ++ ([] ++ [] ++ wordK k false (l.drop (i + 1))) = Q from by
          have h := HST.out
          rw [wordK_step k x _ _ _ _ hD hE] at h
          exact h)
        have HOW := hown
        go_wp2_with fail
        go_roundw
        case rel => exact ⟨i + 1, on, false, out, by omega, by go_num, rfl, by omega, Lib.hid (by simp [hol.out]), Lib.hid (by rw [← HS2.out]; simp), HOW, hbl⟩
        case measure => simp [intOf]; omega
      · have HS2 := Lib.hid (show out ++ ([] ++ [] ++ wordK k true (l.drop (i + 1))) = Q from by
          have h := HST.out
          rw [wordK_step k x _ _ _ _ hD hE] at h
          exact h)
        have HOW := hown
        go_wp2_with fail
        go_roundw
        case rel => exact ⟨i + 1, on, true, out, by omega, by go_num, rfl, by omega, Lib.hid (by simp [hol.out]), Lib.hid (by rw [← HS2.out]; simp), HOW, hbl⟩
        case measure => simp [intOf]; omega
      · have HS2 := Lib.hid (show out ++ ([k] ++ [x] ++ wordK k true (l.drop (i + 1))) = Q from by
          have h := HST.out
          rw [wordK_step k x _ _ _ _ hD hE] at h
          exact h)
        have HOW := hown
        go_wp2_with (at_builtin; refine wpList_append_own_loc rfl _ _ 84 rfl w.heap.size 9 i0 (.string ByteArray.empty) [.string ByteArray.empty] 16 Tryz.underlying84 HI.out.1 HI.out.2.1 rfl HI.out.2.2.1 HI.out.2.2.2 (by decide) _ (on) _ rfl (HOW.out.alloc _) ⟨_, 0, none⟩ 1 1 [.string k] rfl (by decide) rfl (news_one (new_cell _ _ _)) (by intro u hu; simp at hu; subst hu; rfl) (by unfold maxLen; omega) (by omega) (by simp; omega) ?_)
        intro v1 w1 g1 g2 g3
        have HO1 := Lib.hid (show w1.ownsRow w.heap.size 9 1 v1 (on + 1) ((out ++ [k]).flatMap enTx) from by first | (rw [List.flatMap_append]; exact g1) | (simp only [List.flatMap_append, List.flatMap_singleton, List.append_assoc, enTx, List.cons_append, List.nil_append]; exact g1) | simpa using g1)
        have HB1 := Lib.hid (show Below w.heap.size w w1 from (hbl.alloc hsz _).grown g2 (by simp; omega) (fun j hj => (HOW.out.lt j hj).1))
        have c0 : w1.cell? ⟨g, off + i, none⟩ = some (.string x) := by
          have h9 : TxRow w1 (.slice (some ⟨g, off, none⟩) n vc) l := Lst.below HV.out HB1.out
          obtain ⟨g9, off9, e9, -, h8⟩ := str_at h9 (x := x) (k := i) HXL.out
          cases e9
          exact h8
        have hs1 := HB1.out.size
        clear g1 g2 g3
        go_wp2_with (at_builtin; refine wpList_append_own_loc rfl _ _ 84 rfl w.heap.size 9 i0 (.string ByteArray.empty) [.string ByteArray.empty] 16 Tryz.underlying84 HI.out.1 HI.out.2.1 rfl HI.out.2.2.1 HI.out.2.2.2 (by decide) _ (on + 1) _ rfl (HO1.out.alloc _) ⟨_, 0, none⟩ 1 1 [.string x] rfl (by decide) rfl (news_one (new_cell _ _ _)) (by intro u hu; simp at hu; subst hu; rfl) (by unfold maxLen; omega) (by omega) (by simp; omega) ?_)
        intro v2 w2 g1 g2 g3
        have HO2 := Lib.hid (show w2.ownsRow w.heap.size 9 1 v2 (on + 1 + 1) ((out ++ [k] ++ [x]).flatMap enTx) from by first | (rw [List.flatMap_append]; exact g1) | (simp only [List.flatMap_append, List.flatMap_singleton, List.append_assoc, enTx, List.cons_append, List.nil_append]; exact g1) | simpa using g1)
        have HB2 := Lib.hid (show Below w.heap.size w w2 from (HB1.out.alloc HB1.out.size _).grown g2 (by simp; omega) (fun j hj => (HO1.out.lt j hj).1))
        clear g1 g2 g3
        go_wp2_with fail
        go_roundw
        case rel => exact ⟨i + 1, on + 1 + 1, true, out ++ [k] ++ [x], by omega, by go_num, rfl, by omega, Lib.hid (by simp [hol.out]), Lib.hid (by rw [← HS2.out]; simp), HO2, HB2.out⟩
        case measure => simp [intOf]; omega
      · have HS2 := Lib.hid (show out ++ ([] ++ [x] ++ wordK k true (l.drop (i + 1))) = Q from by
          have h := HST.out
          rw [wordK_step k x _ _ _ _ hD hE] at h
          exact h)
        have HOW := hown
        go_wp2_with (at_builtin; refine wpList_append_own_loc rfl _ _ 84 rfl w.heap.size 9 i0 (.string ByteArray.empty) [.string ByteArray.empty] 16 Tryz.underlying84 HI.out.1 HI.out.2.1 rfl HI.out.2.2.1 HI.out.2.2.2 (by decide) _ (on) _ rfl (HOW.out.alloc _) ⟨_, 0, none⟩ 1 1 [.string x] rfl (by decide) rfl (news_one (new_cell _ _ _)) (by intro u hu; simp at hu; subst hu; rfl) (by unfold maxLen; omega) (by omega) (by simp; omega) ?_)
        intro v1 w1 g1 g2 g3
        have HO1 := Lib.hid (show w1.ownsRow w.heap.size 9 1 v1 (on + 1) ((out ++ [x]).flatMap enTx) from by first | (rw [List.flatMap_append]; exact g1) | (simp only [List.flatMap_append, List.flatMap_singleton, List.append_assoc, enTx, List.cons_append, List.nil_append]; exact g1) | simpa using g1)
        have HB1 := Lib.hid (show Below w.heap.size w w1 from (hbl.alloc hsz _).grown g2 (by simp; omega) (fun j hj => (HOW.out.lt j hj).1))
        clear g1 g2 g3
        go_wp2_with fail
        go_roundw
        case rel => exact ⟨i + 1, on + 1, true, out ++ [x], by omega, by go_num, rfl, by omega, Lib.hid (by simp [hol.out]), Lib.hid (by rw [← HS2.out]; simp), HO1, HB1.out⟩
        case measure => simp [intOf]; omega
      · have HS2 := Lib.hid (show out ++ ([k] ++ [] ++ wordK k true (l.drop (i + 1))) = Q from by
          have h := HST.out
          rw [wordK_step k x _ _ _ _ hD hE] at h
          exact h)
        have HOW := hown
        go_wp2_with (at_builtin; refine wpList_append_own_loc rfl _ _ 84 rfl w.heap.size 9 i0 (.string ByteArray.empty) [.string ByteArray.empty] 16 Tryz.underlying84 HI.out.1 HI.out.2.1 rfl HI.out.2.2.1 HI.out.2.2.2 (by decide) _ (on) _ rfl (HOW.out.alloc _) ⟨_, 0, none⟩ 1 1 [.string k] rfl (by decide) rfl (news_one (new_cell _ _ _)) (by intro u hu; simp at hu; subst hu; rfl) (by unfold maxLen; omega) (by omega) (by simp; omega) ?_)
        intro v1 w1 g1 g2 g3
        have HO1 := Lib.hid (show w1.ownsRow w.heap.size 9 1 v1 (on + 1) ((out ++ [k]).flatMap enTx) from by first | (rw [List.flatMap_append]; exact g1) | (simp only [List.flatMap_append, List.flatMap_singleton, List.append_assoc, enTx, List.cons_append, List.nil_append]; exact g1) | simpa using g1)
        have HB1 := Lib.hid (show Below w.heap.size w w1 from (hbl.alloc hsz _).grown g2 (by simp; omega) (fun j hj => (HOW.out.lt j hj).1))
        have c0 : w1.cell? ⟨g, off + i, none⟩ = some (.string x) := by
          have h9 : TxRow w1 (.slice (some ⟨g, off, none⟩) n vc) l := Lst.below HV.out HB1.out
          obtain ⟨g9, off9, e9, -, h8⟩ := str_at h9 (x := x) (k := i) HXL.out
          cases e9
          exact h8
        have hs1 := HB1.out.size
        clear g1 g2 g3
        go_wp2_with fail
        go_roundw
        case rel => exact ⟨i + 1, on + 1, true, out ++ [k], by omega, by go_num, rfl, by omega, Lib.hid (by simp [hol.out]), Lib.hid (by rw [← HS2.out]; simp), HO1, HB1.out⟩
        case measure => simp [intOf]; omega
      · have HS2 := Lib.hid (show out ++ ([] ++ [] ++ wordK k true (l.drop (i + 1))) = Q from by
          have h := HST.out
          rw [wordK_step k x _ _ _ _ hD hE] at h
          exact h)
        have HOW := hown
        go_wp2_with fail
        go_roundw
        case rel => exact ⟨i + 1, on, true, out, by omega, by go_num, rfl, by omega, Lib.hid (by simp [hol.out]), Lib.hid (by rw [← HS2.out]; simp), HOW, hbl⟩
        case measure => simp [intOf]; omega
    · obtain rfl : i = n := by omega
      have HQ2 := Lib.hid (show out ++ wordK k q [] = Q from by have h := hq.out; rw [List.drop_of_length_le (by rw [HN.out]; exact Nat.le_refl _)] at h; exact h)
      clear hq
      cases q
      · go_wp2_with (at_builtin; refine wpList_append_own_loc rfl _ _ 84 rfl w.heap.size 9 i0 (.string ByteArray.empty) [.string ByteArray.empty] 16 Tryz.underlying84 HI.out.1 HI.out.2.1 rfl HI.out.2.2.1 HI.out.2.2.2 (by decide) _ (on) _ rfl (hown.out.alloc _) ⟨_, 0, none⟩ 1 1 [.string k] rfl (by decide) rfl (news_one (new_cell _ _ _)) (by intro u hu; simp at hu; subst hu; rfl) (by unfold maxLen; omega) (by omega) (by simp; omega) ?_)
        intro v1 w1 g1 g2 g3
        have G1 := Lib.hid (show OwnT w1 w.heap.size v1 Q from by
          have e : Q = out ++ [k] := HQ2.out.symm
          unfold OwnT; rw [e, List.length_append, ← hol.out, List.flatMap_append]; exact g1)
        have G2 := Lib.hid (show Below w.heap.size w w1 from (hbl.alloc hsz _).grown g2 (by simp; omega) (fun j hj => (hown.out.lt j hj).1))
        clear g1 g2 g3
        go_wp2_with fail
        go_ret
        exact ⟨_, rfl, G1.out, G2.out⟩
      · go_wp2_with fail
        go_ret
        exact ⟨_, rfl, by
          have e : Q = out := by have h := HQ2.out; rw [← h]; simp [wordK]
          unfold OwnT; rw [e, ← hol.out]; exact hown.out, hbl⟩

set_option maxHeartbeats 2000000 in
set_option maxRecDepth 100000 in
theorem in24_any (x : Int) (v : Value) (l : List Int) (w : World) (hv : IRow w v l) (hl : l.length ≤ 1000) :
    Calls Tryz.prog 79 #[v, .int .i64 x] w fun e w' => e = .returned (.bool (l.any fun y => y == x)) ∧ w = w' := by
  obtain ⟨vo, vc, rfl, -, -⟩ := Lst.form hv
  obtain ⟨n, hn⟩ : ∃ n, n = l.length := ⟨_, rfl⟩
  rw [← hn] at hv hl ⊢
  have HV := Lib.hid hv
  have HN := Lib.hid hn
  obtain ⟨Q, hQ⟩ : ∃ Q, Q = l.any fun y => y == x := ⟨_, rfl⟩
  rw [← hQ]
  have HQ := Lib.hid hQ
  clear hv hn hQ
  go_enter Tryz.func79, Tryz.ntmps79
  go_wp2_with fail
  go_loopw [5] (fun iv wr => ∃ i : Nat, i ≤ n ∧ iv = .int .i64 i ∧ wr = w ∧ Hid (((l.drop i).any fun y => y == x) = Q)) (fun iv _ => n - (intOf iv).toNat)
  case atStart => exact ⟨0, by omega, rfl, rfl, Lib.hid (by rw [HQ.out]; rfl)⟩
  case round =>
    obtain ⟨i, hi, rfl, rfl, hq⟩ := hrel
    obtain ⟨w, hww⟩ : ∃ W : World, W = wr := ⟨_, rfl⟩
    subst hww
    by_cases hlt : i < n
    · have hil : i < l.length := by have := HN.out; omega
      obtain ⟨b, off, ha, hb, hc⟩ := Lst.get HV.out hil
      subst ha
      have c0 := hc 0 (by decide)
      rw [Nat.mul_one] at c0
      have hst := hq.out
      rw [List.drop_eq_getElem_cons hil, List.any_cons] at hst
      obtain ⟨y, hy⟩ : ∃ y, y = l[i] := ⟨_, rfl⟩
      rw [← hy] at c0 hst
      have c1 : w.cell? ⟨b, off + i, none⟩ = some (.int .i64 y) := c0
      have HST := Lib.hid hst
      have j0 : (0 : Int) ≤ (i : Int) := by omega
      have j1 : (i : Int) < (n : Int) := by omega
      clear hy hst hc c0 hq hil
      cases hqq : (y == x)
      · have HS2 := Lib.hid (show ((l.drop (i + 1)).any fun y => y == x) = Q from by have h := HST.out; rw [hqq, Bool.false_or] at h; exact h)
        go_wp2_with fail
        go_roundw
        case rel => exact ⟨i + 1, by omega, by go_num, by first | rfl | trivial, HS2⟩
        case measure => simp [intOf]; omega
      · have HS2 := Lib.hid (show Q = true from by have h := HST.out; rw [hqq, Bool.true_or] at h; exact h.symm)
        go_wp2_with fail
        go_ret
        exact ⟨by rw [HS2.out]; rfl, rfl⟩
    · obtain rfl : i = n := by omega
      have HS2 := Lib.hid (show Q = false from by have h := hq.out; rw [List.drop_of_length_le (by rw [HN.out]; exact Nat.le_refl _)] at h; exact h.symm)
      go_wp2_with fail
      go_ret
      exact ⟨by rw [HS2.out]; rfl, rfl⟩
end Go.Proofs.YtkdgbkhnnehedaaGreatDoor.Mrk
