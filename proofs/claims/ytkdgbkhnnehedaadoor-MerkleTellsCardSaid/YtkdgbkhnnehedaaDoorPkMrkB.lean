/- The bytes of a mutation that may be, by the program and by the document; the tree of a content as a function (layer 24, plain). · Where trees differ contents do (layer 24): the plain law. · What a content has in a leaf (the law MerkleTells' part; layer 24). PRINTED by wip/genmrkpart.py. · merkle.Of: the tree of any content (layer 24). PRINTED by wip/genmrkof.py. · The walk of the law's alive (layer 24). · Arrays whose elements are all the same: '==' gives true (any program). · An append of any number of elements, none too, to a row with spare zero cells (of any program); an empty literal as such a row. · The walk of the law MerkleTells (layer 24). PRINTED by wip/genmrktells.py. -/
import Derived.Test.YtkdgbkhnnehedaaDoorRefBytes
import Derived.Test.YtkdgbkhnnehedaaDoorPkMrkA
import Derived.Test.YtkdgbkhnnehedaaDoorConKnown
import Derived.Test.YtkdgbkhnnehedaaDoorRegLin
import Derived.Laws.StructEq
import Derived.Laws.Entries
import Derived.Test.YtkdgbkhnnehedaaDoorSpare
import Derived.Test.YtkdgbkhnnehedaaDoorSlRow
import Derived.Test.YtkdgbkhnnehedaaDoorMutSort
set_option linter.unusedSimpArgs false
set_option linter.unusedVariables false
namespace Go.Proofs.YtkdgbkhnnehedaaDoor.Mrk
open Go.RowKit Go.Proofs.YtkdgbkhnnehedaaDoor.Spare Go.Proofs.YtkdgbkhnnehedaaDoor.RegInv Go.Proofs.YtkdgbkhnnehedaaDoor.Mut
set_option linter.unusedSectionVars false
variable [Inhabited Lim]

/-- The bytes of a mutation. -/
def bytesM (m : Mu) : List Nat := textF m.key ++ restL m.table.toNat m.kind.toNat m.expiry.toNat m.at_.p.toNat m.at_.l.toNat m.at_.w.toNat m.fin m.val m.over
/-- A mutation whose numbers are bytes, and not too long. -/
structure NumM (m : Mu) : Prop where
  t : 0 ≤ m.table ∧ m.table < 9223372036854775808
  k : 0 ≤ m.kind ∧ m.kind < 9223372036854775808
  e : 0 ≤ m.expiry ∧ m.expiry < 9223372036854775808
  at_ : NumS m.at_
  key : m.key.size ≤ 1000
  fin : m.fin.size ≤ 1000
  val : m.val.size ≤ 1000
  len : m.over.length ≤ 1000
  over : ∀ s ∈ m.over, NumS s
theorem num_st {s : Stp} (h : stR s = true) : NumS s := by
  unfold stR at h
  simp only [Bool.and_eq_true, decide_eq_true_eq] at h
  obtain ⟨⟨⟨⟨⟨⟨h1, h2⟩, h3⟩, h4⟩, h5⟩, h6⟩, -⟩ := h
  exact ⟨h1, h2, h3, by omega, by omega, by omega⟩
theorem num_over (t : Stp) : ∀ (l : List Stp) (p : Option Stp), overFrom t p l = true → ∀ s ∈ l, NumS s
  | [], _, _ => fun s hs => by simp at hs
  | x :: l, p, h => fun s hs => by
    unfold overFrom at h
    simp only [Bool.and_eq_true] at h
    rcases List.mem_cons.1 hs with rfl | hs
    · exact num_st h.1
    · exact num_over t l (some x) h.2.2.2 s hs
theorem num_right {m : Mu} (h : rightF m = true) : NumM m := by
  unfold rightF rightG at h
  simp only [Bool.and_eq_true, Bool.not_eq_true', Bool.or_eq_false_iff, Bool.and_eq_false_iff, decide_eq_true_eq, decide_eq_false_iff_not, Bool.not_eq_false'] at h
  obtain ⟨h1, h2, h3, ⟨e1, e2, -⟩, h4, h5, h6⟩ := h
  have k1 := keyF_size h2
  have k2 := valF_size h4.2
  unfold overF at h3
  simp only [Bool.and_eq_true, decide_eq_true_eq] at h3
  have k4 : m.fin.size ≤ 24 := by
    by_cases hk : m.kind = 3
    · rcases h5.2 with h | h
      · exact absurd hk h
      · exact keyF_size h.1
    · rcases h5.1 with h | h
      · exact absurd h hk
      · have := empty_size h; omega
  have k5 : (m.table = 1 ∨ m.table = 2) ∧ 1 ≤ m.kind ∧ m.kind ≤ 3 := by
    by_cases t1 : m.table = 1
    · rw [if_pos t1] at h6
      simp only [Bool.and_eq_true, decide_eq_true_eq] at h6
      exact ⟨Or.inl t1, h6.2.1, h6.2.2⟩
    · rw [if_neg t1] at h6
      by_cases t2 : m.table = 2
      · rw [if_pos t2] at h6
        simp only [Bool.or_eq_true, decide_eq_true_eq] at h6
        exact ⟨Or.inr t2, by omega, by omega⟩
      · rw [if_neg t2] at h6; cases h6
  exact ⟨by omega, by omega, by omega, num_st h1, by omega, by omega, by omega, by omega, num_over _ _ _ h3.1⟩
theorem putF_byte (n : Nat) : ∀ c ∈ putF n, c < 256 := putF_lt n
theorem strL_byte (s : ByteArray) : ∀ c ∈ strL s, c < 256 := by
  intro c hc
  unfold strL at hc
  obtain ⟨b, _, rfl⟩ := List.mem_map.1 hc
  exact b.toNat_lt
theorem bytesM_byte (m : Mu) : ∀ c ∈ bytesM m, c < 256 := by
  intro c hc
  unfold bytesM restL textF at hc
  simp only [List.mem_append, List.mem_flatMap] at hc
  rcases hc with (h | h) | h | h | (h | h) | (h | h) | h | h | h | h | h | ⟨s, _, h⟩
  all_goals first
    | exact putF_lt _ c h
    | exact strL_byte _ c h
    | (unfold stF at h
       simp only [List.mem_append] at h
       rcases h with h | h | h <;> exact putF_lt _ c h)
theorem bytesM_len {m : Mu} (h : NumM m) : (bytesM m).length ≤ 100000 := by
  obtain ⟨⟨t0, t1⟩, ⟨k0, k1⟩, ⟨e0, e1⟩, ⟨p0, l0, w0, p1, l1, w1⟩, s1, s2, s3, s4, s5⟩ := h
  have y0 := textF_len m.key (by omega)
  have y1 := putF_ten (n := m.table.toNat) (by omega)
  have y2 := putF_ten (n := m.kind.toNat) (by omega)
  have y3 := textF_len m.fin (by omega)
  have y4 := textF_len m.val (by omega)
  have y5 := putF_ten (n := m.expiry.toNat) (by omega)
  have y6 := putF_ten (n := m.at_.p.toNat) (by omega)
  have y7 := putF_ten (n := m.at_.l.toNat) (by omega)
  have y8 := putF_ten (n := m.at_.w.toNat) (by omega)
  have y9 := putF_ten (n := m.over.length) (by omega)
  have z1 := flat_len s5
  unfold bytesM restL
  simp only [List.length_append]
  omega
/-- These bytes come back in a row. -/
def BytesPost (w : World) (l : List Nat) (e : Ending) (w' : World) : Prop := ∃ v, e = .returned v ∧ BRow w' v l ∧ Below w.heap.size w w'
theorem mutbytes_any (x : Ro) (w : World) (hx : Over w x) (hn : NumM x.1) : Calls Tryd.prog 41 #[.slice none 0 0, vM x] w (BytesPost w (bytesM x.1)) := by
  obtain ⟨⟨tb, kd, key, fin, val, ex, ⟨p, l, h⟩, over⟩, ov⟩ := x
  obtain ⟨⟨t0, t1⟩, ⟨k0, k1⟩, ⟨e0, e1⟩, ⟨p0, l0, w0, p1, l1, w1⟩, s1, s2, s3, s4, s5⟩ := hn
  simp only [] at t0 t1 k0 k1 e0 e1 p0 l0 w0 p1 l1 w1 s1 s2 s3 s4 s5
  obtain ⟨tb, rfl⟩ := Int.eq_ofNat_of_zero_le t0
  obtain ⟨kd, rfl⟩ := Int.eq_ofNat_of_zero_le k0
  obtain ⟨ex, rfl⟩ := Int.eq_ofNat_of_zero_le e0
  obtain ⟨p, rfl⟩ := Int.eq_ofNat_of_zero_le p0
  obtain ⟨l, rfl⟩ := Int.eq_ofNat_of_zero_le l0
  obtain ⟨h, rfl⟩ := Int.eq_ofNat_of_zero_le w0
  refine (mutput_onto tb kd ex p l h key fin val over ov w (.slice none 0 0) [] w (by omega) (by omega) (by omega) (by omega) (by omega) (by omega) s1 s2 s3 s4 s5 hx.lst (Below.refl _ _) (World.ownsRow_nil _ _ _ _) (by simp)).mono ?_
  rintro e w' ⟨v', rfl, g1, g2, -⟩
  exact ⟨v', rfl, row_of g1, ⟨g2.os, g2.tape, g2.output, g2.size, fun i hi => g2.block i hi (by simp [Value.ownBlock])⟩⟩
/-! ## The tree of mutations -/
/-- The leaves behind one mutation more. -/
def leafS (t : Nat → Nat) (m : Mu) : Nat → Nat := upd t (16 + bucketF m.key) (sumF (t (16 + bucketF m.key)) (bytesM m))
def leafT (l : List Mu) : Nat → Nat := l.foldl leafS (leaves 16)
/-- The nodes from i down to 1. -/
def nodesT : Nat → (Nat → Nat) → Nat → Nat
  | 0, t => t
  | i + 1, t => nodesT i (upd t (i + 1) (nodeF (t (2 * (i + 1))) (t (2 * (i + 1) + 1))))
def treeF (l : List Mu) : Nat → Nat := nodesT 15 (leafT l)
theorem upd_wide {a : Nat → Nat} (h : Wide a) (i x : Nat) (hx : x < 18446744073709551616) : Wide (upd a i x) := by
  intro j hj
  unfold upd
  split
  · exact hx
  · exact h j hj
theorem leaves_wide : Wide (leaves 16) := by
  intro j hj
  unfold leaves
  split
  · exact lev_lt 0
  · decide
theorem leafS_wide {t : Nat → Nat} (h : Wide t) (m : Mu) : Wide (leafS t m) := upd_wide h _ _ (sumF_lt (h _ (by have := bucketF_lt m.key; omega)) _)
theorem foldS_wide (l : List Mu) : ∀ {t : Nat → Nat}, Wide t → Wide (l.foldl leafS t) := by
  induction l with
  | nil => intro t h; exact h
  | cons m l ih => intro t h; exact ih (leafS_wide h m)
theorem leafT_wide (l : List Mu) : Wide (leafT l) := foldS_wide l leaves_wide
theorem leafT_snoc (l : List Mu) (m : Mu) : leafT (l ++ [m]) = leafS (leafT l) m := by unfold leafT; rw [List.foldl_append]; rfl
theorem nodesT_wide : ∀ (i : Nat) (t : Nat → Nat), Wide t → Wide (nodesT i t)
  | 0, t, h => h
  | i + 1, t, h => nodesT_wide i _ (upd_wide h _ _ (nodeF_lt _ _))
theorem treeF_wide (l : List Mu) : Wide (treeF l) := nodesT_wide 15 _ (leafT_wide l)
theorem nodesT_above : ∀ (i : Nat) (t : Nat → Nat) (j : Nat), i < j → nodesT i t j = t j
  | 0, t, j, _ => rfl
  | i + 1, t, j, h => by
    unfold nodesT
    rw [nodesT_above i _ j (by omega)]
    unfold upd
    rw [if_neg (by omega)]
theorem nodesT_ok : ∀ (i : Nat) (t : Nat → Nat) (j : Nat), 1 ≤ j → j ≤ i → okAt (nodesT i t) j
  | 0, t, j, h1, h2 => by omega
  | i + 1, t, j, h1, h2 => by
    by_cases h : j ≤ i
    · unfold nodesT
      exact nodesT_ok i _ j h1 h
    · obtain rfl : j = i + 1 := by omega
      unfold okAt
      rw [nodesT_above (i + 1) t (2 * (i + 1)) (by omega), nodesT_above (i + 1) t (2 * (i + 1) + 1) (by omega)]
      unfold nodesT
      rw [nodesT_above i _ (i + 1) (by omega)]
      unfold upd
      rw [if_pos rfl]
theorem treeF_sound (l : List Mu) : soundF (treeF l) = true := soundF_iff.2 fun i h1 h2 => nodesT_ok 15 _ i h2 (by omega)
/-- The nodes that are still to come. -/
theorem nodes_step {T : Nat → Nat} {t : Nat → Nat} {i : Nat} (h : nodesT (i + 1) t = T) : nodesT i (upd t (i + 1) (nodeF (t (2 * (i + 1))) (t (2 * (i + 1) + 1)))) = T := h
end Go.Proofs.YtkdgbkhnnehedaaDoor.Mrk

namespace Go.Proofs.YtkdgbkhnnehedaaDoor.Mrk
open Go.RowKit Go.Proofs.YtkdgbkhnnehedaaDoor.Mut
set_option linter.unusedSectionVars false
variable [Inhabited Lim]

/-- A leaf is the sum of its own mutations. -/
theorem leaf_own (i : Nat) (hi : i < 16) : ∀ (l : List Mu) (t : Nat → Nat), l.foldl leafS t (16 + i) = (l.filter fun m => decide (bucketF m.key = i)).foldl (fun x m => sumF x (bytesM m)) (t (16 + i))
  | [], t => rfl
  | m :: l, t => by
    rw [List.foldl_cons, leaf_own i hi l, List.filter_cons]
    unfold leafS upd
    by_cases h : bucketF m.key = i
    · rw [if_pos (by omega), if_pos (by simpa using h), List.foldl_cons, h]
    · rw [if_neg (by omega), if_neg (by simpa using h)]
theorem leaf_tree (i : Nat) (hi : i < 16) (l : List Mu) : treeF l (16 + i) = (l.filter fun m => decide (bucketF m.key = i)).foldl (fun x m => sumF x (bytesM m)) (lev 0) := by
  unfold treeF
  rw [nodesT_above 15 _ _ (by omega)]
  unfold leafT
  rw [leaf_own i hi]
  unfold leaves
  rw [if_pos (by omega)]
theorem allF_filter {c : Con} {n : Nat} (h : Mut.Good c n) (p : Mu → Bool) : allF (c.filter p) = (allF c).filter p :=
  ((h.filter p).all_eq (AllOf.of_perm (h.filter p).reps (by rw [filter_all]; exact (List.mergeSort_perm _ _).filter p) ((sorted_all c.all).filter p))).symm
/-- Where the leaves aren't the same the contents aren't. -/
theorem parts_differ {c d : Con} {n k : Nat} (h : Mut.Good c n) (g : Mut.Good d k) (i : Nat) (hi : i < 16) (hne : treeF (allF c) (16 + i) ≠ treeF (allF d) (16 + i)) :
    c.filter (fun m => decide (bucketF m.key = i)) ≠ d.filter (fun m => decide (bucketF m.key = i)) := fun e => by
  refine hne ?_
  rw [leaf_tree i hi, leaf_tree i hi, ← allF_filter h, ← allF_filter g, e]
theorem outF_mem (D : Nat → Bool) : ∀ (n : Nat) (x : Int), x ∈ outF D n → ∃ i : Nat, x = i ∧ 16 + i < n ∧ D (16 + i) = false
  | 0, x, h => by simp [outF] at h
  | n + 1, x, h => by
    unfold outF at h
    rcases List.mem_append.1 h with h | h
    · obtain ⟨i, h1, h2, h3⟩ := outF_mem D n x h
      exact ⟨i, h1, by omega, h3⟩
    · split at h
      · rename_i hc
        simp only [Bool.and_eq_true, decide_eq_true_eq, Bool.not_eq_true'] at hc
        obtain rfl := List.mem_singleton.1 h
        exact ⟨n - 16, by omega, by omega, by rw [show 16 + (n - 16) = n by omega]; exact hc.1.2.2⟩
      · simp at h
theorem down_some (D : Nat → Bool) (hD : ∀ i, 1 ≤ i → i < 16 → D (2 * i) = true → D (2 * i + 1) = true → D i = true) : ∀ (f i : Nat), 1 ≤ i → (i + 1) * 2 ^ f ≤ 32 → D i = false → 1 ≤ (downF D f i).1.length
  | 0, i, _, _, h => by unfold downF; rw [h]; simp
  | f + 1, i, h1, h2, h => by
    have h4 : (i + 1) * (2 * 2 ^ f) ≤ 32 := by rw [Nat.pow_succ, Nat.mul_comm (2 ^ f) 2] at h2; exact h2
    have hp : 1 ≤ 2 ^ f := Nat.one_le_two_pow
    have h3 : (i + 1) * 2 * 2 ^ f ≤ 32 := by rw [Nat.mul_assoc]; exact h4
    have h5 : i + 1 ≤ 16 := by
      have : (i + 1) * 2 * 1 ≤ (i + 1) * 2 * 2 ^ f := Nat.mul_le_mul_left _ hp
      omega
    unfold downF
    rw [h]
    simp only [Bool.false_eq_true, if_false, List.length_append]
    by_cases a : D (2 * i) = true
    · by_cases b : D (2 * i + 1) = true
      · rw [hD i h1 (by omega) a b] at h; cases h
      · have := down_some D hD f (2 * i + 1) (by omega) (by rw [show 2 * i + 1 + 1 = (i + 1) * 2 by omega]; exact h3) (by simpa using b)
        omega
    · have := down_some D hD f (2 * i) (by omega) (Nat.le_trans (Nat.mul_le_mul_right _ (by omega)) h3) (by simpa using a)
      omega
/-- One looks at the nodes on the ways to the leaves that differ, and those beside them. -/
theorem down_few (D : Nat → Bool) (hD : ∀ i, 1 ≤ i → i < 16 → D (2 * i) = true → D (2 * i + 1) = true → D i = true) : ∀ (f i : Nat), 1 ≤ i → (i + 1) * 2 ^ f ≤ 32 → (downF D f i).2 ≤ 1 + 2 * f * (downF D f i).1.length
  | 0, i, _, _ => by unfold downF; split <;> simp
  | f + 1, i, h1, h2 => by
    have h4 : (i + 1) * (2 * 2 ^ f) ≤ 32 := by rw [Nat.pow_succ, Nat.mul_comm (2 ^ f) 2] at h2; exact h2
    have h3 : (i + 1) * 2 * 2 ^ f ≤ 32 := by rw [Nat.mul_assoc]; exact h4
    by_cases h : D i = true
    · unfold downF; rw [if_pos h]; simp
    · have hs := down_some D hD (f + 1) i h1 h2 (by simpa using h)
      unfold downF at hs ⊢
      rw [if_neg h] at hs ⊢
      simp only [List.length_append] at hs ⊢
      have a := down_few D hD f (2 * i) (by omega) (Nat.le_trans (Nat.mul_le_mul_right _ (by omega)) h3)
      have b := down_few D hD f (2 * i + 1) (by omega) (by rw [show 2 * i + 1 + 1 = (i + 1) * 2 by omega]; exact h3)
      generalize (downF D f (2 * i)).1.length = x at *
      generalize (downF D f (2 * i + 1)).1.length = y at *
      rw [show 2 * (f + 1) = 2 * f + 2 by omega, Nat.add_mul, Nat.mul_add]
      omega
theorem look_few {a b : Nat → Nat} (ha : ∀ i, i < 16 → 1 ≤ i → okAt a i) (hb : ∀ i, i < 16 → 1 ≤ i → okAt b i) : lookF (sameAt a b) 32 ≤ 1 + 8 * (outF (sameAt a b) 32).length := by
  have h := down_few (sameAt a b) (fun i h1 h2 x y => by
    unfold sameAt at *
    simp only [decide_eq_true_eq] at *
    have p := ha i h2 h1
    have q := hb i h2 h1
    unfold okAt at p q
    rw [p, q, x, y]) 4 1 (by omega) (by decide)
  rw [tree_same] at h
  exact h
end Go.Proofs.YtkdgbkhnnehedaaDoor.Mrk

namespace Go.Proofs.YtkdgbkhnnehedaaDoor.Mrk
open Go.RowKit Go.Proofs.YtkdgbkhnnehedaaDoor.Spare Go.Proofs.YtkdgbkhnnehedaaDoor.RegInv Go.Proofs.YtkdgbkhnnehedaaDoor.Mut
set_option linter.unusedSectionVars false
variable [Inhabited Lim]

theorem c3_set2 {w : World} {k : Nat} {a b d : Value} (h : C3 w k a b d) (u : Value) : C3 (w.setCell ⟨k, 2, none⟩ u) k a b u := by
  obtain ⟨h0, h1, h2, h3, h4, h5, h6⟩ := h
  exact ⟨by simpa using h0, by go_simp, by go_simp, by go_simp, by go_simp, by go_simp, by go_simp⟩
/-- A mutation in a row of its own, made for an append. -/
def sNewM (x : Ro) : RSpec := sOne (fun v W => ∃ g, v = .slice (some ⟨g, 0, none⟩) 1 1 ∧ g < W.heap.size ∧ ∀ j u, (enM x)[j]? = some u → W.cell? ⟨g, j, none⟩ = some u) (fun _ _ _ h hb => by
  obtain ⟨g, h1, h2, h3⟩ := h
  exact ⟨g, h1, Nat.lt_of_lt_of_le h2 hb.size, fun j u hu => (World.cell?_of_block (a := ⟨g, j, none⟩) (hb.block g h2)).trans (h3 j u hu)⟩)
theorem news_mut {w : World} {g : Nat} {x : Ro} (h : ∀ j u, (enM x)[j]? = some u → w.cell? ⟨g, j, none⟩ = some u) : ∀ (j : Nat) (u : Value), (enM x)[j]? = some u → w.cell? ((⟨g, 0, none⟩ : Addr).add j) = some u := by
  intro j u hu
  rw [addr_add, Nat.zero_add]
  exact h j u hu
theorem new_mut (W : World) (x : Ro) (xo : Option Addr) (xc : Nat) (hxe : x.2 = .slice xo x.1.over.length xc) : ∀ (j : Nat) (u : Value), (enM x)[j]? = some u → (W.alloc (.cells #[.int .i64 x.1.table, .int .i64 x.1.kind, .string x.1.key, .string x.1.fin, .string x.1.val, .int .i64 x.1.expiry, .int .i64 x.1.at_.p, .int .i64 x.1.at_.l, .int .i64 x.1.at_.w, .slice xo x.1.over.length xc] 43)).cell? ⟨W.heap.size, j, none⟩ = some u := by
  intro j u hu
  have e : enM x = [.int .i64 x.1.table, .int .i64 x.1.kind, .string x.1.key, .string x.1.fin, .string x.1.val, .int .i64 x.1.expiry, .int .i64 x.1.at_.p, .int .i64 x.1.at_.l, .int .i64 x.1.at_.w, .slice xo x.1.over.length xc] := by unfold enM; rw [hxe]
  rw [e] at hu
  have h := new_cells W _ 43 j u hu
  rw [addr_add, Nat.zero_add] at h
  exact h
theorem enM_one (x : Ro) {xo : Option Addr} {xc : Nat} (hxe : x.2 = .slice xo x.1.over.length xc) : ∀ u ∈ enM x, u.oneCell' = true := by
  intro u hu
  unfold enM at hu
  rw [hxe] at hu
  simp only [List.mem_cons, List.not_mem_nil, or_false] at hu
  rcases hu with rfl | rfl | rfl | rfl | rfl | rfl | rfl | rfl | rfl | rfl <;> rfl
theorem mat_grown {w w' : World} {b o : Nat} {x : Ro} {row : Option Nat} (h : At w b o x) (hg : w.grownBy w' row) (hne : some b ≠ row) : At w' b o x := by
  have e : ∀ k, w'.cell? ⟨b, k, none⟩ = w.cell? ⟨b, k, none⟩ := fun k => World.cell?_of_block (a := ⟨b, k, none⟩) (hg.block b h.lt hne)
  obtain ⟨h0, h1, h2, h3, h4, h5, h6, h7, h8, h9, h10⟩ := h
  exact ⟨Nat.lt_of_lt_of_le h0 hg.size, (e _).trans h1, (e _).trans h2, (e _).trans h3, (e _).trans h4, (e _).trans h5, (e _).trans h6, (e _).trans h7, (e _).trans h8, (e _).trans h9, (e _).trans h10⟩
theorem own_not {w : World} {base k : Nat} {e : TypeId} {size n : Nat} {v : Value} {xs : List Value} (h : w.ownsRow base e size v n xs) (hk : k < base) : v.ownBlock = none ∨ v.ownBlock ≠ some k := by
  cases hv : v.ownBlock with
  | none => exact Or.inl rfl
  | some g => exact Or.inr (fun e => by have := (h.lt g hv).1; have : g = k := by simpa using e
                                        omega)
def zMM : List Value := [.int .i64 0, .int .i64 0, .string ByteArray.empty, .string ByteArray.empty, .string ByteArray.empty, .int .i64 0, .int .i64 0, .int .i64 0, .int .i64 0, .slice none 0 0]
theorem grown_then {a b c : World} {k : Nat} {row : Option Nat} (h : a.grownBy b (some k)) (g : b.grownBy c row) (hr : ∀ j, row = some j → a.heap.size ≤ j) : a.grownBy c (some k) :=
  h.andThen g (fun j hj => Or.inl (hr j hj))
theorem grown_under {a b c : World} {row : Option Nat} (h : a.grownBy b row) (hb : Below b.heap.size b c) : a.grownBy c row := h.andThen (grown_below (row := none) hb) (fun j hj => by cases hj)

set_option maxHeartbeats 8000000 in
set_option maxRecDepth 100000 in
theorem part_any {c : Con} {n : Nat} {v : Value} {w : World} (i : Nat) (hv : IsC c v w) (h : Mut.Good c n) (hn : n ≤ 1000) (hi : i < 16) :
    Calls Tryd.prog 23 #[v, .int .i64 i] w (RetC (c.filter fun m => decide (bucketF m.key = i)) w) := by
  obtain ⟨o1, n1, k1, o2, n2, k2, o3, n3, k3, rfl, hlc⟩ := hv.form
  obtain ⟨R0, hR0, hM0⟩ := hlc.cells
  obtain ⟨R1, hR1, hM1⟩ := hlc.wipes
  obtain ⟨R2, hR2, hM2⟩ := hlc.sibs
  have e0 := hM0.row.len
  have e1 := hM1.row.len
  have e2 := hM2.row.len
  have hO := h.okc.len
  have hal : c.all.length = n1 + n2 + n3 := by rw [e0, e1, e2]; unfold Con.all; rw [← hR0, ← hR1, ← hR2]; simp; omega
  have HM0 := Lib.hid hM0
  have HM1 := Lib.hid hM1
  have HM2 := Lib.hid hM2
  have HNM := Lib.hid (show (∀ x ∈ R0, NumM x.1) ∧ (∀ x ∈ R1, NumM x.1) ∧ (∀ x ∈ R2, NumM x.1) from ⟨fun x hx => num_right (h.okc.right x.1 (Con.mem_all.2 (Or.inl (by rw [← hR0]; exact List.mem_map.2 ⟨x, hx, rfl⟩)))), fun x hx => num_right (h.okc.right x.1 (Con.mem_all.2 (Or.inr (Or.inl (by rw [← hR1]; exact List.mem_map.2 ⟨x, hx, rfl⟩))))), fun x hx => num_right (h.okc.right x.1 (Con.mem_all.2 (Or.inr (Or.inr (by rw [← hR2]; exact List.mem_map.2 ⟨x, hx, rfl⟩)))))⟩)
  have HEN := Lib.hid (And.intro e0 (And.intro e1 e2))
  have hb1 : n1 ≤ 1000 ∧ n2 ≤ 1000 ∧ n3 ≤ 1000 := by omega
  obtain ⟨hb1, hb2, hb3⟩ := hb1
  obtain ⟨F, hF⟩ : ∃ F : Ro → Bool, F = fun x => decide (bucketF x.1.key = i) := ⟨_, rfl⟩
  have HFIN := Lib.hid (show (c.filter fun m => decide (bucketF m.key = i)) = ⟨(R0.filter F).map (·.1), (R1.filter F).map (·.1), (R2.filter F).map (·.1)⟩ from by
    unfold Con.filter
    rw [← hR0, ← hR1, ← hR2, hF]
    simp only [List.filter_map]
    rfl)
  rw [HFIN.out]
  have HFD := Lib.hid (show ∀ x, F x = decide (bucketF x.1.key = i) from fun x => by rw [hF])
  clear hF hlc hv h hO hal e0 e1 e2 hM0 hM1 hM2 hR0 hR1 hR2 HFIN
  obtain ⟨i0, hi0, hz0, hz1, hz2⟩ := info_parts Mut.info_M
  have HI := Lib.hid (And.intro hi0 (And.intro hz0 (And.intro hz1 hz2)))
  clear hi0 hz0 hz1 hz2
  go_enter Tryd.func23, Tryd.ntmps23
  go_upto_region 2 with fail
  obtain ⟨WS, hW⟩ : ∃ W, W = ((w.alloc (.cells #[.slice o1 n1 k1, .slice o2 n2 k2, .slice o3 n3 k3] 61)).alloc (.cells #[.slice none 0 0, .slice none 0 0, .slice none 0 0] 61)).alloc (.cells #[.slice none 0 0, .slice none 0 0, .slice none 0 0] 61) := ⟨_, rfl⟩
  have xA : C3 WS w.heap.size (.slice o1 n1 k1) (.slice o2 n2 k2) (.slice o3 n3 k3) := by
    rw [hW]
    exact ((C3.new w _ _ _).below ((Below.refl _ _).alloc (Nat.le_refl _) _)).below ((Below.refl _ _).alloc (Nat.le_refl _) _)
  have xB : C3 WS (w.heap.size + 1) (.slice none 0 0) (.slice none 0 0) (.slice none 0 0) := by
    rw [hW]
    have h := (C3.new (w.alloc (.cells #[.slice o1 n1 k1, .slice o2 n2 k2, .slice o3 n3 k3] 61)) (.slice none 0 0) (.slice none 0 0) (.slice none 0 0)).below ((Below.refl _ _).alloc (Nat.le_refl _) (.cells #[.slice none 0 0, .slice none 0 0, .slice none 0 0] 61))
    simpa using h
  have xC : C3 WS (w.heap.size + 1 + 1) (.slice none 0 0) (.slice none 0 0) (.slice none 0 0) := by
    rw [hW]
    have h := C3.new ((w.alloc (.cells #[.slice o1 n1 k1, .slice o2 n2 k2, .slice o3 n3 k3] 61)).alloc (.cells #[.slice none 0 0, .slice none 0 0, .slice none 0 0] 61)) (.slice none 0 0) (.slice none 0 0) (.slice none 0 0)
    simpa using h
  have hbw : Below w.heap.size w WS := by rw [hW]; exact (((Below.refl _ _).alloc (Nat.le_refl _) _).alloc (by simp) _).alloc (by simp; omega) _
  have hsz : w.heap.size + 1 + 1 < WS.heap.size := xC.lt
  rw [← hW]
  obtain ⟨N, hN⟩ : ∃ N, N = w.heap.size := ⟨_, rfl⟩
  rw [← hN] at xA xB xC hsz ⊢
  have HN := Lib.hid hN
  have HXA := Lib.hid xA
  have HXB := Lib.hid xB
  have HXC0 := Lib.hid xC
  have HBW0 := Lib.hid hbw
  clear hW xA xB xC hbw hN
  go_wp2_with fail
  obtain ⟨b0, hb10⟩ : ∃ b, b = WS.heap.size := ⟨_, rfl⟩
  have hNb0 : N + 1 + 1 < b0 := by rw [hb10]; exact HXC0.out.lt
  have HB0 := Lib.hid hb10
  clear hb10
  obtain ⟨Q0, hQ0⟩ : ∃ Q, Q = R0.filter F := ⟨_, rfl⟩
  have HQ0 := Lib.hid hQ0
  clear hQ0
  go_loopw [6] (fun iv wr => ∃ (k on : Nat) (out : List Ro) (ov : Value), k ≤ n1 ∧ iv = .int .i64 k ∧ Hid (out ++ (R0.drop k).filter F = Q0) ∧ Hid (on = out.length) ∧ on ≤ k ∧ Hid (wr.ownsRow b0 43 10 ov on (out.flatMap enM)) ∧ Hid (C3 wr (N + 1 + 1) (ov) (.slice none 0 0) (.slice none 0 0)) ∧ Hid (WS.grownBy wr (some (N + 1 + 1)))) (fun iv _ => n1 - (intOf iv).toNat)
  case atStart => exact ⟨0, 0, [], .slice none 0 0, by omega, rfl, Lib.hid (by rw [HQ0.out]; rfl), Lib.hid rfl, by omega, Lib.hid (World.ownsRow_nil _ _ _ _), HXC0, Lib.hid (World.grownBy.refl _ _)⟩
  case round =>
    obtain ⟨k, on, out, ov, hk, rfl, hq, hol, hon, hown, hx5, hg⟩ := hrel
    obtain ⟨ao, ac, rfl⟩ := row_form hown.out
    have hbz : b0 ≤ wr.heap.size := by rw [HB0.out]; exact hg.out.size
    have hA := Lib.hid (HXA.out.grown hg.out (by simp; omega))
    have hBw := Lib.hid (show Below w.heap.size w wr from HBW0.out.grown hg.out HBW0.out.size (fun j hj => by cases hj; rw [← HN.out]; omega))
    have HMR := Lib.hid (HM0.out.below hBw.out)
    obtain ⟨-, g0, g1, g2, -⟩ := hA.out
    by_cases hlt : k < n1
    · have hkr : k < R0.length := by have := HEN.out.1; omega
      obtain ⟨x, hx⟩ : ∃ x, R0[k]? = some x := ⟨_, List.getElem?_eq_getElem hkr⟩
      have hxe : R0[k] = x := (List.getElem?_eq_some_iff.1 hx).2
      have hst := hq.out
      rw [List.drop_eq_getElem_cons hkr, hxe, List.filter_cons] at hst
      obtain ⟨xb, xoff, hao, hat0⟩ := HM0.out.at_ hx
      cases hao
      have hxl : xb < w.heap.size := hat0.lt
      have hat := hat0.below hBw.out
      have hov := HMR.out.over x (List.mem_of_getElem? hx)
      obtain ⟨xo, xc, xe, -, -⟩ := Over.form hov
      clear hat0
      have HNX := Lib.hid (HNM.out.1 x (List.mem_of_getElem? hx))
      have HST := Lib.hid hst
      have HXE := Lib.hid xe
      have HAT := Lib.hid hat
      obtain ⟨-, -, -, a2, -, -, -, -, -, -, -⟩ := hat
      have j0 : (0 : Int) ≤ (k : Int) := by omega
      have j1 : (k : Int) < (n1 : Int) := by omega
      obtain ⟨bk, hbk⟩ : ∃ j, j = bucketF x.1.key := ⟨_, rfl⟩
      have HBK := Lib.hid (bucket_any x.1.key wr (by have := HNX.out.key; omega))
      have HFX := Lib.hid (show F x = decide (bk = i) from by rw [HFD.out, hbk])
      rw [← hbk] at HBK
      clear hbk hx hxe hst hov xe hkr
      go_wp2_with fail
      refine HBK.out.mono ?_
      rintro e W6 ⟨rfl, hb⟩
      have HO6 := Lib.hid (row_below hown.out hb)
      have HX6 := Lib.hid (hx5.out.below hb)
      have HA6 := Lib.hid (hA.out.below hb)
      have HT6 := Lib.hid (HAT.out.below hb)
      have HG6 := Lib.hid (grown_under hg.out hb)
      have hbz6 : b0 ≤ W6.heap.size := Nat.le_trans hbz hb.size
      clear hb a2 g0 g1 g2 hown hx5 hA hg HAT HBK HMR hBw
      by_cases hbi : (bk : Int) = (i : Int)
      · have HS2 := Lib.hid (show (out ++ [x]) ++ (R0.drop (k + 1)).filter F = Q0 from by
          have h := HST.out
          rw [if_pos (by rw [HFX.out]; simp; omega)] at h
          rw [← h]; simp)
        have hcm : ∀ a b, W6.grownBy a (Value.slice ao on ac).ownBlock → Below a.heap.size a b → W6.grownBy b (Value.slice ao on ac).ownBlock := fun a b h hb => grown_under h hb
        have hpr : ∀ (j : Nat) (a b : World), (j = 8 → (fun W => W.ownsRow b0 43 10 (.slice ao on ac) on (out.flatMap enM)) a) → Below a.heap.size a b → (j = 8 → (fun W => W.ownsRow b0 43 10 (.slice ao on ac) on (out.flatMap enM)) b) := fun j a b h hb e => row_below (h e) hb
        have HLT := Lib.hid (show ∀ j, (Value.slice ao on ac).ownBlock = some j → b0 ≤ j ∧ j < W6.heap.size from fun j hj => HO6.out.lt j hj)
        have HKX := Lib.hid (fun (W : World) (hc : W6.grownBy W (Value.slice ao on ac).ownBlock) => HX6.out.grown hc (fun e => by have := (HLT.out _ e).1; omega))
        have HKA := Lib.hid (fun (W : World) (hc : W6.grownBy W (Value.slice ao on ac).ownBlock) => HA6.out.grown hc (fun e => by have := (HLT.out _ e).1; omega))
        have HKT := Lib.hid (fun (W : World) (hc : W6.grownBy W (Value.slice ao on ac).ownBlock) => mat_grown HT6.out hc (fun e => by have := (HLT.out _ e.symm).1; rw [← HN.out] at hxl; omega))
        go_upto_region 6 with fail
        obtain ⟨W0, hW0⟩ : ∃ W : World, W = W6 := ⟨_, rfl⟩
        have HG0 := Lib.hid (show W6.grownBy W0.drew (Value.slice ao on ac).ownBlock from by rw [hW0]; exact hcm _ _ (World.grownBy.refl _ _) (Below.refl _ _).drew)
        have HP0 := Lib.hid (show W0.drew.ownsRow b0 43 10 (.slice ao on ac) on (out.flatMap enM) from by rw [hW0]; exact row_below HO6.out (Below.refl _ _).drew)
        rw [← hW0]
        clear hW0
        refine RegLin.wp_region_lin (RegLin.useL [(7, 8)]) (fun W => W6.grownBy W (Value.slice ao on ac).ownBlock) (fun j W => j = 8 → (fun W => W.ownsRow b0 43 10 (.slice ao on ac) on (out.flatMap enM)) W) 10 [false, false, false, false, false, false, false, false, false, false, false, false, false, false, false, false, false, false, false, false, false, false, false, false, false, false, true, true, true, true, true, true, true, true, true, true, false, false, false, false, false, false, false, false, false, false, false, false, false, false, false, false, false, false, false, false, false, false, false, false, false, false, false, false, false, false, false, false, false, false, false, false, false, false, false, false, false, false, false, false, false, false, false, false, false, false, false, false, false]
          [sLit (.pointer (some ⟨N + 1 + 1, 0, none⟩)),
    sLit (.slice ao on ac),
    sLit (.pointer (some ⟨N, 0, none⟩)),
    sLit (.slice (some ⟨xb, xoff, none⟩) n1 k1),
    sLit (.int .i64 k),
    sLit (.pointer (some ⟨xb, xoff + k * 10, none⟩)),
    sLit (.agg #[.int .i64 x.1.table, .int .i64 x.1.kind, .string x.1.key, .string x.1.fin, .string x.1.val, .int .i64 x.1.expiry, .int .i64 x.1.at_.p, .int .i64 x.1.at_.l, .int .i64 x.1.at_.w, .slice xo x.1.over.length xc]),
    sNewM x,
    sOne (fun v W => W.ownsRow b0 43 10 v (on + 1) ((out ++ [x]).flatMap enM)) (fun _ _ _ h hb => row_below h hb),
    sLit (.pointer (some ⟨N + 1 + 1, 0, none⟩))] (HG0.out) (fun j _ _ => HP0.out) (by kernel_rfl) (by kernel_rfl) (by kernel_rfl) (by kernel_rfl) (fun F hF => ?_)
        simp only [over, overL, Nat.reduceAdd] at hF
        obtain rfl := funext hF
        clear hF
        refine ⟨⟨?_, ?_, ?_, ?_, ?_, ?_, ?_, ?_, ?_, ?_, trivial⟩, ?_⟩
        · intro V W hc hp hd K hK _
          clear hd
          go_wp2_with fail
          refine hK _ _ ?_ ?_ ?_
          · rfl
          · exact RegLin.keeps_below hcm hpr hc (Below.refl _ _)
          · exact rfl
        · intro V W hc hp hd K hK _
          have h0 : (V 26) = .pointer (some ⟨N + 1 + 1, 0, none⟩) := hd 0 (by decide) (by kernel_rfl) (RegLin.useL_ok (by kernel_rfl))
          clear hd
          obtain ⟨-, s0, s1, s2, -⟩ := HKX.out W hc
          go_wp2_with fail
          refine hK _ _ ?_ ?_ ?_
          · rfl
          · exact RegLin.keeps_below hcm hpr hc (Below.refl _ _)
          · exact rfl
        · intro V W hc hp hd K hK _
          clear hd
          go_wp2_with fail
          refine hK _ _ ?_ ?_ ?_
          · rfl
          · exact RegLin.keeps_below hcm hpr hc (Below.refl _ _)
          · exact rfl
        · intro V W hc hp hd K hK _
          have h2 : (V 28) = .pointer (some ⟨N, 0, none⟩) := hd 2 (by decide) (by kernel_rfl) (RegLin.useL_ok (by kernel_rfl))
          clear hd
          obtain ⟨-, g0, g1, g2, -⟩ := HKA.out W hc
          go_wp2_with fail
          refine hK _ _ ?_ ?_ ?_
          · rfl
          · exact RegLin.keeps_below hcm hpr hc (Below.refl _ _)
          · exact rfl
        · intro V W hc hp hd K hK _
          clear hd
          go_wp2_with fail
          refine hK _ _ ?_ ?_ ?_
          · rfl
          · exact RegLin.keeps_below hcm hpr hc (Below.refl _ _)
          · exact rfl
        · intro V W hc hp hd K hK _
          have h3 : (V 29) = .slice (some ⟨xb, xoff, none⟩) n1 k1 := hd 3 (by decide) (by kernel_rfl) (RegLin.useL_ok (by kernel_rfl))
          have h4 : (V 30) = .int .i64 k := hd 4 (by decide) (by kernel_rfl) (RegLin.useL_ok (by kernel_rfl))
          clear hd
          go_wp2_with fail
          refine hK _ _ ?_ ?_ ?_
          · rfl
          · exact RegLin.keeps_below hcm hpr hc (Below.refl _ _)
          · exact rfl
        · intro V W hc hp hd K hK _
          have h5 : (V 31) = .pointer (some ⟨xb, xoff + k * 10, none⟩) := hd 5 (by decide) (by kernel_rfl) (RegLin.useL_ok (by kernel_rfl))
          clear hd
          obtain ⟨-, m0, m1, m2, m3, m4, m5, m6, m7, m8, m9⟩ := HKT.out W hc
          rw [HXE.out] at m9
          go_wp2_with fail
          refine hK _ _ ?_ ?_ ?_
          · rfl
          · exact RegLin.keeps_below hcm hpr hc (Below.refl _ _)
          · exact rfl
        · intro V W hc hp hd K hK _
          have h6 : (V 32) = .agg #[.int .i64 x.1.table, .int .i64 x.1.kind, .string x.1.key, .string x.1.fin, .string x.1.val, .int .i64 x.1.expiry, .int .i64 x.1.at_.p, .int .i64 x.1.at_.l, .int .i64 x.1.at_.w, .slice xo x.1.over.length xc] := hd 6 (by decide) (by kernel_rfl) (RegLin.useL_ok (by kernel_rfl))
          clear hd
          have HCC := Lib.hid hc
          clear hc hp
          go_wp2_with fail
          refine hK _ _ ?_ ?_ ?_
          · rfl
          · exact RegLin.keeps_below hcm hpr HCC.out ((Below.refl _ _).alloc (Nat.le_refl _) _)
          · exact ⟨_, rfl, by simp, new_mut W x xo xc HXE.out⟩
        · intro V W hc hp hd K hK _
          have h1 : (V 27) = .slice ao on ac := hd 1 (by decide) (by kernel_rfl) (RegLin.useL_ok (by kernel_rfl))
          have h7 : ∃ g, (V 33) = .slice (some ⟨g, 0, none⟩) 1 1 ∧ g < W.heap.size ∧ ∀ j u, (enM x)[j]? = some u → W.cell? ⟨g, j, none⟩ = some u := hd 7 (by decide) (by kernel_rfl) (RegLin.useL_ok (by kernel_rfl))
          clear hd
          have HA := Lib.hid (hp rfl)
          obtain ⟨gn, e7, hgl, hgc⟩ := h7
          have ea := h1
          have hbw : b0 ≤ W.heap.size := Nat.le_trans hbz6 hc.size
          have HCC := Lib.hid hc
          clear hc hp
          go_wp2_with (at_builtin; refine wpList_append_own_loc rfl (.tmp 27) (.tmp 33) 59 rfl b0 43 i0 zeroM zMM 120 Tryd.underlying59 HI.out.1 HI.out.2.1 rfl HI.out.2.2.1 HI.out.2.2.2 (by decide) (.slice ao on ac) on (out.flatMap enM) (by first | rfl | exact ea) HA.out ⟨gn, 0, none⟩ 1 1 (enM x) (by first | rfl | exact e7) (by decide) rfl (news_mut hgc) (enM_one x HXE.out) (by unfold maxLen; omega) (by omega) hbw ?_)
          intro v1 w1 g1 g2 g3
          have G1 := Lib.hid (show w1.ownsRow b0 43 10 v1 (on + 1) ((out ++ [x]).flatMap enM) from by rw [List.flatMap_append, List.flatMap_singleton]; exact g1)
          have G2 := Lib.hid (show W6.grownBy w1 (Value.slice ao on ac).ownBlock from HCC.out.andThen g2 (fun j hj => Or.inr hj))
          clear g1 g2 g3
          go_wp2_with fail
          refine hK _ _ ?_ ?_ ?_
          · rfl
          · refine RegLin.keeps_by G2.out (by kernel_rfl) (fun j hj hne hl h => ?_)
            match j, hj, hne, hl, h with
            | 0, _, _, _, h => exact h
            | 1, _, _, _, h => exact h
            | 2, _, _, _, h => exact h
            | 3, _, _, _, h => exact h
            | 4, _, _, _, h => exact h
            | 5, _, _, _, h => exact h
            | 6, _, _, _, h => exact h
            | 7, _, _, hl, _ => exact Bool.noConfusion (hl.symm.trans (show RegLin.liveB _ 10 [(7, 8)] 8 7 = false from by kernel_rfl))
            | 8, _, hne, _, _ => exact absurd rfl hne
            | 9, _, _, hl, _ => exact Bool.noConfusion (hl.symm.trans (show RegLin.liveB _ 10 [(7, 8)] 8 9 = false from by kernel_rfl))
            | j + 10, hj, _, _, _ => exact absurd hj (by omega)
          · exact G1.out
        · intro V W hc hp hd K hK _
          clear hd
          go_wp2_with fail
          refine hK _ _ ?_ ?_ ?_
          · rfl
          · exact RegLin.keeps_below hcm hpr hc (Below.refl _ _)
          · exact rfl
        · intro V W hc hd
          have h8 : W.ownsRow b0 43 10 (V 34) (on + 1) ((out ++ [x]).flatMap enM) := hd 8 (by decide) rfl
          have h9 : (V 35) = .pointer (some ⟨N + 1 + 1, 0, none⟩) := hd 9 (by decide) rfl
          clear hd
          simp only [List.drop_succ_cons, List.drop_zero]
          have HC9 := Lib.hid hc
          have H9 := Lib.hid h8
          obtain ⟨bo, bc, e9⟩ := row_form h8
          have HX9 := Lib.hid (HKX.out W hc)
          obtain ⟨-, s0, s1, s2, f0, f1, f2⟩ := HX9.out
          clear h8 hc
          rw [e9] at H9
          have HX10 := Lib.hid (HX9.out.set0 (.slice bo (on + 1) bc))
          have HO10 := Lib.hid (show (W.setCell ⟨N + 1 + 1, 0, none⟩ (.slice bo (on + 1) bc)).ownsRow b0 43 10 (.slice bo (on + 1) bc) (on + 1) ((out ++ [x]).flatMap enM) from H9.out.kept (grown_cell W (N + 1 + 1) 0 (.slice bo (on + 1) bc)) (own_not H9.out (by omega)))
          have HG10 := Lib.hid (show WS.grownBy (W.setCell ⟨N + 1 + 1, 0, none⟩ (.slice bo (on + 1) bc)) (some (N + 1 + 1)) from (grown_then HG6.out HC9.out (fun j hj => by have := (HLT.out j hj).1; rw [← HB0.out]; omega)).andThen (grown_cell W (N + 1 + 1) 0 _) (fun j hj => Or.inr hj))
          go_wp2_with fail
          go_roundw
          case rel => exact ⟨k + 1, on + 1, out ++ [x], _, by omega, by go_num, HS2, Lib.hid (by have := hol.out; simp; omega), by omega, HO10, HX10, HG10⟩
          case measure => simp [intOf]; omega
      · have HS2 := Lib.hid (show out ++ (R0.drop (k + 1)).filter F = Q0 from by
          have h := HST.out
          rw [if_neg (by rw [HFX.out]; simp; omega)] at h
          exact h)
        go_wp2_with fail
        go_roundw
        case rel => exact ⟨k + 1, on, out, _, by omega, by go_num, HS2, hol, by omega, HO6, HX6, HG6⟩
        case measure => simp [intOf]; omega
    · obtain rfl : k = n1 := by omega
      have HOUT := Lib.hid (show out = Q0 from by have h := hq.out; rw [List.drop_of_length_le (by have := HEN.out.1; omega)] at h; simpa using h)
      have HSUB0 := Lib.hid (show ∀ y ∈ Q0, y ∈ R0 from fun y hy => by rw [HQ0.out] at hy; exact (List.mem_filter.1 hy).1)
      obtain ⟨qo0, rfl⟩ : ∃ o, o = ao := ⟨_, rfl⟩
      obtain ⟨qc0, rfl⟩ : ∃ o, o = ac := ⟨_, rfl⟩
      obtain ⟨qn0, rfl⟩ : ∃ o, o = on := ⟨_, rfl⟩
      have HO20 := Lib.hid (show wr.ownsRow b0 43 10 (.slice qo0 qn0 qc0) Q0.length (Q0.flatMap enM) from by rw [← HOUT.out, ← hol.out]; exact hown.out)
      clear hq hol hown HOUT hon hbz HMR hlt hk
      obtain ⟨W30, hWq⟩ : ∃ W : World, W = wr := ⟨_, rfl⟩
      rw [← hWq] at hx5 hg hA hBw HO20 g0 g1 g2 ⊢
      clear hWq
      have HXC1 := hx5
      have HXA1 := hA
      have HBW1 := hBw
      clear hx5 hA hBw
      have HXB1 := Lib.hid (HXB.out.grown hg.out (by simp))
      clear hg
      go_wp2_with fail
      clear g0 g1 g2
      obtain ⟨b1, hb11⟩ : ∃ b, b = W30.heap.size := ⟨_, rfl⟩
      have hNb1 : N + 1 + 1 < b1 := by rw [hb11]; exact HXC1.out.lt
      have HB1 := Lib.hid hb11
      clear hb11
      obtain ⟨Q1, hQ1⟩ : ∃ Q, Q = R1.filter F := ⟨_, rfl⟩
      have HQ1 := Lib.hid hQ1
      clear hQ1
      go_loopw [7] (fun iv wr => ∃ (k on : Nat) (out : List Ro) (ov : Value), k ≤ n2 ∧ iv = .int .i64 k ∧ Hid (out ++ (R1.drop k).filter F = Q1) ∧ Hid (on = out.length) ∧ on ≤ k ∧ Hid (wr.ownsRow b1 43 10 ov on (out.flatMap enM)) ∧ Hid (C3 wr (N + 1 + 1) (.slice qo0 qn0 qc0) (ov) (.slice none 0 0)) ∧ Hid (W30.grownBy wr (some (N + 1 + 1)))) (fun iv _ => n2 - (intOf iv).toNat)
      case atStart => exact ⟨0, 0, [], .slice none 0 0, by omega, rfl, Lib.hid (by rw [HQ1.out]; rfl), Lib.hid rfl, by omega, Lib.hid (World.ownsRow_nil _ _ _ _), HXC1, Lib.hid (World.grownBy.refl _ _)⟩
      case round =>
        obtain ⟨k, on, out, ov, hk, rfl, hq, hol, hon, hown, hx5, hg⟩ := hrel
        obtain ⟨ao, ac, rfl⟩ := row_form hown.out
        have hbz : b1 ≤ wr.heap.size := by rw [HB1.out]; exact hg.out.size
        have hA := Lib.hid (HXA1.out.grown hg.out (by simp; omega))
        have hBw := Lib.hid (show Below w.heap.size w wr from HBW1.out.grown hg.out HBW1.out.size (fun j hj => by cases hj; rw [← HN.out]; omega))
        have HMR := Lib.hid (HM1.out.below hBw.out)
        obtain ⟨-, g0, g1, g2, -⟩ := hA.out
        by_cases hlt : k < n2
        · have hkr : k < R1.length := by have := HEN.out.2.1; omega
          obtain ⟨x, hx⟩ : ∃ x, R1[k]? = some x := ⟨_, List.getElem?_eq_getElem hkr⟩
          have hxe : R1[k] = x := (List.getElem?_eq_some_iff.1 hx).2
          have hst := hq.out
          rw [List.drop_eq_getElem_cons hkr, hxe, List.filter_cons] at hst
          obtain ⟨xb, xoff, hao, hat0⟩ := HM1.out.at_ hx
          cases hao
          have hxl : xb < w.heap.size := hat0.lt
          have hat := hat0.below hBw.out
          have hov := HMR.out.over x (List.mem_of_getElem? hx)
          obtain ⟨xo, xc, xe, -, -⟩ := Over.form hov
          clear hat0
          have HNX := Lib.hid (HNM.out.2.1 x (List.mem_of_getElem? hx))
          have HST := Lib.hid hst
          have HXE := Lib.hid xe
          have HAT := Lib.hid hat
          obtain ⟨-, -, -, a2, -, -, -, -, -, -, -⟩ := hat
          have j0 : (0 : Int) ≤ (k : Int) := by omega
          have j1 : (k : Int) < (n2 : Int) := by omega
          obtain ⟨bk, hbk⟩ : ∃ j, j = bucketF x.1.key := ⟨_, rfl⟩
          have HBK := Lib.hid (bucket_any x.1.key wr (by have := HNX.out.key; omega))
          have HFX := Lib.hid (show F x = decide (bk = i) from by rw [HFD.out, hbk])
          rw [← hbk] at HBK
          clear hbk hx hxe hst hov xe hkr
          go_wp2_with fail
          refine HBK.out.mono ?_
          rintro e W6 ⟨rfl, hb⟩
          have HO6 := Lib.hid (row_below hown.out hb)
          have HX6 := Lib.hid (hx5.out.below hb)
          have HA6 := Lib.hid (hA.out.below hb)
          have HT6 := Lib.hid (HAT.out.below hb)
          have HG6 := Lib.hid (grown_under hg.out hb)
          have hbz6 : b1 ≤ W6.heap.size := Nat.le_trans hbz hb.size
          clear hb a2 g0 g1 g2 hown hx5 hA hg HAT HBK HMR hBw
          by_cases hbi : (bk : Int) = (i : Int)
          · have HS2 := Lib.hid (show (out ++ [x]) ++ (R1.drop (k + 1)).filter F = Q1 from by
              have h := HST.out
              rw [if_pos (by rw [HFX.out]; simp; omega)] at h
              rw [← h]; simp)
            have hcm : ∀ a b, W6.grownBy a (Value.slice ao on ac).ownBlock → Below a.heap.size a b → W6.grownBy b (Value.slice ao on ac).ownBlock := fun a b h hb => grown_under h hb
            have hpr : ∀ (j : Nat) (a b : World), (j = 8 → (fun W => W.ownsRow b1 43 10 (.slice ao on ac) on (out.flatMap enM)) a) → Below a.heap.size a b → (j = 8 → (fun W => W.ownsRow b1 43 10 (.slice ao on ac) on (out.flatMap enM)) b) := fun j a b h hb e => row_below (h e) hb
            have HLT := Lib.hid (show ∀ j, (Value.slice ao on ac).ownBlock = some j → b1 ≤ j ∧ j < W6.heap.size from fun j hj => HO6.out.lt j hj)
            have HKX := Lib.hid (fun (W : World) (hc : W6.grownBy W (Value.slice ao on ac).ownBlock) => HX6.out.grown hc (fun e => by have := (HLT.out _ e).1; omega))
            have HKA := Lib.hid (fun (W : World) (hc : W6.grownBy W (Value.slice ao on ac).ownBlock) => HA6.out.grown hc (fun e => by have := (HLT.out _ e).1; omega))
            have HKT := Lib.hid (fun (W : World) (hc : W6.grownBy W (Value.slice ao on ac).ownBlock) => mat_grown HT6.out hc (fun e => by have := (HLT.out _ e.symm).1; rw [← HN.out] at hxl; omega))
            go_upto_region 11 with fail
            obtain ⟨W0, hW0⟩ : ∃ W : World, W = W6 := ⟨_, rfl⟩
            have HG0 := Lib.hid (show W6.grownBy W0.drew (Value.slice ao on ac).ownBlock from by rw [hW0]; exact hcm _ _ (World.grownBy.refl _ _) (Below.refl _ _).drew)
            have HP0 := Lib.hid (show W0.drew.ownsRow b1 43 10 (.slice ao on ac) on (out.flatMap enM) from by rw [hW0]; exact row_below HO6.out (Below.refl _ _).drew)
            rw [← hW0]
            clear hW0
            refine RegLin.wp_region_lin (RegLin.useL [(7, 8)]) (fun W => W6.grownBy W (Value.slice ao on ac).ownBlock) (fun j W => j = 8 → (fun W => W.ownsRow b1 43 10 (.slice ao on ac) on (out.flatMap enM)) W) 10 [false, false, false, false, false, false, false, false, false, false, false, false, false, false, false, false, false, false, false, false, false, false, false, false, false, false, false, false, false, false, false, false, false, false, false, false, false, false, false, false, false, false, false, false, false, false, false, false, false, false, false, false, true, true, true, true, true, true, true, true, true, true, false, false, false, false, false, false, false, false, false, false, false, false, false, false, false, false, false, false, false, false, false, false, false, false, false, false, false]
              [sLit (.pointer (some ⟨N + 1 + 1, 1, none⟩)),
    sLit (.slice ao on ac),
    sLit (.pointer (some ⟨N, 1, none⟩)),
    sLit (.slice (some ⟨xb, xoff, none⟩) n2 k2),
    sLit (.int .i64 k),
    sLit (.pointer (some ⟨xb, xoff + k * 10, none⟩)),
    sLit (.agg #[.int .i64 x.1.table, .int .i64 x.1.kind, .string x.1.key, .string x.1.fin, .string x.1.val, .int .i64 x.1.expiry, .int .i64 x.1.at_.p, .int .i64 x.1.at_.l, .int .i64 x.1.at_.w, .slice xo x.1.over.length xc]),
    sNewM x,
    sOne (fun v W => W.ownsRow b1 43 10 v (on + 1) ((out ++ [x]).flatMap enM)) (fun _ _ _ h hb => row_below h hb),
    sLit (.pointer (some ⟨N + 1 + 1, 1, none⟩))] (HG0.out) (fun j _ _ => HP0.out) (by kernel_rfl) (by kernel_rfl) (by kernel_rfl) (by kernel_rfl) (fun F hF => ?_)
            simp only [over, overL, Nat.reduceAdd] at hF
            obtain rfl := funext hF
            clear hF
            refine ⟨⟨?_, ?_, ?_, ?_, ?_, ?_, ?_, ?_, ?_, ?_, trivial⟩, ?_⟩
            · intro V W hc hp hd K hK _
              clear hd
              go_wp2_with fail
              refine hK _ _ ?_ ?_ ?_
              · rfl
              · exact RegLin.keeps_below hcm hpr hc (Below.refl _ _)
              · exact rfl
            · intro V W hc hp hd K hK _
              have h0 : (V 52) = .pointer (some ⟨N + 1 + 1, 1, none⟩) := hd 0 (by decide) (by kernel_rfl) (RegLin.useL_ok (by kernel_rfl))
              clear hd
              obtain ⟨-, s0, s1, s2, -⟩ := HKX.out W hc
              go_wp2_with fail
              refine hK _ _ ?_ ?_ ?_
              · rfl
              · exact RegLin.keeps_below hcm hpr hc (Below.refl _ _)
              · exact rfl
            · intro V W hc hp hd K hK _
              clear hd
              go_wp2_with fail
              refine hK _ _ ?_ ?_ ?_
              · rfl
              · exact RegLin.keeps_below hcm hpr hc (Below.refl _ _)
              · exact rfl
            · intro V W hc hp hd K hK _
              have h2 : (V 54) = .pointer (some ⟨N, 1, none⟩) := hd 2 (by decide) (by kernel_rfl) (RegLin.useL_ok (by kernel_rfl))
              clear hd
              obtain ⟨-, g0, g1, g2, -⟩ := HKA.out W hc
              go_wp2_with fail
              refine hK _ _ ?_ ?_ ?_
              · rfl
              · exact RegLin.keeps_below hcm hpr hc (Below.refl _ _)
              · exact rfl
            · intro V W hc hp hd K hK _
              clear hd
              go_wp2_with fail
              refine hK _ _ ?_ ?_ ?_
              · rfl
              · exact RegLin.keeps_below hcm hpr hc (Below.refl _ _)
              · exact rfl
            · intro V W hc hp hd K hK _
              have h3 : (V 55) = .slice (some ⟨xb, xoff, none⟩) n2 k2 := hd 3 (by decide) (by kernel_rfl) (RegLin.useL_ok (by kernel_rfl))
              have h4 : (V 56) = .int .i64 k := hd 4 (by decide) (by kernel_rfl) (RegLin.useL_ok (by kernel_rfl))
              clear hd
              go_wp2_with fail
              refine hK _ _ ?_ ?_ ?_
              · rfl
              · exact RegLin.keeps_below hcm hpr hc (Below.refl _ _)
              · exact rfl
            · intro V W hc hp hd K hK _
              have h5 : (V 57) = .pointer (some ⟨xb, xoff + k * 10, none⟩) := hd 5 (by decide) (by kernel_rfl) (RegLin.useL_ok (by kernel_rfl))
              clear hd
              obtain ⟨-, m0, m1, m2, m3, m4, m5, m6, m7, m8, m9⟩ := HKT.out W hc
              rw [HXE.out] at m9
              go_wp2_with fail
              refine hK _ _ ?_ ?_ ?_
              · rfl
              · exact RegLin.keeps_below hcm hpr hc (Below.refl _ _)
              · exact rfl
            · intro V W hc hp hd K hK _
              have h6 : (V 58) = .agg #[.int .i64 x.1.table, .int .i64 x.1.kind, .string x.1.key, .string x.1.fin, .string x.1.val, .int .i64 x.1.expiry, .int .i64 x.1.at_.p, .int .i64 x.1.at_.l, .int .i64 x.1.at_.w, .slice xo x.1.over.length xc] := hd 6 (by decide) (by kernel_rfl) (RegLin.useL_ok (by kernel_rfl))
              clear hd
              have HCC := Lib.hid hc
              clear hc hp
              go_wp2_with fail
              refine hK _ _ ?_ ?_ ?_
              · rfl
              · exact RegLin.keeps_below hcm hpr HCC.out ((Below.refl _ _).alloc (Nat.le_refl _) _)
              · exact ⟨_, rfl, by simp, new_mut W x xo xc HXE.out⟩
            · intro V W hc hp hd K hK _
              have h1 : (V 53) = .slice ao on ac := hd 1 (by decide) (by kernel_rfl) (RegLin.useL_ok (by kernel_rfl))
              have h7 : ∃ g, (V 59) = .slice (some ⟨g, 0, none⟩) 1 1 ∧ g < W.heap.size ∧ ∀ j u, (enM x)[j]? = some u → W.cell? ⟨g, j, none⟩ = some u := hd 7 (by decide) (by kernel_rfl) (RegLin.useL_ok (by kernel_rfl))
              clear hd
              have HA := Lib.hid (hp rfl)
              obtain ⟨gn, e7, hgl, hgc⟩ := h7
              have ea := h1
              have hbw : b1 ≤ W.heap.size := Nat.le_trans hbz6 hc.size
              have HCC := Lib.hid hc
              clear hc hp
              go_wp2_with (at_builtin; refine wpList_append_own_loc rfl (.tmp 53) (.tmp 59) 59 rfl b1 43 i0 zeroM zMM 120 Tryd.underlying59 HI.out.1 HI.out.2.1 rfl HI.out.2.2.1 HI.out.2.2.2 (by decide) (.slice ao on ac) on (out.flatMap enM) (by first | rfl | exact ea) HA.out ⟨gn, 0, none⟩ 1 1 (enM x) (by first | rfl | exact e7) (by decide) rfl (news_mut hgc) (enM_one x HXE.out) (by unfold maxLen; omega) (by omega) hbw ?_)
              intro v1 w1 g1 g2 g3
              have G1 := Lib.hid (show w1.ownsRow b1 43 10 v1 (on + 1) ((out ++ [x]).flatMap enM) from by rw [List.flatMap_append, List.flatMap_singleton]; exact g1)
              have G2 := Lib.hid (show W6.grownBy w1 (Value.slice ao on ac).ownBlock from HCC.out.andThen g2 (fun j hj => Or.inr hj))
              clear g1 g2 g3
              go_wp2_with fail
              refine hK _ _ ?_ ?_ ?_
              · rfl
              · refine RegLin.keeps_by G2.out (by kernel_rfl) (fun j hj hne hl h => ?_)
                match j, hj, hne, hl, h with
                | 0, _, _, _, h => exact h
                | 1, _, _, _, h => exact h
                | 2, _, _, _, h => exact h
                | 3, _, _, _, h => exact h
                | 4, _, _, _, h => exact h
                | 5, _, _, _, h => exact h
                | 6, _, _, _, h => exact h
                | 7, _, _, hl, _ => exact Bool.noConfusion (hl.symm.trans (show RegLin.liveB _ 10 [(7, 8)] 8 7 = false from by kernel_rfl))
                | 8, _, hne, _, _ => exact absurd rfl hne
                | 9, _, _, hl, _ => exact Bool.noConfusion (hl.symm.trans (show RegLin.liveB _ 10 [(7, 8)] 8 9 = false from by kernel_rfl))
                | j + 10, hj, _, _, _ => exact absurd hj (by omega)
              · exact G1.out
            · intro V W hc hp hd K hK _
              clear hd
              go_wp2_with fail
              refine hK _ _ ?_ ?_ ?_
              · rfl
              · exact RegLin.keeps_below hcm hpr hc (Below.refl _ _)
              · exact rfl
            · intro V W hc hd
              have h8 : W.ownsRow b1 43 10 (V 60) (on + 1) ((out ++ [x]).flatMap enM) := hd 8 (by decide) rfl
              have h9 : (V 61) = .pointer (some ⟨N + 1 + 1, 1, none⟩) := hd 9 (by decide) rfl
              clear hd
              simp only [List.drop_succ_cons, List.drop_zero]
              have HC9 := Lib.hid hc
              have H9 := Lib.hid h8
              obtain ⟨bo, bc, e9⟩ := row_form h8
              have HX9 := Lib.hid (HKX.out W hc)
              obtain ⟨-, s0, s1, s2, f0, f1, f2⟩ := HX9.out
              clear h8 hc
              rw [e9] at H9
              have HX10 := Lib.hid (HX9.out.set1 (.slice bo (on + 1) bc))
              have HO10 := Lib.hid (show (W.setCell ⟨N + 1 + 1, 1, none⟩ (.slice bo (on + 1) bc)).ownsRow b1 43 10 (.slice bo (on + 1) bc) (on + 1) ((out ++ [x]).flatMap enM) from H9.out.kept (grown_cell W (N + 1 + 1) 1 (.slice bo (on + 1) bc)) (own_not H9.out (by omega)))
              have HG10 := Lib.hid (show W30.grownBy (W.setCell ⟨N + 1 + 1, 1, none⟩ (.slice bo (on + 1) bc)) (some (N + 1 + 1)) from (grown_then HG6.out HC9.out (fun j hj => by have := (HLT.out j hj).1; rw [← HB1.out]; omega)).andThen (grown_cell W (N + 1 + 1) 1 _) (fun j hj => Or.inr hj))
              go_wp2_with fail
              go_roundw
              case rel => exact ⟨k + 1, on + 1, out ++ [x], _, by omega, by go_num, HS2, Lib.hid (by have := hol.out; simp; omega), by omega, HO10, HX10, HG10⟩
              case measure => simp [intOf]; omega
          · have HS2 := Lib.hid (show out ++ (R1.drop (k + 1)).filter F = Q1 from by
              have h := HST.out
              rw [if_neg (by rw [HFX.out]; simp; omega)] at h
              exact h)
            go_wp2_with fail
            go_roundw
            case rel => exact ⟨k + 1, on, out, _, by omega, by go_num, HS2, hol, by omega, HO6, HX6, HG6⟩
            case measure => simp [intOf]; omega
        · obtain rfl : k = n2 := by omega
          have HOUT := Lib.hid (show out = Q1 from by have h := hq.out; rw [List.drop_of_length_le (by have := HEN.out.2.1; omega)] at h; simpa using h)
          have HSUB1 := Lib.hid (show ∀ y ∈ Q1, y ∈ R1 from fun y hy => by rw [HQ1.out] at hy; exact (List.mem_filter.1 hy).1)
          obtain ⟨qo1, rfl⟩ : ∃ o, o = ao := ⟨_, rfl⟩
          obtain ⟨qc1, rfl⟩ : ∃ o, o = ac := ⟨_, rfl⟩
          obtain ⟨qn1, rfl⟩ : ∃ o, o = on := ⟨_, rfl⟩
          have HO21 := Lib.hid (show wr.ownsRow b1 43 10 (.slice qo1 qn1 qc1) Q1.length (Q1.flatMap enM) from by rw [← HOUT.out, ← hol.out]; exact hown.out)
          clear hq hol hown HOUT hon hbz HMR hlt hk
          obtain ⟨W31, hWq⟩ : ∃ W : World, W = wr := ⟨_, rfl⟩
          rw [← hWq] at hx5 hg hA hBw HO21 g0 g1 g2 ⊢
          clear hWq
          have HXC2 := hx5
          have HXA2 := hA
          have HBW2 := hBw
          clear hx5 hA hBw
          have HO20 := Lib.hid (HO20.out.kept hg.out (own_not HO20.out (by omega)))
          have HXB2 := Lib.hid (HXB1.out.grown hg.out (by simp))
          clear hg
          go_wp2_with fail
          clear g0 g1 g2
          obtain ⟨b2, hb12⟩ : ∃ b, b = W31.heap.size := ⟨_, rfl⟩
          have hNb2 : N + 1 + 1 < b2 := by rw [hb12]; exact HXC2.out.lt
          have HB2 := Lib.hid hb12
          clear hb12
          obtain ⟨Q2, hQ2⟩ : ∃ Q, Q = R2.filter F := ⟨_, rfl⟩
          have HQ2 := Lib.hid hQ2
          clear hQ2
          go_loopw [8] (fun iv wr => ∃ (k on : Nat) (out : List Ro) (ov : Value), k ≤ n3 ∧ iv = .int .i64 k ∧ Hid (out ++ (R2.drop k).filter F = Q2) ∧ Hid (on = out.length) ∧ on ≤ k ∧ Hid (wr.ownsRow b2 43 10 ov on (out.flatMap enM)) ∧ Hid (C3 wr (N + 1 + 1) (.slice qo0 qn0 qc0) (.slice qo1 qn1 qc1) (ov)) ∧ Hid (W31.grownBy wr (some (N + 1 + 1)))) (fun iv _ => n3 - (intOf iv).toNat)
          case atStart => exact ⟨0, 0, [], .slice none 0 0, by omega, rfl, Lib.hid (by rw [HQ2.out]; rfl), Lib.hid rfl, by omega, Lib.hid (World.ownsRow_nil _ _ _ _), HXC2, Lib.hid (World.grownBy.refl _ _)⟩
          case round =>
            obtain ⟨k, on, out, ov, hk, rfl, hq, hol, hon, hown, hx5, hg⟩ := hrel
            obtain ⟨ao, ac, rfl⟩ := row_form hown.out
            have hbz : b2 ≤ wr.heap.size := by rw [HB2.out]; exact hg.out.size
            have hA := Lib.hid (HXA2.out.grown hg.out (by simp; omega))
            have hBw := Lib.hid (show Below w.heap.size w wr from HBW2.out.grown hg.out HBW2.out.size (fun j hj => by cases hj; rw [← HN.out]; omega))
            have HMR := Lib.hid (HM2.out.below hBw.out)
            obtain ⟨-, g0, g1, g2, -⟩ := hA.out
            by_cases hlt : k < n3
            · have hkr : k < R2.length := by have := HEN.out.2.2; omega
              obtain ⟨x, hx⟩ : ∃ x, R2[k]? = some x := ⟨_, List.getElem?_eq_getElem hkr⟩
              have hxe : R2[k] = x := (List.getElem?_eq_some_iff.1 hx).2
              have hst := hq.out
              rw [List.drop_eq_getElem_cons hkr, hxe, List.filter_cons] at hst
              obtain ⟨xb, xoff, hao, hat0⟩ := HM2.out.at_ hx
              cases hao
              have hxl : xb < w.heap.size := hat0.lt
              have hat := hat0.below hBw.out
              have hov := HMR.out.over x (List.mem_of_getElem? hx)
              obtain ⟨xo, xc, xe, -, -⟩ := Over.form hov
              clear hat0
              have HNX := Lib.hid (HNM.out.2.2 x (List.mem_of_getElem? hx))
              have HST := Lib.hid hst
              have HXE := Lib.hid xe
              have HAT := Lib.hid hat
              obtain ⟨-, -, -, a2, -, -, -, -, -, -, -⟩ := hat
              have j0 : (0 : Int) ≤ (k : Int) := by omega
              have j1 : (k : Int) < (n3 : Int) := by omega
              obtain ⟨bk, hbk⟩ : ∃ j, j = bucketF x.1.key := ⟨_, rfl⟩
              have HBK := Lib.hid (bucket_any x.1.key wr (by have := HNX.out.key; omega))
              have HFX := Lib.hid (show F x = decide (bk = i) from by rw [HFD.out, hbk])
              rw [← hbk] at HBK
              clear hbk hx hxe hst hov xe hkr
              go_wp2_with fail
              refine HBK.out.mono ?_
              rintro e W6 ⟨rfl, hb⟩
              have HO6 := Lib.hid (row_below hown.out hb)
              have HX6 := Lib.hid (hx5.out.below hb)
              have HA6 := Lib.hid (hA.out.below hb)
              have HT6 := Lib.hid (HAT.out.below hb)
              have HG6 := Lib.hid (grown_under hg.out hb)
              have hbz6 : b2 ≤ W6.heap.size := Nat.le_trans hbz hb.size
              clear hb a2 g0 g1 g2 hown hx5 hA hg HAT HBK HMR hBw
              by_cases hbi : (bk : Int) = (i : Int)
              · have HS2 := Lib.hid (show (out ++ [x]) ++ (R2.drop (k + 1)).filter F = Q2 from by
                  have h := HST.out
                  rw [if_pos (by rw [HFX.out]; simp; omega)] at h
                  rw [← h]; simp)
                have hcm : ∀ a b, W6.grownBy a (Value.slice ao on ac).ownBlock → Below a.heap.size a b → W6.grownBy b (Value.slice ao on ac).ownBlock := fun a b h hb => grown_under h hb
                have hpr : ∀ (j : Nat) (a b : World), (j = 8 → (fun W => W.ownsRow b2 43 10 (.slice ao on ac) on (out.flatMap enM)) a) → Below a.heap.size a b → (j = 8 → (fun W => W.ownsRow b2 43 10 (.slice ao on ac) on (out.flatMap enM)) b) := fun j a b h hb e => row_below (h e) hb
                have HLT := Lib.hid (show ∀ j, (Value.slice ao on ac).ownBlock = some j → b2 ≤ j ∧ j < W6.heap.size from fun j hj => HO6.out.lt j hj)
                have HKX := Lib.hid (fun (W : World) (hc : W6.grownBy W (Value.slice ao on ac).ownBlock) => HX6.out.grown hc (fun e => by have := (HLT.out _ e).1; omega))
                have HKA := Lib.hid (fun (W : World) (hc : W6.grownBy W (Value.slice ao on ac).ownBlock) => HA6.out.grown hc (fun e => by have := (HLT.out _ e).1; omega))
                have HKT := Lib.hid (fun (W : World) (hc : W6.grownBy W (Value.slice ao on ac).ownBlock) => mat_grown HT6.out hc (fun e => by have := (HLT.out _ e.symm).1; rw [← HN.out] at hxl; omega))
                go_upto_region 16 with fail
                obtain ⟨W0, hW0⟩ : ∃ W : World, W = W6 := ⟨_, rfl⟩
                have HG0 := Lib.hid (show W6.grownBy W0.drew (Value.slice ao on ac).ownBlock from by rw [hW0]; exact hcm _ _ (World.grownBy.refl _ _) (Below.refl _ _).drew)
                have HP0 := Lib.hid (show W0.drew.ownsRow b2 43 10 (.slice ao on ac) on (out.flatMap enM) from by rw [hW0]; exact row_below HO6.out (Below.refl _ _).drew)
                rw [← hW0]
                clear hW0
                refine RegLin.wp_region_lin (RegLin.useL [(7, 8)]) (fun W => W6.grownBy W (Value.slice ao on ac).ownBlock) (fun j W => j = 8 → (fun W => W.ownsRow b2 43 10 (.slice ao on ac) on (out.flatMap enM)) W) 10 [false, false, false, false, false, false, false, false, false, false, false, false, false, false, false, false, false, false, false, false, false, false, false, false, false, false, false, false, false, false, false, false, false, false, false, false, false, false, false, false, false, false, false, false, false, false, false, false, false, false, false, false, false, false, false, false, false, false, false, false, false, false, false, false, false, false, false, false, false, false, false, false, false, false, false, false, false, false, true, true, true, true, true, true, true, true, true, true, false]
                  [sLit (.pointer (some ⟨N + 1 + 1, 2, none⟩)),
    sLit (.slice ao on ac),
    sLit (.pointer (some ⟨N, 2, none⟩)),
    sLit (.slice (some ⟨xb, xoff, none⟩) n3 k3),
    sLit (.int .i64 k),
    sLit (.pointer (some ⟨xb, xoff + k * 10, none⟩)),
    sLit (.agg #[.int .i64 x.1.table, .int .i64 x.1.kind, .string x.1.key, .string x.1.fin, .string x.1.val, .int .i64 x.1.expiry, .int .i64 x.1.at_.p, .int .i64 x.1.at_.l, .int .i64 x.1.at_.w, .slice xo x.1.over.length xc]),
    sNewM x,
    sOne (fun v W => W.ownsRow b2 43 10 v (on + 1) ((out ++ [x]).flatMap enM)) (fun _ _ _ h hb => row_below h hb),
    sLit (.pointer (some ⟨N + 1 + 1, 2, none⟩))] (HG0.out) (fun j _ _ => HP0.out) (by kernel_rfl) (by kernel_rfl) (by kernel_rfl) (by kernel_rfl) (fun F hF => ?_)
                simp only [over, overL, Nat.reduceAdd] at hF
                obtain rfl := funext hF
                clear hF
                refine ⟨⟨?_, ?_, ?_, ?_, ?_, ?_, ?_, ?_, ?_, ?_, trivial⟩, ?_⟩
                · intro V W hc hp hd K hK _
                  clear hd
                  go_wp2_with fail
                  refine hK _ _ ?_ ?_ ?_
                  · rfl
                  · exact RegLin.keeps_below hcm hpr hc (Below.refl _ _)
                  · exact rfl
                · intro V W hc hp hd K hK _
                  have h0 : (V 78) = .pointer (some ⟨N + 1 + 1, 2, none⟩) := hd 0 (by decide) (by kernel_rfl) (RegLin.useL_ok (by kernel_rfl))
                  clear hd
                  obtain ⟨-, s0, s1, s2, -⟩ := HKX.out W hc
                  go_wp2_with fail
                  refine hK _ _ ?_ ?_ ?_
                  · rfl
                  · exact RegLin.keeps_below hcm hpr hc (Below.refl _ _)
                  · exact rfl
                · intro V W hc hp hd K hK _
                  clear hd
                  go_wp2_with fail
                  refine hK _ _ ?_ ?_ ?_
                  · rfl
                  · exact RegLin.keeps_below hcm hpr hc (Below.refl _ _)
                  · exact rfl
                · intro V W hc hp hd K hK _
                  have h2 : (V 80) = .pointer (some ⟨N, 2, none⟩) := hd 2 (by decide) (by kernel_rfl) (RegLin.useL_ok (by kernel_rfl))
                  clear hd
                  obtain ⟨-, g0, g1, g2, -⟩ := HKA.out W hc
                  go_wp2_with fail
                  refine hK _ _ ?_ ?_ ?_
                  · rfl
                  · exact RegLin.keeps_below hcm hpr hc (Below.refl _ _)
                  · exact rfl
                · intro V W hc hp hd K hK _
                  clear hd
                  go_wp2_with fail
                  refine hK _ _ ?_ ?_ ?_
                  · rfl
                  · exact RegLin.keeps_below hcm hpr hc (Below.refl _ _)
                  · exact rfl
                · intro V W hc hp hd K hK _
                  have h3 : (V 81) = .slice (some ⟨xb, xoff, none⟩) n3 k3 := hd 3 (by decide) (by kernel_rfl) (RegLin.useL_ok (by kernel_rfl))
                  have h4 : (V 82) = .int .i64 k := hd 4 (by decide) (by kernel_rfl) (RegLin.useL_ok (by kernel_rfl))
                  clear hd
                  go_wp2_with fail
                  refine hK _ _ ?_ ?_ ?_
                  · rfl
                  · exact RegLin.keeps_below hcm hpr hc (Below.refl _ _)
                  · exact rfl
                · intro V W hc hp hd K hK _
                  have h5 : (V 83) = .pointer (some ⟨xb, xoff + k * 10, none⟩) := hd 5 (by decide) (by kernel_rfl) (RegLin.useL_ok (by kernel_rfl))
                  clear hd
                  obtain ⟨-, m0, m1, m2, m3, m4, m5, m6, m7, m8, m9⟩ := HKT.out W hc
                  rw [HXE.out] at m9
                  go_wp2_with fail
                  refine hK _ _ ?_ ?_ ?_
                  · rfl
                  · exact RegLin.keeps_below hcm hpr hc (Below.refl _ _)
                  · exact rfl
                · intro V W hc hp hd K hK _
                  have h6 : (V 84) = .agg #[.int .i64 x.1.table, .int .i64 x.1.kind, .string x.1.key, .string x.1.fin, .string x.1.val, .int .i64 x.1.expiry, .int .i64 x.1.at_.p, .int .i64 x.1.at_.l, .int .i64 x.1.at_.w, .slice xo x.1.over.length xc] := hd 6 (by decide) (by kernel_rfl) (RegLin.useL_ok (by kernel_rfl))
                  clear hd
                  have HCC := Lib.hid hc
                  clear hc hp
                  go_wp2_with fail
                  refine hK _ _ ?_ ?_ ?_
                  · rfl
                  · exact RegLin.keeps_below hcm hpr HCC.out ((Below.refl _ _).alloc (Nat.le_refl _) _)
                  · exact ⟨_, rfl, by simp, new_mut W x xo xc HXE.out⟩
                · intro V W hc hp hd K hK _
                  have h1 : (V 79) = .slice ao on ac := hd 1 (by decide) (by kernel_rfl) (RegLin.useL_ok (by kernel_rfl))
                  have h7 : ∃ g, (V 85) = .slice (some ⟨g, 0, none⟩) 1 1 ∧ g < W.heap.size ∧ ∀ j u, (enM x)[j]? = some u → W.cell? ⟨g, j, none⟩ = some u := hd 7 (by decide) (by kernel_rfl) (RegLin.useL_ok (by kernel_rfl))
                  clear hd
                  have HA := Lib.hid (hp rfl)
                  obtain ⟨gn, e7, hgl, hgc⟩ := h7
                  have ea := h1
                  have hbw : b2 ≤ W.heap.size := Nat.le_trans hbz6 hc.size
                  have HCC := Lib.hid hc
                  clear hc hp
                  go_wp2_with (at_builtin; refine wpList_append_own_loc rfl (.tmp 79) (.tmp 85) 59 rfl b2 43 i0 zeroM zMM 120 Tryd.underlying59 HI.out.1 HI.out.2.1 rfl HI.out.2.2.1 HI.out.2.2.2 (by decide) (.slice ao on ac) on (out.flatMap enM) (by first | rfl | exact ea) HA.out ⟨gn, 0, none⟩ 1 1 (enM x) (by first | rfl | exact e7) (by decide) rfl (news_mut hgc) (enM_one x HXE.out) (by unfold maxLen; omega) (by omega) hbw ?_)
                  intro v1 w1 g1 g2 g3
                  have G1 := Lib.hid (show w1.ownsRow b2 43 10 v1 (on + 1) ((out ++ [x]).flatMap enM) from by rw [List.flatMap_append, List.flatMap_singleton]; exact g1)
                  have G2 := Lib.hid (show W6.grownBy w1 (Value.slice ao on ac).ownBlock from HCC.out.andThen g2 (fun j hj => Or.inr hj))
                  clear g1 g2 g3
                  go_wp2_with fail
                  refine hK _ _ ?_ ?_ ?_
                  · rfl
                  · refine RegLin.keeps_by G2.out (by kernel_rfl) (fun j hj hne hl h => ?_)
                    match j, hj, hne, hl, h with
                    | 0, _, _, _, h => exact h
                    | 1, _, _, _, h => exact h
                    | 2, _, _, _, h => exact h
                    | 3, _, _, _, h => exact h
                    | 4, _, _, _, h => exact h
                    | 5, _, _, _, h => exact h
                    | 6, _, _, _, h => exact h
                    | 7, _, _, hl, _ => exact Bool.noConfusion (hl.symm.trans (show RegLin.liveB _ 10 [(7, 8)] 8 7 = false from by kernel_rfl))
                    | 8, _, hne, _, _ => exact absurd rfl hne
                    | 9, _, _, hl, _ => exact Bool.noConfusion (hl.symm.trans (show RegLin.liveB _ 10 [(7, 8)] 8 9 = false from by kernel_rfl))
                    | j + 10, hj, _, _, _ => exact absurd hj (by omega)
                  · exact G1.out
                · intro V W hc hp hd K hK _
                  clear hd
                  go_wp2_with fail
                  refine hK _ _ ?_ ?_ ?_
                  · rfl
                  · exact RegLin.keeps_below hcm hpr hc (Below.refl _ _)
                  · exact rfl
                · intro V W hc hd
                  have h8 : W.ownsRow b2 43 10 (V 86) (on + 1) ((out ++ [x]).flatMap enM) := hd 8 (by decide) rfl
                  have h9 : (V 87) = .pointer (some ⟨N + 1 + 1, 2, none⟩) := hd 9 (by decide) rfl
                  clear hd
                  simp only [List.drop_succ_cons, List.drop_zero]
                  have HC9 := Lib.hid hc
                  have H9 := Lib.hid h8
                  obtain ⟨bo, bc, e9⟩ := row_form h8
                  have HX9 := Lib.hid (HKX.out W hc)
                  obtain ⟨-, s0, s1, s2, f0, f1, f2⟩ := HX9.out
                  clear h8 hc
                  rw [e9] at H9
                  have HX10 := Lib.hid (c3_set2 HX9.out (.slice bo (on + 1) bc))
                  have HO10 := Lib.hid (show (W.setCell ⟨N + 1 + 1, 2, none⟩ (.slice bo (on + 1) bc)).ownsRow b2 43 10 (.slice bo (on + 1) bc) (on + 1) ((out ++ [x]).flatMap enM) from H9.out.kept (grown_cell W (N + 1 + 1) 2 (.slice bo (on + 1) bc)) (own_not H9.out (by omega)))
                  have HG10 := Lib.hid (show W31.grownBy (W.setCell ⟨N + 1 + 1, 2, none⟩ (.slice bo (on + 1) bc)) (some (N + 1 + 1)) from (grown_then HG6.out HC9.out (fun j hj => by have := (HLT.out j hj).1; rw [← HB2.out]; omega)).andThen (grown_cell W (N + 1 + 1) 2 _) (fun j hj => Or.inr hj))
                  go_wp2_with fail
                  go_roundw
                  case rel => exact ⟨k + 1, on + 1, out ++ [x], _, by omega, by go_num, HS2, Lib.hid (by have := hol.out; simp; omega), by omega, HO10, HX10, HG10⟩
                  case measure => simp [intOf]; omega
              · have HS2 := Lib.hid (show out ++ (R2.drop (k + 1)).filter F = Q2 from by
                  have h := HST.out
                  rw [if_neg (by rw [HFX.out]; simp; omega)] at h
                  exact h)
                go_wp2_with fail
                go_roundw
                case rel => exact ⟨k + 1, on, out, _, by omega, by go_num, HS2, hol, by omega, HO6, HX6, HG6⟩
                case measure => simp [intOf]; omega
            · obtain rfl : k = n3 := by omega
              have HOUT := Lib.hid (show out = Q2 from by have h := hq.out; rw [List.drop_of_length_le (by have := HEN.out.2.2; omega)] at h; simpa using h)
              have HSUB2 := Lib.hid (show ∀ y ∈ Q2, y ∈ R2 from fun y hy => by rw [HQ2.out] at hy; exact (List.mem_filter.1 hy).1)
              obtain ⟨qo2, rfl⟩ : ∃ o, o = ao := ⟨_, rfl⟩
              obtain ⟨qc2, rfl⟩ : ∃ o, o = ac := ⟨_, rfl⟩
              obtain ⟨qn2, rfl⟩ : ∃ o, o = on := ⟨_, rfl⟩
              have HO22 := Lib.hid (show wr.ownsRow b2 43 10 (.slice qo2 qn2 qc2) Q2.length (Q2.flatMap enM) from by rw [← HOUT.out, ← hol.out]; exact hown.out)
              clear hq hol hown HOUT hon hbz HMR hlt hk
              obtain ⟨W32, hWq⟩ : ∃ W : World, W = wr := ⟨_, rfl⟩
              rw [← hWq] at hx5 hg hA hBw HO22 g0 g1 g2 ⊢
              clear hWq
              have HXC3 := hx5
              have HXA3 := hA
              have HBW3 := hBw
              clear hx5 hA hBw
              have HO20 := Lib.hid (HO20.out.kept hg.out (own_not HO20.out (by omega)))
              have HO21 := Lib.hid (HO21.out.kept hg.out (own_not HO21.out (by omega)))
              have HXB3 := Lib.hid (HXB2.out.grown hg.out (by simp))
              clear hg
              obtain ⟨-, s0, s1, s2, -⟩ := HXC3.out
              obtain ⟨-, t0, t1, t2, f0, f1, f2⟩ := HXB3.out
              go_wp2_with fail
              obtain ⟨-, u0, u1, u2, -⟩ := c3_put HXB3.out (.slice qo0 qn0 qc0) (.slice qo1 qn1 qc1) (.slice qo2 qn2 qc2)
              refine bodyPost_ret (v := .agg #[.slice qo0 qn0 qc0, .slice qo1 qn1 qc1, .slice qo2 qn2 qc2]) (by simp [results, Tryd.f23, go_sem, u0, u1, u2]) rfl ?_
              have hl : Lies W32 (.slice qo0 qn0 qc0) (.slice qo1 qn1 qc1) (.slice qo2 qn2 qc2) ⟨(R0.filter F).map (·.1), (R1.filter F).map (·.1), (R2.filter F).map (·.1)⟩ := by
                rw [← HQ0.out, ← HQ1.out, ← HQ2.out]
                exact ⟨⟨Q0, rfl, Lst.owned enM_len (by decide) rfl HO20.out, fun y hy => (HM0.out.below HBW3.out).over y (HSUB0.out y hy)⟩, ⟨Q1, rfl, Lst.owned enM_len (by decide) rfl HO21.out, fun y hy => (HM1.out.below HBW3.out).over y (HSUB1.out y hy)⟩, ⟨Q2, rfl, Lst.owned enM_len (by decide) rfl HO22.out, fun y hy => (HM2.out.below HBW3.out).over y (HSUB2.out y hy)⟩⟩
              exact ⟨_, rfl, (hl.plain3 (plain3 HXB3.out _ _ _)).is, c3_put_below HBW3.out (by rw [← HN.out]; omega) _ _ _⟩
end Go.Proofs.YtkdgbkhnnehedaaDoor.Mrk

namespace Go.Proofs.YtkdgbkhnnehedaaDoor.Mrk
open Go.RowKit Go.Proofs.YtkdgbkhnnehedaaDoor.Spare Go.Proofs.YtkdgbkhnnehedaaDoor.RegInv Go.Proofs.YtkdgbkhnnehedaaDoor.Mut Go.Proofs.YtkdgbkhnnehedaaDoor.Ints
set_option linter.unusedSectionVars false
variable [Inhabited Lim]

/-- What the walk stands on: the content, the result's variable, the tree. -/
structure OfC (w : World) (N : Nat) (C : Array Value) (a : Nat → Nat) (W : World) : Prop where
  tree : TreeAt W 82 (N + 1 + 1) a
  res : TreeAt W 82 (N + 1) fun _ => 0
  con : W.heap[N]? = some (.cells C 61 (0, 0))
  below : Below N w W
theorem OfC.later {w W W' : World} {N : Nat} {C : Array Value} {a : Nat → Nat} (h : OfC w N C a W) (hb : Below W.heap.size W W') : OfC w N C a W' :=
  ⟨h.tree.below hb, h.res.below hb, (hb.block N (Array.getElem?_eq_some_iff.1 h.con).1).trans h.con, h.below.trans (hb.mono (Nat.le_of_lt (Array.getElem?_eq_some_iff.1 h.con).1))⟩
theorem OfC.grow {W : World} (N i x : Nat) : W.grownBy (W.setCell ⟨N + 1 + 1, i, none⟩ (.int .u64 x)) (some (N + 1 + 1)) := grown_setCell (World.grownBy.refl _ _) (Or.inl rfl) _
theorem OfC.set {w W : World} {N : Nat} {C : Array Value} {a : Nat → Nat} (h : OfC w N C a W) (i x : Nat) : OfC w N C (upd a i x) (W.setCell ⟨N + 1 + 1, i, none⟩ (.int .u64 x)) := by
  have hg := OfC.grow (W := W) N i x
  exact ⟨h.tree.set i x, h.res.kept hg (by simp), (hg.block N (Array.getElem?_eq_some_iff.1 h.con).1 (by simp; omega)).trans h.con, h.below.setCell (p := ⟨N + 1 + 1, i, none⟩) (by simp; omega) _⟩
theorem OfC.ext {w W : World} {N : Nat} {C : Array Value} {a a' : Nat → Nat} (h : OfC w N C a W) (e : ∀ i, i < 32 → a i = a' i) : OfC w N C a' W := ⟨h.tree.ext e, h.res, h.con, h.below⟩
theorem own_far {W W' : World} {base : Nat} {e : TypeId} {size n : Nat} {v : Value} {xs : List Value} {k : Nat} (h : W.ownsRow base e size v n xs) (hg : W.grownBy W' (some k)) (hk : k < base) : W'.ownsRow base e size v n xs := by
  refine h.kept hg ?_
  cases hv : v.ownBlock with
  | none => exact Or.inl rfl
  | some g =>
    refine Or.inr fun e => ?_
    have := (h.lt g hv).1
    have : g = k := by simpa using e
    omega
theorem copied_far {W W' : World} {base : Nat} {v : Value} {R : List Ro} {k : Nat} (h : Copied W v R base) (hg : W.grownBy W' (some k)) (hk : k < base) : Copied W' v R base :=
  ⟨own_far h.row hg hk, fun x hx => own_far (h.over x hx) hg hk⟩

set_option maxHeartbeats 8000000 in
set_option maxRecDepth 100000 in
theorem of_any {c : Con} {n : Nat} {v : Value} {w : World} (hv : IsC c v w) (h : Mut.Good c n) (hn : n ≤ 1000) : Calls Tryd.prog 21 #[v] w fun e w' => e = .returned (.agg (vT (treeF (allF c)))) ∧ Below w.heap.size w w' := by
  obtain ⟨o1, n1, k1, o2, n2, k2, o3, n3, k3, rfl, hlc⟩ := hv.form
  have HV := Lib.hid hlc
  have HGD := Lib.hid h
  have HNM := Lib.hid (show ∀ m ∈ allF c, NumM m from fun m hm => num_right (h.okc.right m (mem_allF.1 hm)))
  have hlen := len_allF c
  have hO := h.okc.len
  have HLN := Lib.hid (And.intro hlen hO)
  clear hlc hv h hlen hO
  obtain ⟨T, hT⟩ : ∃ T, T = treeF (allF c) := ⟨_, rfl⟩
  have HTT := Lib.hid hT
  rw [← hT]
  have HTW := Lib.hid (show Wide T from by rw [hT]; exact treeF_wide _)
  clear hT
  have hZs : (Tryd.prog.info? 82).map (·.size) = some (vT fun _ => 0).size := by rw [vT_size]; exact size52
  have hZ1 := vT_one (fun _ => 0)
  obtain ⟨Z, hZ⟩ : ∃ Z, Z = vT fun _ => 0 := ⟨_, rfl⟩
  rw [← hZ] at hZs hZ1
  have HZ := Lib.hid hZ
  have HZS := Lib.hid hZs
  have HZ1 := Lib.hid hZ1
  clear hZ hZs hZ1
  go_enter Tryd.func21, Tryd.ntmps21
  go_upto_region 1 with (first | (refine wp_alloc_tree rfl rfl Z HZ.out ?_))
  apply wp_region_lit
  refine wp_build_tree rfl rfl Z HZ.out ?_
  refine wp_alloc_tree rfl rfl Z HZ.out ?_
  refine wpList_store_row rfl 82 _ _ rfl _ Z rfl rfl 82 Z (heap_alloc_last _ _) HZS.out rfl HZ1.out ?_
  rw [World.setRow_alloc_new]
  obtain ⟨W, hW⟩ : ∃ W, W = ((w.alloc (.cells #[.slice o1 n1 k1, .slice o2 n2 k2, .slice o3 n3 k3] 61)).alloc (.cells Z 82)).alloc (.cells Z 82) := ⟨_, rfl⟩
  have hw3 : W.heap = ((w.heap.push (.cells #[.slice o1 n1 k1, .slice o2 n2 k2, .slice o3 n3 k3] 61)).push (.cells Z 82)).push (.cells Z 82) := by rw [hW]; rfl
  have hC : W.heap[w.heap.size]? = some (.cells #[.slice o1 n1 k1, .slice o2 n2 k2, .slice o3 n3 k3] 61 (0, 0)) := by rw [hw3]; exact (push3 w.heap _ _ _).1
  have hR : TreeAt W 82 (w.heap.size + 1) fun _ => 0 := by unfold TreeAt; rw [hw3, ← HZ.out]; exact (push3 w.heap _ _ _).2.1
  have hT : TreeAt W 82 (w.heap.size + 1 + 1) fun _ => 0 := by unfold TreeAt; rw [hw3, ← HZ.out]; exact (push3 w.heap _ _ _).2.2
  have hb0 : Below w.heap.size w W := by rw [hW]; exact (((Below.refl _ _).alloc (Nat.le_refl _) _).alloc (by simp) _).alloc (by simp; omega) _
  rw [← hW]
  have S0 : OfC w w.heap.size #[.slice o1 n1 k1, .slice o2 n2 k2, .slice o3 n3 k3] (fun _ => 0) W := ⟨hT, hR, hC, hb0⟩
  have S1 := Lib.hid (S0.ext (a' := leaves 0) (fun j _ => by unfold leaves; rw [if_neg (by omega)]))
  clear hW hw3 hC hR hT hb0 S0
  go_upto_region 3 with fail
  go_loopw [10] (fun iv wr => ∃ i : Nat, iv = .int .i64 i ∧ i ≤ 16 ∧ Hid (OfC w w.heap.size #[.slice o1 n1 k1, .slice o2 n2 k2, .slice o3 n3 k3] (leaves i) wr)) (fun iv _ => 16 - (intOf iv).toNat)
  case atStart => exact ⟨0, rfl, by omega, S1⟩
  case round =>
    obtain ⟨i, rfl, hi, hs⟩ := hrel
    by_cases hlt : i < 16
    · have m1 : IntKind.i64.wrap (16 + (i : Int)) = 16 + (i : Int) := IntWalk.i64_in _ (by omega)
      have m2 : (0 : Int) ≤ 16 + (i : Int) := by omega
      have m3 : (16 + (i : Int)).toNat = 16 + i := by omega
      have m4 : 16 + (i : Int) < 32 := by omega
      have m5 : 16 + i < 32 := by omega
      have c1 := hs.out.tree.cell (i := 16 + i) m5
      have f1 := hs.out.tree.frozen (16 + i)
      have S2 := Lib.hid ((hs.out.set (16 + i) (lev 0)).ext leaves_next)
      go_wp2_with fail
      go_roundw
      case rel => exact ⟨i + 1, by go_num, by omega, S2⟩
      case measure => simp [intOf]; omega
    · obtain rfl : i = 16 := by omega
      have S3 := hs
      have g0 : wr.cell? ⟨w.heap.size, 0, none⟩ = some (.slice o1 n1 k1) := by rw [cell_of_row wr w.heap.size 0 #[.slice o1 n1 k1, .slice o2 n2 k2, .slice o3 n3 k3] _ (0, 0) hs.out.con]; rfl
      have g1 : wr.cell? ⟨w.heap.size, 1, none⟩ = some (.slice o2 n2 k2) := by rw [cell_of_row wr w.heap.size 1 #[.slice o1 n1 k1, .slice o2 n2 k2, .slice o3 n3 k3] _ (0, 0) hs.out.con]; rfl
      have g2 : wr.cell? ⟨w.heap.size, 2, none⟩ = some (.slice o3 n3 k3) := by rw [cell_of_row wr w.heap.size 2 #[.slice o1 n1 k1, .slice o2 n2 k2, .slice o3 n3 k3] _ (0, 0) hs.out.con]; rfl
      have hal := Lib.hid (c_all (n := n) (HV.out.below hs.out.below).is HGD.out (by omega))
      have hbase : w.heap.size + 1 + 1 < wr.heap.size := hs.out.tree.lt
      obtain ⟨base, hbs⟩ : ∃ b, b = wr.heap.size := ⟨_, rfl⟩
      rw [← hbs] at hal hbase
      have HBS0 := Lib.hid hbs
      clear hbs
      go_wp2_with fail
      refine hal.out.mono ?_
      rintro e w2 ⟨g, cap, R, rfl, hcp, hm, hb2⟩
      have S4 := Lib.hid (S3.out.later (by rw [← HBS0.out]; exact hb2))
      have HCP := Lib.hid hcp
      have HM := Lib.hid hm
      have hl1 : R.length ≤ 1000 := by have h1 := congrArg List.length hm; rw [List.length_map] at h1; have := HLN.out; omega
      obtain ⟨nr, hnr⟩ : ∃ k, k = R.length := ⟨_, rfl⟩
      rw [← hnr] at HCP hl1 ⊢
      have HNR := Lib.hid hnr
      clear hcp hm hb2 hnr hal g0 g1 g2 hs S3
      go_wp2_with fail
      go_loopw [20] (fun iv wr => ∃ k : Nat, k ≤ nr ∧ iv = .int .i64 k ∧ Hid (OfC w w.heap.size #[.slice o1 n1 k1, .slice o2 n2 k2, .slice o3 n3 k3] (leafT ((R.take k).map (·.1))) wr) ∧ Hid (Copied wr (.slice (some ⟨g, 0, none⟩) nr cap) R base)) (fun iv _ => nr - (intOf iv).toNat)
      case atStart => exact ⟨0, by omega, rfl, S4, HCP⟩
      case round =>
        obtain ⟨k, hk, rfl, hs, hcp⟩ := hrel
        by_cases hlt : k < nr
        · obtain ⟨x, hx⟩ : ∃ x, R[k]? = some x := ⟨_, List.getElem?_eq_getElem (by have := HNR.out; omega)⟩
          have htk : (R.take (k + 1)).map (·.1) = (R.take k).map (·.1) ++ [x.1] := by rw [List.take_add_one, hx]; simp
          have hmr : MRow wr (.slice (some ⟨g, 0, none⟩) nr cap) R := hcp.out.mrow
          obtain ⟨xb, xoff, hao, hat⟩ := hmr.at_ hx
          cases hao
          rw [Nat.zero_add] at hat
          have hov := hmr.over x (List.mem_of_getElem? hx)
          obtain ⟨xo, xc, xe, -, -⟩ := Over.form hov
          have HNX := Lib.hid (HNM.out x.1 (by rw [← HM.out]; exact List.mem_map.2 ⟨x, List.mem_of_getElem? hx, rfl⟩))
          have HOV := Lib.hid hov
          have HXE := Lib.hid xe
          obtain ⟨t, ht⟩ : ∃ t, t = leafT ((R.take k).map (·.1)) := ⟨_, rfl⟩
          have HTK := Lib.hid (show leafT ((R.take (k + 1)).map (·.1)) = leafS t x.1 from by rw [htk, leafT_snoc, ht])
          have HWT := Lib.hid (show Wide t from by rw [ht]; exact leafT_wide _)
          rw [← ht] at hs
          clear hmr hx htk hov ht
          obtain ⟨hbl0, a0, a1, a2, a3, a4, a5, a6, a7, a8, a9⟩ := hat
          rw [xe] at a9
          clear xe
          have j0 : (0 : Int) ≤ (k : Int) := by omega
          have j1 : (k : Int) < (nr : Int) := by omega
          go_upto_region 10 with fail
          obtain ⟨W2, hW2⟩ : ∃ W, W = wr.alloc (.cells #[.int .i64 x.1.table, .int .i64 x.1.kind, .string x.1.key, .string x.1.fin, .string x.1.val, .int .i64 x.1.expiry, .int .i64 x.1.at_.p, .int .i64 x.1.at_.l, .int .i64 x.1.at_.w, .slice xo x.1.over.length xc] 43) := ⟨_, rfl⟩
          rw [← hW2]
          obtain ⟨nv, hnv⟩ : ∃ k, k = wr.heap.size := ⟨_, rfl⟩
          rw [← hnv]
          have hb2 : Below wr.heap.size wr W2 := by rw [hW2]; exact (Below.refl _ wr).alloc (Nat.le_refl _) _
          have hbx : W2.heap[nv]? = some (.cells #[.int .i64 x.1.table, .int .i64 x.1.kind, .string x.1.key, .string x.1.fin, .string x.1.val, .int .i64 x.1.expiry, .int .i64 x.1.at_.p, .int .i64 x.1.at_.l, .int .i64 x.1.at_.w, .slice xo x.1.over.length xc] 43 (0, 0)) := by rw [hW2, hnv]; exact heap_alloc_new wr _
          have S5 := Lib.hid (hs.out.later hb2)
          have C5 := Lib.hid (hcp.out.below hb2)
          have HO5 := Lib.hid (HOV.out.below hb2)
          have HBX := Lib.hid hbx
          have m2 : W2.cell? ⟨nv, 2, none⟩ = some (.string x.1.key) := by rw [cell_of_row W2 nv 2 _ _ (0, 0) hbx]; rfl
          have hnv2 : nv < W2.heap.size := (Array.getElem?_eq_some_iff.1 hbx).1
          clear hW2 hb2 hbx hnv a0 a1 a2 a3 a4 a5 a6 a7 a8 a9 hs hcp HOV hbl0
          obtain ⟨ib, hib⟩ : ∃ i, i = 16 + bucketF x.1.key := ⟨_, rfl⟩
          have hi32 : ib < 32 := by have := bucketF_lt x.1.key; omega
          obtain ⟨bk, hbk⟩ : ∃ i, i = bucketF x.1.key := ⟨_, rfl⟩
          have hbk2 : ib = 16 + bk := by rw [hib, hbk]
          have HBK := Lib.hid (bucket_any x.1.key W2 (by have := HNX.out.key; omega))
          rw [← hbk] at HBK
          have HIB := Lib.hid hib
          clear hib hbk
          go_wp2_with fail
          refine HBK.out.mono ?_
          rintro e W6 ⟨rfl, hb⟩
          have S6 := Lib.hid (S5.out.later hb)
          have C6 := Lib.hid (C5.out.below hb)
          have HO6 := Lib.hid (HO5.out.below hb)
          have HBX6 := Lib.hid ((hb.block nv hnv2).trans HBX.out)
          have hnv6 : nv < W6.heap.size := Nat.lt_of_lt_of_le hnv2 hb.size
          have q1 : IntKind.i64.wrap (16 + (bk : Int)) = (ib : Int) := by rw [IntWalk.i64_in _ (by omega)]; omega
          clear hb S5 C5 HO5 HBX m2 hnv2 HBK
          go_upto_region 11 with fail
          have q2 : (16 + (bk : Int)) = (ib : Int) := by omega
          rw [q2]
          clear q1 q2 hbk2
          obtain ⟨y, hy⟩ : ∃ y, y = t ib := ⟨_, rfl⟩
          obtain ⟨z, hz⟩ : ∃ z, z = sumF y (bytesM x.1) := ⟨_, rfl⟩
          have hy64 : y < 18446744073709551616 := by rw [hy]; exact HWT.out ib hi32
          have HZ2 := Lib.hid (show leafS t x.1 = upd t ib z from by unfold leafS; rw [hz, hy, HIB.out])
          have HSUM := Lib.hid (fun (v : Value) (W : World) (hv : BRow W v (bytesM x.1)) => show Calls Tryd.prog 40 #[.int .u64 y, v] W (fun e w' => e = .returned (.int .u64 (z : Nat)) ∧ W = w') from by
            rw [hz]
            exact sum_any y (bytesM x.1) v W hy64 hv (bytesM_byte _) (by have := bytesM_len HNX.out; omega))
          have HTC := Lib.hid (fun (W : World) (hW : Below W6.heap.size W6 W) => show W.cell? ⟨w.heap.size + 1 + 1, ib, none⟩ = some (.int .u64 (y : Nat)) from by rw [hy]; exact (S6.out.later hW).tree.cell hi32)
          have HMC := Lib.hid (fun (W : World) (hW : Below W6.heap.size W6 W) => show W.cell? ⟨nv, 0, none⟩ = some (.int .i64 x.1.table) ∧ W.cell? ⟨nv, 1, none⟩ = some (.int .i64 x.1.kind) ∧ W.cell? ⟨nv, 2, none⟩ = some (.string x.1.key) ∧ W.cell? ⟨nv, 3, none⟩ = some (.string x.1.fin) ∧ W.cell? ⟨nv, 4, none⟩ = some (.string x.1.val) ∧ W.cell? ⟨nv, 5, none⟩ = some (.int .i64 x.1.expiry) ∧ W.cell? ⟨nv, 6, none⟩ = some (.int .i64 x.1.at_.p) ∧ W.cell? ⟨nv, 7, none⟩ = some (.int .i64 x.1.at_.l) ∧ W.cell? ⟨nv, 8, none⟩ = some (.int .i64 x.1.at_.w) ∧ W.cell? ⟨nv, 9, none⟩ = some (.slice xo x.1.over.length xc) from by
            have h1 := (hW.block nv hnv6).trans HBX6.out
            exact ⟨cell_of_row W nv 0 _ _ _ h1, cell_of_row W nv 1 _ _ _ h1, cell_of_row W nv 2 _ _ _ h1, cell_of_row W nv 3 _ _ _ h1, cell_of_row W nv 4 _ _ _ h1, cell_of_row W nv 5 _ _ _ h1, cell_of_row W nv 6 _ _ _ h1, cell_of_row W nv 7 _ _ _ h1, cell_of_row W nv 8 _ _ _ h1, cell_of_row W nv 9 _ _ _ h1⟩)
          have HPUT := Lib.hid (fun (W : World) (hW : Below W6.heap.size W6 W) => show Calls Tryd.prog 41 #[.slice none 0 0, .agg #[.int .i64 x.1.table, .int .i64 x.1.kind, .string x.1.key, .string x.1.fin, .string x.1.val, .int .i64 x.1.expiry, .int .i64 x.1.at_.p, .int .i64 x.1.at_.l, .int .i64 x.1.at_.w, .slice xo x.1.over.length xc]] W (BytesPost W (bytesM x.1)) from by
            have h1 := mutbytes_any x W (HO6.out.below hW) HNX.out
            unfold vM at h1
            rw [HXE.out] at h1
            exact h1)
          have i0 : (0 : Int) ≤ (ib : Int) := by omega
          have i1 : (ib : Int) < 32 := by omega
          clear hy hz
          refine wp_region_told [] 8 [false, false, false, false, false, false, false, false, false, false, false, false, false, false, false, false, false, false, false, false, false, false, false, false, false, false, false, false, true, true, true, true, true, true, true, true, false, false, false, false, false, false, false, false, false, false, false, false, false, false, false, false, false, false]
            [sLit (.int .i64 ib),
    sLit (.int .i64 ib),
    sLit (.pointer (some ⟨w.heap.size + 1 + 1, ib, none⟩)),
    sLit (.int .u64 (y : Nat)),
    sLit (.agg #[.int .i64 x.1.table, .int .i64 x.1.kind, .string x.1.key, .string x.1.fin, .string x.1.val, .int .i64 x.1.expiry, .int .i64 x.1.at_.p, .int .i64 x.1.at_.l, .int .i64 x.1.at_.w, .slice xo x.1.over.length xc]),
    sOne (fun v W => BRow W v (bytesM x.1)) (fun _ _ _ h hb => Lst.below h hb),
    sLit (.int .u64 (z : Nat)),
    sLit (.pointer (some ⟨w.heap.size + 1 + 1, ib, none⟩))] (by kernel_rfl) (by kernel_rfl) (by kernel_rfl) (fun F hF => ?_)
          simp only [over, overL, Nat.reduceAdd] at hF
          obtain rfl := funext hF
          clear hF
          refine ⟨⟨?_, ?_, ?_, ?_, ?_, ?_, ?_, ?_, trivial⟩, ?_⟩
          · intro V W hb hd K hK _
            clear hd
            go_wp2_with fail
            refine hK _ _ ?_ ?_ ?_ ?_
            · rfl
            · exact Below.refl _ _
            · exact rfl
            · trivial
          · intro V W hb hd K hK _
            clear hd
            go_wp2_with fail
            refine hK _ _ ?_ ?_ ?_ ?_
            · rfl
            · exact Below.refl _ _
            · exact rfl
            · trivial
          · intro V W hb hd K hK _
            have h1 : (V 29) = .int .i64 ib := hd 1 (by kernel_rfl)
            clear hd
            go_wp2_with fail
            refine hK _ _ ?_ ?_ ?_ ?_
            · rfl
            · exact Below.refl _ _
            · exact rfl
            · trivial
          · intro V W hb hd K hK _
            have h2 : (V 30) = .pointer (some ⟨w.heap.size + 1 + 1, ib, none⟩) := hd 2 (by kernel_rfl)
            clear hd
            have c1 := HTC.out W hb
            go_wp2_with fail
            refine hK _ _ ?_ ?_ ?_ ?_
            · rfl
            · exact Below.refl _ _
            · exact rfl
            · trivial
          · intro V W hb hd K hK _
            clear hd
            obtain ⟨m0, m1, m2, m3, m4, m5, m6, m7, m8, m9⟩ := HMC.out W hb
            go_wp2_with fail
            refine hK _ _ ?_ ?_ ?_ ?_
            · rfl
            · exact Below.refl _ _
            · exact rfl
            · trivial
          · intro V W hb hd K hK _
            have h4 : (V 32) = .agg #[.int .i64 x.1.table, .int .i64 x.1.kind, .string x.1.key, .string x.1.fin, .string x.1.val, .int .i64 x.1.expiry, .int .i64 x.1.at_.p, .int .i64 x.1.at_.l, .int .i64 x.1.at_.w, .slice xo x.1.over.length xc] := hd 4 (by kernel_rfl)
            clear hd
            go_wp2_with fail
            refine (HPUT.out W hb).mono ?_
            rintro e w1 ⟨v1, rfl, hv1, hb1⟩
            go_wp2_with fail
            refine hK _ _ ?_ ?_ ?_ ?_
            · rfl
            · exact hb1
            · exact hv1
            · trivial
          · intro V W hb hd K hK _
            have h3 : (V 31) = .int .u64 (y : Nat) := hd 3 (by kernel_rfl)
            have h5 : BRow W (V 33) (bytesM x.1) := hd 5 (by kernel_rfl)
            clear hd
            go_wp2_with fail
            refine (HSUM.out _ W h5).mono ?_
            rintro e w1 ⟨rfl, rfl⟩
            go_wp2_with fail
            refine hK _ _ ?_ ?_ ?_ ?_
            · rfl
            · exact Below.refl _ _
            · exact rfl
            · trivial
          · intro V W hb hd K hK _
            have h0 : (V 28) = .int .i64 ib := hd 0 (by kernel_rfl)
            clear hd
            go_wp2_with fail
            refine hK _ _ ?_ ?_ ?_ ?_
            · rfl
            · exact Below.refl _ _
            · exact rfl
            · trivial
          · intro V W hb hd hap
            have h6 : (V 34) = .int .u64 (z : Nat) := hd 6 (by decide)
            have h7 : (V 35) = .pointer (some ⟨w.heap.size + 1 + 1, ib, none⟩) := hd 7 (by decide)
            clear hd hap
            simp only [List.drop_succ_cons, List.drop_zero]
            have S7 := S6.out.later hb
            have cq := S7.tree.cell (i := ib) hi32
            have fq := S7.tree.frozen ib
            have S8 := Lib.hid (show OfC w w.heap.size #[.slice o1 n1 k1, .slice o2 n2 k2, .slice o3 n3 k3] (leafT ((R.take (k + 1)).map (·.1))) (W.setCell ⟨w.heap.size + 1 + 1, ib, none⟩ (.int .u64 (z : Nat))) from by rw [HTK.out, HZ2.out]; exact S7.set ib z)
            have C8 := Lib.hid (copied_far (C6.out.below hb) (OfC.grow w.heap.size ib z) hbase)
            clear S7 hb
            go_wp2_with fail
            go_roundw
            case rel => exact ⟨k + 1, by omega, by go_num, S8, C8⟩
            case measure => simp [intOf]; omega
        · obtain rfl : k = nr := by omega
          have S9 := Lib.hid (show OfC w w.heap.size #[.slice o1 n1 k1, .slice o2 n2 k2, .slice o3 n3 k3] (leafT (allF c)) wr from by have h := hs.out; rw [List.take_of_length_le (by rw [← HNR.out]; exact Nat.le_refl _), HM.out] at h; exact h)
          have HW9 := Lib.hid (leafT_wide (allF c))
          have HT9 := Lib.hid (show nodesT 15 (leafT (allF c)) = T from by rw [HTT.out]; rfl)
          clear hs hcp
          go_wp2_with fail
          go_loopw [8] (fun iv wr => ∃ (i : Nat) (t : Nat → Nat), iv = .int .i64 i ∧ i ≤ 15 ∧ Hid (OfC w w.heap.size #[.slice o1 n1 k1, .slice o2 n2 k2, .slice o3 n3 k3] t wr) ∧ Hid (Wide t) ∧ Hid (nodesT i t = T)) (fun iv _ => (intOf iv).toNat)
          case atStart => exact ⟨15, _, rfl, by omega, S9, HW9, HT9⟩
          case round =>
            obtain ⟨i, t, rfl, hi, hs, hwt, htt⟩ := hrel
            by_cases h0 : 0 < i
            · obtain ⟨j, hj⟩ : ∃ j, j = 2 * i := ⟨_, rfl⟩
              have m1 : IntKind.i64.wrap (2 * (i : Int)) = (j : Int) := by rw [IntWalk.i64_in _ (by omega)]; omega
              have m2 : IntKind.i64.wrap ((j : Int) + 1) = (j : Int) + 1 := IntWalk.i64_in _ (by omega)
              have m3 : (0 : Int) ≤ (j : Int) + 1 := by omega
              have m4 : ((j : Int) + 1).toNat = j + 1 := by omega
              have m5 : j < 32 := by omega
              have m6 : j + 1 < 32 := by omega
              have m7 : (j : Int) + 1 < 32 := by omega
              have m8 : IntKind.i64.wrap ((i : Int) - 1) = ((i - 1 : Nat) : Int) := by rw [IntWalk.i64_in _ (by omega)]; omega
              have m9 : i < 32 := by omega
              have c2 := hs.out.tree.cell (i := j) m5
              have c3 := hs.out.tree.cell (i := j + 1) m6
              have hnd := fun w' => node_any (t j) (t (j + 1)) w' (hwt.out j m5) (hwt.out (j + 1) m6)
              obtain ⟨z, hz⟩ : ∃ z, z = nodeF (t j) (t (j + 1)) := ⟨_, rfl⟩
              have HTT2 := Lib.hid (show nodesT (i - 1) (upd t i z) = T from by
                have h := htt.out
                obtain ⟨i', rfl⟩ : ∃ k, i = k + 1 := ⟨i - 1, by omega⟩
                rw [hz, hj]
                exact h)
              have HWT2 := Lib.hid (show Wide (upd t i z) from upd_wide hwt.out _ _ (by rw [hz]; exact nodeF_lt _ _))
              rw [← hz] at hnd
              generalize t j = x at *
              generalize t (j + 1) = y at *
              have HND := Lib.hid hnd
              have hT := hs.out.tree.lt
              obtain ⟨W0, rfl⟩ : ∃ W0 : World, W0 = wr := ⟨_, rfl⟩
              clear hnd hz hj htt hwt
              go_wp2_with fail
              refine wp_region_calm_tail 12 (by kernel_rfl) (by kernel_rfl) ?_
              simp only [List.take_succ_cons, List.take_zero, List.drop_succ_cons, List.drop_zero]
              repeat (go_big_quiet_step ((go_at_call 42; exact calm (HND.out _))))
              refine wpQuiet_nil ?_
              rintro _ ⟨q, rfl⟩
              have hsq := hs.out.later q.below
              have cq := hsq.tree.cell (i := i) m9
              have fq := hsq.tree.frozen i
              have S5 := Lib.hid (hsq.set i z)
              clear hsq
              go_wp2_with fail
              go_roundw
              case rel => exact ⟨i - 1, _, by first | rfl | go_num, by omega, S5, HWT2, HTT2⟩
              case measure => simp [intOf]; omega
            · obtain rfl : i = 0 := by omega
              have htT : t = T := htt.out
              have S6 := Lib.hid (show OfC w w.heap.size #[.slice o1 n1 k1, .slice o2 n2 k2, .slice o3 n3 k3] T wr from by rw [← htT]; exact hs.out)
              clear hs hwt htt htT
              have hsz : (Tryd.prog.info? 82).map (·.size) = some (vT T).size := by rw [vT_size]; exact size52
              have hone := vT_one T
              have hq : (vT fun _ => 0).size = (vT T).size := by rw [vT_size, vT_size]
              obtain ⟨Y, hY⟩ : ∃ Y, Y = vT T := ⟨_, rfl⟩
              obtain ⟨Y0, hY0⟩ : ∃ Y, Y = vT fun _ => 0 := ⟨_, rfl⟩
              have h6t : wr.heap[w.heap.size + 1 + 1]? = some (.cells Y 82 (0, 0)) := by rw [hY]; exact S6.out.tree
              have h6r : wr.heap[w.heap.size + 1]? = some (.cells Y0 82 (0, 0)) := by rw [hY0]; exact S6.out.res
              rw [← hY] at hsz hone hq
              have HY := Lib.hid hY
              rw [← hY0] at hq
              have h7 : (wr.setRow (w.heap.size + 1) Y).heap[w.heap.size + 1]? = some (.cells Y 82 (0, 0)) := setRow_heap _ _ _ _ _ _ h6r
              have h8 : Below w.heap.size w (wr.setRow (w.heap.size + 1) Y) := below_setRow S6.out.below (by omega) _
              have HSZ := Lib.hid hsz
              have HONE := Lib.hid hone
              have HQ := Lib.hid hq
              have H6T := Lib.hid h6t
              have H6R := Lib.hid h6r
              have H7 := Lib.hid h7
              have H8 := Lib.hid h8
              clear hsz hone hq hY hY0 h6t h6r h7 h8
              go_upto_region 17 with fail
              apply wp_region_lit
              refine wpList_load_row rfl 82 _ rfl (w.heap.size + 1 + 1) rfl 82 Y (0, 0) _ H6T.out Tryd.underlying82 rfl HSZ.out ?_
              refine wpList_store_row rfl 82 _ _ rfl (w.heap.size + 1) Y rfl rfl 82 Y0 H6R.out HSZ.out HQ.out HONE.out ?_
              go_wp2_with fail
              refine bodyPost_ret (v := .agg Y) (results_cell_row rfl _ _ (w.heap.size + 1) 82 Y (0, 0) _ rfl H7.out Tryd.underlying82 rfl HSZ.out) rfl ⟨by rw [HY.out], H8.out⟩
end Go.Proofs.YtkdgbkhnnehedaaDoor.Mrk

namespace Go.Proofs.YtkdgbkhnnehedaaDoor.Mrk
open Go.RowKit Go.Proofs.YtkdgbkhnnehedaaDoor.Ints

theorem wpList_load_row_w {P : Program} {ops : Array Oper} {rest : List Oper} {o : Oper} {a : Act} {w : World} {Q : Exit → Act → World → Prop} (hw : Region.wanted o (yielded ops a.tmps) = true) (ty : TypeId) (x : Operand) (ho : o.op = .load ty x)
    (g : Nat) (hx : a.eval x = .pointer (some ⟨g, 0, none⟩)) (t : TypeId) (cs : Array Value) (fr : Nat × Nat) (d : TypeDesc) (hg : w.heap[g]? = some (.cells cs t fr))
    (hu : P.underlying ty = some d) (hd : (match d with | .struct _ | .array _ _ => true | _ => false) = true) (hi : (P.info? ty).map (·.size) = some cs.size)
    (h : wpList P ops Q rest (a.put o.dst (.agg cs)) w) : wpList P ops Q (o :: rest) a w :=
  wpList_step fun _ hK => by rw [if_pos hw]; exact wp_load_row ty x ho g hx t cs fr d hg hu hd hi (hK _ _ h)
theorem same_down (a : Nat → Nat) : downF (sameAt a a) 4 1 = ([], 1) := by
  unfold downF
  rw [show sameAt a a 1 = true by simp [sameAt]]
  rfl
theorem noneT_sound : soundF noneT = true := soundF_yes noneT_ok
theorem noneT_root : noneT 1 = lev 4 := rfl

set_option maxHeartbeats 4000000 in
set_option maxRecDepth 100000 in
theorem alive_any (w : World) : Calls Tryd.prog 25 #[] w fun e w' => e = .returned (.bool true) ∧ Below w.heap.size w w' := by
  have hsz : (Tryd.prog.info? 82).map (·.size) = some (vT noneT).size := by rw [vT_size]; exact size52
  have hone := vT_one noneT
  have hzs : (vT fun _ => 0).size = (vT noneT).size := by rw [vT_size, vT_size]
  have hof := of_none
  have hdf := differ_any noneT noneT
  rw [same_down] at hdf
  have hso := fun w => sound_any noneT w noneT_wide
  rw [noneT_sound] at hso
  have hro := root_any noneT
  rw [noneT_root] at hro
  have hr0 : ¬ lev 4 = 0 := lev4
  obtain ⟨r, hr⟩ : ∃ r, r = lev 4 := ⟨_, rfl⟩
  rw [← hr] at hro hr0
  obtain ⟨Y, hY⟩ : ∃ Y, Y = vT noneT := ⟨_, rfl⟩
  obtain ⟨Z, hZ⟩ : ∃ Y, Y = vT fun _ => 0 := ⟨_, rfl⟩
  rw [← hY] at hsz hone hof hdf hso hro
  rw [← hY, ← hZ] at hzs
  unfold vNone at hof
  have HSZ := Lib.hid hsz
  have HONE := Lib.hid hone
  have HZS := Lib.hid hzs
  have HOF := Lib.hid hof
  have HDF := Lib.hid hdf
  have HSO := Lib.hid hso
  have HRO := Lib.hid hro
  have HZ := Lib.hid hZ
  have hrd : decide ((r : Int) = 0) = false := by simp; omega
  clear hsz hone hof hdf hso hro hr hY hZ hzs
  go_enter Tryd.func25, Tryd.ntmps25
  go_wp2_with fail
  refine (HOF.out _).mono ?_
  rintro e w1 ⟨rfl, hb1⟩
  go_upto_region 2 with (first | (refine wp_alloc_tree rfl rfl Z HZ.out ?_) | (refine wpList_store_row rfl 82 _ _ rfl w1.heap.size Y rfl rfl 82 Z (heap_alloc_last w1 _) HSZ.out HZS.out HONE.out ?_))
  rw [World.setRow_alloc_new]
  have hT : (w1.alloc (.cells Y 82)).heap[w1.heap.size]? = some (.cells Y 82 (0, 0)) := heap_alloc_last w1 _
  have hb2 : Below w.heap.size w (w1.alloc (.cells Y 82)) := hb1.alloc hb1.size _
  obtain ⟨W, hW⟩ : ∃ W, W = w1.alloc (.cells Y 82) := ⟨_, rfl⟩
  rw [← hW] at hT hb2 ⊢
  obtain ⟨g, hg⟩ : ∃ g, g = w1.heap.size := ⟨_, rfl⟩
  rw [← hg] at hT ⊢
  have HT := Lib.hid hT
  have hlt : g < W.heap.size := (Array.getElem?_eq_some_iff.1 hT).1
  clear hT hg hW
  go_wp2_with (refine wpList_load_row rfl 82 _ rfl g rfl 82 Y (0, 0) _ HT.out Tryd.underlying82 rfl HSZ.out ?_)
  refine (HDF.out _).mono ?_
  rintro e w3 ⟨v, rfl, hrow, hb3⟩
  obtain ⟨ao, cap, rfl⟩ := row_form hrow
  have HT3 : Hid (w3.heap[g]? = some (.cells Y 82 (0, 0))) := Lib.hid ((hb3.block g hlt).trans HT.out)
  have hlt3 : g < w3.heap.size := Nat.lt_of_lt_of_le hlt hb3.size
  clear hrow
  go_wp2_with (refine wpList_load_row_w rfl 82 _ rfl g rfl 82 Y (0, 0) _ HT3.out Tryd.underlying82 rfl HSZ.out ?_)
  refine (HSO.out _).mono ?_
  rintro e w4 ⟨rfl, hb4⟩
  have HT4 : Hid (w4.heap[g]? = some (.cells Y 82 (0, 0))) := Lib.hid ((hb4.block g hlt3).trans HT3.out)
  go_wp2_with (refine wpList_load_row_w rfl 82 _ rfl g rfl 82 Y (0, 0) _ HT4.out Tryd.underlying82 rfl HSZ.out ?_)
  refine (HRO.out _).mono ?_
  rintro e w5 ⟨rfl, hb5⟩
  go_wp2_with fail
  go_ret
  exact ⟨ret_bool (by simp; omega), ((hb2.trans (hb3.mono hb2.size)).trans (hb4.mono (Nat.le_trans hb2.size hb3.size))).trans (hb5.mono (Nat.le_trans hb2.size (Nat.le_trans hb3.size hb4.size)))⟩
end Go.Proofs.YtkdgbkhnnehedaaDoor.Mrk

namespace Go.Proofs.YtkdgbkhnnehedaaDoor.ArrEq
open Go

theorem run_equalIn_array {P : Program} (w : World) (d len : Nat) (t e : TypeId) (xs ys : Array Value) (i1 : TypeInfo) (ht : P.underlying t = some (.array len e)) (hi : P.info? e = some i1) (hs : i1.size = 1)
    (h : ∀ i, i < len → ∃ a b, (∀ w, (part e xs i).run P w = .ok a w) ∧ (∀ w, (part e ys i).run P w = .ok b w) ∧ ∀ w, (Op.equalIn d e a b).run P w = .ok true w) :
    (Op.equalIn (d + 1) t (.agg xs) (.agg ys)).run P w = .ok true w := by
  simp only [Op.equalIn, Sem.run_bind, run_underlying ht, Result.andThen_ok, sizeOf, typeInfo, run_program, hi, Sem.run_pure]
  simp only [hs, Nat.mul_one]
  rw [Std.Legacy.Range.forIn_eq_forIn_range']
  have key : ∀ (l : List Nat), (∀ i ∈ l, i < len) → ∀ w, ((forIn (m := Sem) l ((none, ()) : Option Bool × Unit) fun i r => do
      let a ← part e xs i
      let b ← part e ys i
      let r ← Op.equalIn d e a b
      if (!r) = true then pure (ForInStep.done (some false, ())) else pure (ForInStep.yield (none, ())))).run P w = .ok (none, ()) w := by
    intro l
    induction l with
    | nil => intro _ w; simp
    | cons i l ih =>
      intro hl w
      obtain ⟨a, b, h1, h2, h3⟩ := h i (hl i (by simp))
      simp only [List.forIn_cons, Sem.run_bind, h1, h2, h3, Result.andThen_ok, Bool.not_true, Bool.false_eq_true, if_false, Sem.run_pure, Sem.run_ite]
      exact ih (fun j hj => hl j (by simp [hj])) w
  have := key (List.range' 0 len 1) (fun i hi => by simpa using hi) w
  have e : ([:len] : Std.Legacy.Range).size = len := by simp [Std.Legacy.Range.size]
  rw [e]
  show ((Sem.run P (forIn (List.range' 0 len 1) _ _) w).andThen _) = _
  rw [this]
  simp
theorem run_part_int {P : Program} (w : World) (e : TypeId) (k : IntKind) (cs : Array Value) (i : Nat) (v : Value) (he : P.underlying e = some (.int k)) (h : cs[i]? = some v) : (part e cs i).run P w = .ok v w := by
  simp [part, isAgg, run_underlying he, h]
theorem run_part_string {P : Program} (w : World) (e : TypeId) (cs : Array Value) (i : Nat) (v : Value) (he : P.underlying e = some .string) (h : cs[i]? = some v) : (part e cs i).run P w = .ok v w := by
  simp [part, isAgg, run_underlying he, h]
/-- An array of numbers is the same as itself. -/
theorem run_eql_ints {P : Program} (w : World) (len : Nat) (t e : TypeId) (k : IntKind) (xs : Array Value) (ht : P.underlying t = some (.array len e)) (hi : (P.info? e).map (·.size) = some 1) (he : P.underlying e = some (.int k))
    (h : ∀ i, i < len → ∃ x, xs[i]? = some (.int k x)) : (binOp .eql t (.agg xs) (.agg xs)).run P w = .ok (.bool true) w := by
  cases hq : P.info? e with
  | none => simp [hq] at hi
  | some i1 =>
    rw [run_eql_struct, run_equalIn_array w 9999 len t e xs xs i1 ht hq (by simpa [hq] using hi) (fun i hl => by
      obtain ⟨x, hx⟩ := h i hl
      exact ⟨_, _, fun w => run_part_int w e k xs i _ he hx, fun w => run_part_int w e k xs i _ he hx, fun w => by rw [run_equalIn_int w 9998 e k k x x he]; simp⟩)]
    rfl
theorem run_eql_strings {P : Program} (w : World) (len : Nat) (t e : TypeId) (xs : Array Value) (ht : P.underlying t = some (.array len e)) (hi : (P.info? e).map (·.size) = some 1) (he : P.underlying e = some .string)
    (h : ∀ i, i < len → ∃ x, xs[i]? = some (.string x)) : (binOp .eql t (.agg xs) (.agg xs)).run P w = .ok (.bool true) w := by
  cases hq : P.info? e with
  | none => simp [hq] at hi
  | some i1 =>
    rw [run_eql_struct, run_equalIn_array w 9999 len t e xs xs i1 ht hq (by simpa [hq] using hi) (fun i hl => by
      obtain ⟨x, hx⟩ := h i hl
      exact ⟨_, _, fun w => run_part_string w e xs i _ he hx, fun w => run_part_string w e xs i _ he hx, fun w => by rw [run_equalIn_string w 9998 e x x he]; simp⟩)]
    rfl
end Go.Proofs.YtkdgbkhnnehedaaDoor.ArrEq

namespace Go.Proofs.YtkdgbkhnnehedaaDoor.Spare
open Go Go.RowKit

section
variable {P : Program}
/-- As run_append_spare, of any number of elements, none too. -/
theorem run_append_spareAny (w : World) (base : Nat) (t ty e : TypeId) (i : TypeInfo) (z : Value) (zs : List Value) (bytes : Nat) (ht : P.underlying t = some (.slice e)) (hi : P.info? e = some i) (hz : i.zero = some z)
    (hzc : z.cells = zs.toArray) (hsize : i.size = zs.length) (hby : i.bytes = bytes) (hpos : 0 < zs.length)
    (v : Value) (n : Nat) (xs : List Value) (hs : Spare w base e zs v n xs)
    (xo : Option Addr) (m c : Nat) (news : List Value) (hl : news.length = m * zs.length) (hx : m = 0 ∨ ∃ ad, xo = some ad ∧ ∀ j u, news[j]? = some u → w.cell? (ad.add j) = some u) (h1 : ∀ u ∈ news, u.oneCell' = true)
    (h63 : n + m ≤ maxLen) (hbytes : (n + m) * bytes ≤ 140737488355328) (hbase : base ≤ w.heap.size) :
    ∃ v' w', (Builtin.append_ #[t, t] ty #[v, .slice xo m c]).run P w = .ok v' w' ∧ Spare w' base e zs v' (n + m) (xs ++ news) ∧ w.grownBy w' v.ownBlock ∧ Kept w w' zs v n ∧ SpareLoc w v v' := by
  by_cases hm : m = 0
  · subst hm
    obtain rfl : news = [] := List.eq_nil_of_length_eq_zero (by simpa using hl)
    obtain ⟨ao, cap, rfl⟩ := row_form hs.own
    have hcap : n ≤ cap := by
      rcases hs.own.2 with ⟨e, _⟩ | ⟨g, c, cur, e, _, _, h3, _⟩
      · cases e; omega
      · cases e; exact h3
    have hsr : Src P i.size t (.slice xo 0 c) 0 [] w := by
      cases xo with
      | none => exact Src.ofNil w ht c
      | some a => exact Src.ofSlice w ht a 0 c [] (by simp) (fun j u h => by simp at h) (fun u h => by cases h)
    exact ⟨_, _, run_append_nothing w t t ty e i ht hi ao n cap hcap _ hsr, by simpa using hs, ⟨rfl, rfl, rfl, Nat.le_refl _, fun _ _ _ => rfl⟩, fun b o u hc => Or.inl hc, fun g hg => Or.inl hg⟩
  · rcases hx with h0 | ⟨ad, rfl, hx⟩
    · exact absurd h0 hm
    · exact run_append_spare (P := P) w base t ty e i z zs bytes ht hi hz hzc hsize hby hpos v n xs hs ad m c news (Or.inl (by omega)) hl hx h1 h63 hbytes hbase

theorem wpList_append_spareAny {w : World} {ops : Array Oper} {rest : List Oper} {o : Oper} {a : Act} {Q : Exit → Act → World → Prop} (hgd : o.guard = none) (s x : Operand) (t : TypeId)
    (ho : o.op = .call { callee := .builtin .append, args := #[s, x], argTypes := #[t, t] })
    (base : Nat) (e : TypeId) (i : TypeInfo) (z : Value) (zs : List Value) (bytes : Nat) (ht : P.underlying t = some (.slice e)) (hi : P.info? e = some i) (hz : i.zero = some z)
    (hzc : z.cells = zs.toArray) (hsize : i.size = zs.length) (hby : i.bytes = bytes) (hpos : 0 < zs.length)
    (v : Value) (n : Nat) (xs : List Value) (hs : a.eval s = v) (hown : Spare w base e zs v n xs)
    (xo : Option Addr) (m c : Nat) (news : List Value) (hxv : a.eval x = .slice xo m c) (hl : news.length = m * zs.length) (hx : m = 0 ∨ ∃ ad, xo = some ad ∧ ∀ j u, news[j]? = some u → w.cell? (ad.add j) = some u) (h1 : ∀ u ∈ news, u.oneCell' = true)
    (h63 : n + m ≤ maxLen) (hbytes : (n + m) * bytes ≤ 140737488355328) (hbase : base ≤ w.heap.size)
    (h : ∀ v' w', Spare w' base e zs v' (n + m) (xs ++ news) → w.grownBy w' v.ownBlock → Kept w w' zs v n → SpareLoc w v v' → wpList P ops Q rest (a.put o.dst v') w') : wpList P ops Q (o :: rest) a w := by
  refine wpList_plain hgd fun K hK => ?_
  obtain ⟨v', w', hr, q1, q2, q3, q4⟩ := run_append_spareAny (P := P) w base t o.type e i z zs bytes ht hi hz hzc hsize hby hpos v n xs hown xo m c news hl hx h1 h63 hbytes hbase
  unfold Oper.wp execOp
  simp only [ho, resolve, invoke, builtin, Sem.run_bind, Sem.run_pure, Result.andThen_ok, List.map_toArray, List.map_cons, List.map_nil, hs, hxv, hr]
  exact hK _ _ (h v' w' q1 q2 q3 q4)
/-- The same where the operation has a guard. -/
theorem wpList_append_spareAnyG {w : World} {ops : Array Oper} {rest : List Oper} {o : Oper} {a : Act} {Q : Exit → Act → World → Prop} (hgd : Region.wanted o (yielded ops a.tmps) = true) (s x : Operand) (t : TypeId)
    (ho : o.op = .call { callee := .builtin .append, args := #[s, x], argTypes := #[t, t] })
    (base : Nat) (e : TypeId) (i : TypeInfo) (z : Value) (zs : List Value) (bytes : Nat) (ht : P.underlying t = some (.slice e)) (hi : P.info? e = some i) (hz : i.zero = some z)
    (hzc : z.cells = zs.toArray) (hsize : i.size = zs.length) (hby : i.bytes = bytes) (hpos : 0 < zs.length)
    (v : Value) (n : Nat) (xs : List Value) (hs : a.eval s = v) (hown : Spare w base e zs v n xs)
    (xo : Option Addr) (m c : Nat) (news : List Value) (hxv : a.eval x = .slice xo m c) (hl : news.length = m * zs.length) (hx : m = 0 ∨ ∃ ad, xo = some ad ∧ ∀ j u, news[j]? = some u → w.cell? (ad.add j) = some u) (h1 : ∀ u ∈ news, u.oneCell' = true)
    (h63 : n + m ≤ maxLen) (hbytes : (n + m) * bytes ≤ 140737488355328) (hbase : base ≤ w.heap.size)
    (h : ∀ v' w', Spare w' base e zs v' (n + m) (xs ++ news) → w.grownBy w' v.ownBlock → Kept w w' zs v n → SpareLoc w v v' → wpList P ops Q rest (a.put o.dst v') w') : wpList P ops Q (o :: rest) a w := by
  refine wpList_step fun K hK => ?_
  rw [if_pos hgd]
  obtain ⟨v', w', hr, q1, q2, q3, q4⟩ := run_append_spareAny (P := P) w base t o.type e i z zs bytes ht hi hz hzc hsize hby hpos v n xs hown xo m c news hl hx h1 h63 hbytes hbase
  unfold Oper.wp execOp
  simp only [ho, resolve, invoke, builtin, Sem.run_bind, Sem.run_pure, Result.andThen_ok, List.map_toArray, List.map_cons, List.map_nil, hs, hxv, hr]
  exact hK _ _ (h v' w' q1 q2 q3 q4)
end
end Go.Proofs.YtkdgbkhnnehedaaDoor.Spare

namespace Go.Proofs.YtkdgbkhnnehedaaDoor.Mut
open Go.RowKit Go.Proofs.YtkdgbkhnnehedaaDoor.Spare
set_option linter.unusedSectionVars false

def zM : List Value := [.int .i64 0, .int .i64 0, .string ByteArray.empty, .string ByteArray.empty, .string ByteArray.empty, .int .i64 0, .int .i64 0, .int .i64 0, .int .i64 0, .slice none 0 0]
theorem spare_lit (w : World) (base : Nat) (e : TypeId) (zs : List Value) (hpos : 0 < zs.length) (hb : base ≤ w.heap.size) : Spare (w.alloc (.cells #[] e)) base e zs (.slice (some ⟨w.heap.size, 0, none⟩) 0 0) 0 [] := by
  have h := fresh_spare w base e zs hpos 0 0 [] (by simp) (Nat.le_refl _) (Nat.zero_le _) hb
  have e0 : (([] : List Value).toArray ++ Builtin.zeroCells zs.toArray (0 - 0)) = #[] := by simp [Builtin.zeroCells]
  rw [e0] at h
  exact h
theorem lst_src {α : Type} {sz : Nat} {en : α → List Value} {w : World} {ao : Option Addr} {n cap : Nat} {l : List α} (hen : ∀ x, (en x).length = sz) (hsz : 0 < sz) (h : Lst sz en w (.slice ao n cap) l) :
    n = 0 ∨ ∃ ad, ao = some ad ∧ ∀ j u, (l.flatMap en)[j]? = some u → w.cell? (ad.add j) = some u := by
  have hl := Lst.len h
  cases ao with
  | some a => exact Or.inr ⟨a, rfl, Lst.news hen hsz h⟩
  | none =>
    left
    cases l with
    | nil => exact hl
    | cons x l =>
      obtain ⟨b, off, e, -⟩ := Lst.get h (show 0 < (x :: l).length by simp)
      cases e
end Go.Proofs.YtkdgbkhnnehedaaDoor.Mut

namespace Go.Proofs.YtkdgbkhnnehedaaDoor.Mrk
open Go.RowKit Go.Proofs.YtkdgbkhnnehedaaDoor.Spare Go.Proofs.YtkdgbkhnnehedaaDoor.RegInv Go.Proofs.YtkdgbkhnnehedaaDoor.Mut Go.Proofs.YtkdgbkhnnehedaaDoor.Ints
set_option linter.unusedSectionVars false
variable [Inhabited Lim]

theorem eql_T (a : Nat → Nat) (w : World) : (binOp .eql 82 (.agg (vT a)) (.agg (vT a))).run Tryd.prog w = .ok (.bool true) w :=
  ArrEq.run_eql_ints w 32 _ 80 .u64 (vT a) Tryd.underlying82 (by kernel_rfl) Tryd.underlying80 (fun i hi => ⟨_, by show (lT a).toArray[i]? = _; rw [List.getElem?_toArray]; exact lT_at a hi⟩)
theorem guard_T (a b : Operand) (xs ys : Array Value) (w : World) : (eqGuard .eql 82 a b (.agg xs) (.agg ys)).run Tryd.prog w = .ok () w := run_eqGuard_agg w .eql _ a b xs ys (by kernel_rfl)
theorem left_rev (l : List Mu) : Mut.leftOf l.reverse = Mut.leftOf l := leftOf_congr fun m => by unfold Fits; simp

set_option maxHeartbeats 8000000 in
set_option maxRecDepth 100000 in
theorem tells_any (v1 v2 : Value) (A B : List Ro) (w : World) (hT : Tabs w) (hA : MRow w v1 A) (hB : MRow w v2 B) (zA : ∀ x ∈ A, x.1.key.size ≤ maxLen ∧ x.1.fin.size ≤ maxLen ∧ x.1.val.size ≤ maxLen) (zB : ∀ x ∈ B, x.1.key.size ≤ maxLen ∧ x.1.fin.size ≤ maxLen ∧ x.1.val.size ≤ maxLen) :
    Calls Tryd.prog 5 #[v1, v2] w (RetB true w) := by
  have HGa := Lib.hid (great_any v1 A 30 w hA (by decide) zA)
  have HGb := Lib.hid (great_any v2 B 30 w hB (by decide) zB)
  obtain ⟨ga, hga⟩ : ∃ q, q = greatF (A.map (·.1)) 30 := ⟨_, rfl⟩
  obtain ⟨gb, hgb⟩ : ∃ q, q = greatF (B.map (·.1)) 30 := ⟨_, rfl⟩
  rw [← hga] at HGa
  rw [← hgb] at HGb
  obtain ⟨la, hla⟩ : ∃ l, l = A.map (·.1) := ⟨_, rfl⟩
  obtain ⟨lb, hlb⟩ : ∃ l, l = B.map (·.1) := ⟨_, rfl⟩
  rw [← hla] at hga
  rw [← hlb] at hgb
  have HRA := Lib.hid (show Reads w v1 la from ⟨A, hla.symm, hA⟩)
  have HRB := Lib.hid (show Reads w v2 lb from ⟨B, hlb.symm, hB⟩)
  obtain ⟨ao, ac, rfl, -, -⟩ := hA.form
  obtain ⟨bo, bc, rfl, -, -⟩ := hB.form
  obtain ⟨na, hna⟩ : ∃ k, k = A.length := ⟨_, rfl⟩
  obtain ⟨nb, hnb⟩ : ∃ k, k = B.length := ⟨_, rfl⟩
  rw [← hna] at hA HGa HRA ⊢
  rw [← hnb] at HGb HRB ⊢
  have HVA := Lib.hid hA
  have HNA := Lib.hid hna
  have HLA := Lib.hid hla
  have HT := Lib.hid hT
  have HGG := Lib.hid (And.intro hga hgb)
  clear hT hA hB zA zB hga hgb hna hnb hla hlb
  obtain ⟨x, hx⟩ : ∃ x, x = Mut.leftOf la := ⟨_, rfl⟩
  obtain ⟨y, hy⟩ : ∃ x, x = Mut.leftOf lb := ⟨_, rfl⟩
  have HXY := Lib.hid (And.intro hx hy)
  clear hx hy
  go_enter Tryd.func5, Tryd.ntmps5
  go_wp2_with fail
  refine HGa.out.mono ?_
  rintro e w1 ⟨rfl, rfl⟩
  cases ga
  case true =>
    go_wp2_with fail
    go_ret
    exact ⟨rfl, Below.refl _ _⟩
  obtain ⟨lA, sA⟩ := great_small HGG.out.1.symm
  go_wp2_with fail
  refine HGb.out.mono ?_
  rintro e w1 ⟨rfl, rfl⟩
  cases gb
  case true =>
    go_wp2_with fail
    go_ret
    exact ⟨rfl, Below.refl _ _⟩
  obtain ⟨lB, sB⟩ := great_small HGG.out.2.symm
  have hna30 : na ≤ 30 := by have h := lA; rw [HLA.out, List.length_map, ← HNA.out] at h; exact h
  have HO := Lib.hid (show (∀ W, RowKit.Below w.heap.size w W → Calls Tryd.prog 19 #[.slice ao na ac] W (RetC x W)) ∧ ∀ W, RowKit.Below w.heap.size w W → Calls Tryd.prog 19 #[.slice bo nb bc] W (RetC y W) from by
    rw [HXY.out.1, HXY.out.2]
    exact ⟨fun W h => c_of (HT.out.below h) (HRA.out.below h) (by omega) sA, fun W h => c_of (HT.out.below h) (HRB.out.below h) (by omega) sB⟩)
  have HOR := Lib.hid (show ∀ W v, RowKit.Below w.heap.size w W → Reads W v la.reverse → Calls Tryd.prog 19 #[v] W (RetC x W) from fun W v h hv => by
    rw [HXY.out.1, ← left_rev la]
    exact c_of (HT.out.below h) hv (by rw [List.length_reverse]; omega) (fun m hm => sA m (List.mem_reverse.1 hm)))
  have HG := Lib.hid (show Mut.Good x 30 ∧ Mut.Good y 30 from by rw [HXY.out.1, HXY.out.2]; exact ⟨(leftOf_good la).more lA, (leftOf_good lb).more lB⟩)
  clear lA sA lB sB HGG HGa HGb HRB HRA HXY
  go_wp2_with fail
  refine (HO.out.1 _ (Below.refl _ _)).mono ?_
  rintro e w1 ⟨vv, rfl, hl, hb⟩
  obtain ⟨p1, q1, r1, p2, q2, r2, p3, q3, r3, rfl, hl1⟩ := hl.form
  have HLx0 := Lib.hid hl1
  have HB1 := Lib.hid hb
  clear hl hb hl1
  go_wp2_with fail
  refine (HO.out.2 _ HB1.out).mono ?_
  rintro e w2 ⟨vv, rfl, hl, hb⟩
  obtain ⟨p4, q4, r4, p5, q5, r5, p6, q6, r6, rfl, hl1⟩ := hl.form
  have HLy0 := Lib.hid hl1
  have HLx1 := Lib.hid (HLx0.out.below hb)
  have HB2 := Lib.hid (below_then HB1.out (Nat.le_refl _) hb)
  clear hl hb hl1 HLx0
  go_upto_region 4 with fail
  obtain ⟨W3, hW⟩ : ∃ W, W = ((w2.alloc (.cells #[.slice p1 q1 r1, .slice p2 q2 r2, .slice p3 q3 r3] 61)).alloc (.cells #[.slice p4 q4 r4, .slice p5 q5 r5, .slice p6 q6 r6] 61)) := ⟨_, rfl⟩
  rw [← hW]
  have hb3 : RowKit.Below w2.heap.size w2 W3 := by rw [hW]; exact ((Below.refl _ _).alloc (Nat.le_refl _) _).alloc (by simp) _
  have x3 : C3 W3 w2.heap.size (.slice p1 q1 r1) (.slice p2 q2 r2) (.slice p3 q3 r3) := by
    rw [hW]
    exact (C3.new w2 _ _ _).below ((Below.refl _ _).alloc (Nat.le_refl _) _)
  have y3 : C3 W3 (w2.heap.size + 1) (.slice p4 q4 r4) (.slice p5 q5 r5) (.slice p6 q6 r6) := by
    rw [hW]
    have := C3.new (w2.alloc (.cells #[.slice p1 q1 r1, .slice p2 q2 r2, .slice p3 q3 r3] 61)) (.slice p4 q4 r4) (.slice p5 q5 r5) (.slice p6 q6 r6)
    rwa [World.size_alloc] at this
  have HLx := Lib.hid (HLx1.out.below hb3)
  have HLy := Lib.hid (HLy0.out.below hb3)
  have HB3 := Lib.hid (below_then HB2.out (Nat.le_refl _) hb3)
  obtain ⟨n2, hn⟩ : ∃ n, n = w2.heap.size := ⟨_, rfl⟩
  rw [← hn] at x3 y3 ⊢
  have HCx := Lib.hid x3
  have HCy := Lib.hid y3
  clear hW hb3 x3 y3 hn HLx1 HLy0 HB2 HB1
  obtain ⟨ta, hta⟩ : ∃ T, T = treeF (allF x) := ⟨_, rfl⟩
  obtain ⟨tb, htb⟩ : ∃ T, T = treeF (allF y) := ⟨_, rfl⟩
  have HOF := Lib.hid (fun (W : World) (v : Value) => show (IsC x v W → Calls Tryd.prog 21 #[v] W (fun e w' => e = .returned (.agg (vT ta)) ∧ Below W.heap.size W w')) ∧ (IsC y v W → Calls Tryd.prog 21 #[v] W (fun e w' => e = .returned (.agg (vT tb)) ∧ Below W.heap.size W w')) from by
    rw [hta, htb]
    exact ⟨fun h => of_any h HG.out.1 (by decide), fun h => of_any h HG.out.2 (by decide)⟩)
  have hdf := fun W => differ_any ta tb W
  rw [tree_same] at hdf
  have hle : (outF (sameAt ta tb) 32).length ≤ 16 := by have h := (downF_bd (sameAt ta tb) 4 1).2; rw [tree_same] at h; exact h
  have hfew : lookF (sameAt ta tb) 32 ≤ 1 + 8 * (outF (sameAt ta tb) 32).length := look_few (by rw [hta]; exact soundF_iff.1 (treeF_sound _)) (by rw [htb]; exact soundF_iff.1 (treeF_sound _))
  have hmem : ∀ z ∈ outF (sameAt ta tb) 32, ∃ i : Nat, z = i ∧ i < 16 ∧ x.filter (fun m => decide (bucketF m.key = i)) ≠ y.filter (fun m => decide (bucketF m.key = i)) := fun z hz => by
    obtain ⟨i, h1, h2, h3⟩ := outF_mem _ _ _ hz
    refine ⟨i, h1, by omega, parts_differ HG.out.1 HG.out.2 i (by omega) ?_⟩
    rw [← hta, ← htb]
    simpa [sameAt] using h3
  obtain ⟨O, hO⟩ : ∃ O, O = outF (sameAt ta tb) 32 := ⟨_, rfl⟩
  obtain ⟨nn, hnn⟩ : ∃ n, n = lookF (sameAt ta tb) 32 := ⟨_, rfl⟩
  rw [← hO, ← hnn] at hdf hfew
  rw [← hO] at hle hmem
  have heq := eql_T ta
  obtain ⟨YA, hYA⟩ : ∃ Y, Y = vT ta := ⟨_, rfl⟩
  obtain ⟨YB, hYB⟩ : ∃ Y, Y = vT tb := ⟨_, rfl⟩
  rw [← hYA] at heq
  rw [← hYA, ← hYB] at HOF hdf
  obtain ⟨no, hno⟩ : ∃ n, n = O.length := ⟨_, rfl⟩
  rw [← hno] at hle hfew hdf
  have HDF := Lib.hid hdf
  have HMEM := Lib.hid hmem
  have HEQ := Lib.hid heq
  have HGD := Lib.hid guard_T
  have HNO := Lib.hid hno
  clear hta htb hO hnn hYA hYB hdf hmem heq hno
  have HI := Lib.hid (fun W (h : RowKit.Below W3.heap.size W3 W) => And.intro (HLx.out.below h).is (HLy.out.below h).is)
  have HBW := Lib.hid (fun W (h : RowKit.Below W3.heap.size W3 W) => below_then HB3.out (Nat.le_refl _) h)
  refine wp_region_told [] 9 [false, false, false, false, false, false, false, true, false, false, false, false, false, false, false, false, false, false, false, false, false, true, true, true, true, true, true, true, true, false, false, false, false, false, false, false, false, false, false, false, false, false, false, false, false, false, false, false, false, false, false, false, false, false, false, false, false, false, false, false, false, false, false, false, false, false, false, false, false, false]
    [sLit (.agg #[.slice p1 q1 r1, .slice p2 q2 r2, .slice p3 q3 r3]),
    sLit (.agg YA),
    sLit (.agg #[.slice p4 q4 r4, .slice p5 q5 r5, .slice p6 q6 r6]),
    sLit (.agg YB),
    sOne (fun v W => ∃ ao ac, v = .tuple #[.slice ao no ac, .int .i64 (nn : Nat)] ∧ IRow W (.slice ao no ac) O) (fun _ _ _ h hb => by obtain ⟨ao, ac, h1, h2⟩ := h; exact ⟨ao, ac, h1, Lst.below h2 hb⟩),
    sOne (fun v W => ∃ ao ac, v = .tuple #[.slice ao no ac, .int .i64 (nn : Nat)] ∧ IRow W (.slice ao no ac) O) (fun _ _ _ h hb => by obtain ⟨ao, ac, h1, h2⟩ := h; exact ⟨ao, ac, h1, Lst.below h2 hb⟩),
    sOne (fun v W => ∃ ao ac, v = .slice ao no ac ∧ IRow W (.slice ao no ac) O) (fun _ _ _ h hb => by obtain ⟨ao, ac, h1, h2⟩ := h; exact ⟨ao, ac, h1, Lst.below h2 hb⟩),
    sLit (.int .i64 (nn : Nat)),
    sOne (fun v W => ∃ ao ac, v = .slice ao no ac ∧ IRow W (.slice ao no ac) O) (fun _ _ _ h hb => by obtain ⟨ao, ac, h1, h2⟩ := h; exact ⟨ao, ac, h1, Lst.below h2 hb⟩)] (by kernel_rfl) (by kernel_rfl) (by kernel_rfl) (fun F hF => ?_)
  simp only [over, overL, Nat.reduceAdd] at hF
  obtain rfl := funext hF
  clear hF
  refine ⟨⟨?_, ?_, ?_, ?_, ?_, ?_, ?_, ?_, ?_, trivial⟩, ?_⟩
  · intro V W hb hd K hK _
    clear hd
    obtain ⟨-, s0, s1, s2, -⟩ := HCx.out.below hb
    go_wp2_with fail
    refine hK _ _ ?_ ?_ ?_ ?_
    · rfl
    · exact Below.refl _ _
    · exact rfl
    · trivial
  · intro V W hb hd K hK _
    have h0 : (V 22) = .agg #[.slice p1 q1 r1, .slice p2 q2 r2, .slice p3 q3 r3] := hd 0 (by kernel_rfl)
    clear hd
    go_wp2_with fail
    refine ((HOF.out W _).1 (HI.out W hb).1).mono ?_
    rintro e w1 ⟨rfl, hb1⟩
    go_wp2_with fail
    refine hK _ _ ?_ ?_ ?_ ?_
    · rfl
    · exact hb1
    · exact rfl
    · trivial
  · intro V W hb hd K hK _
    clear hd
    obtain ⟨-, s0, s1, s2, -⟩ := HCy.out.below hb
    go_wp2_with fail
    refine hK _ _ ?_ ?_ ?_ ?_
    · rfl
    · exact Below.refl _ _
    · exact rfl
    · trivial
  · intro V W hb hd K hK _
    have h2 : (V 24) = .agg #[.slice p4 q4 r4, .slice p5 q5 r5, .slice p6 q6 r6] := hd 2 (by kernel_rfl)
    clear hd
    go_wp2_with fail
    refine ((HOF.out W _).2 (HI.out W hb).2).mono ?_
    rintro e w1 ⟨rfl, hb1⟩
    go_wp2_with fail
    refine hK _ _ ?_ ?_ ?_ ?_
    · rfl
    · exact hb1
    · exact rfl
    · trivial
  · intro V W hb hd K hK _
    have h1 : (V 23) = .agg YA := hd 1 (by kernel_rfl)
    have h3 : (V 25) = .agg YB := hd 3 (by kernel_rfl)
    clear hd
    go_wp2_with fail
    refine (HDF.out W).mono ?_
    rintro e w1 ⟨v1, rfl, hr1, hb1⟩
    obtain ⟨ao, ac, rfl⟩ := row_form hr1
    have HR1 := Lib.hid (show IRow w1 (.slice ao no ac) O from Lst.owned enI_len (by decide) HNO.out hr1)
    clear hr1
    go_wp2_with fail
    refine hK _ _ ?_ ?_ ?_ ?_
    · rfl
    · exact hb1
    · exact ⟨ao, ac, rfl, HR1.out⟩
    · trivial
  · intro V W hb hd K hK _
    have h4 : ∃ ao ac, (V 26) = .tuple #[.slice ao no ac, .int .i64 (nn : Nat)] ∧ IRow W (.slice ao no ac) O := hd 4 (by kernel_rfl)
    clear hd
    obtain ⟨ao, ac, e4, hr⟩ := h4
    have HR1 := Lib.hid hr
    clear hr
    go_wp2_with fail
    refine hK _ _ ?_ ?_ ?_ ?_
    · rfl
    · exact Below.refl _ _
    · exact ⟨ao, ac, by first | rfl | exact e4, HR1.out⟩
    · trivial
  · intro V W hb hd K hK _
    have h5 : ∃ ao ac, (V 21) = .tuple #[.slice ao no ac, .int .i64 (nn : Nat)] ∧ IRow W (.slice ao no ac) O := hd 5 (by kernel_rfl)
    clear hd
    obtain ⟨ao, ac, e5, hr⟩ := h5
    have HR1 := Lib.hid hr
    clear hr
    go_wp2_with fail
    refine hK _ _ ?_ ?_ ?_ ?_
    · rfl
    · exact Below.refl _ _
    · exact ⟨ao, ac, by first | rfl | simp [e5], HR1.out⟩
    · trivial
  · intro V W hb hd K hK _
    have h5 : ∃ ao ac, (V 21) = .tuple #[.slice ao no ac, .int .i64 (nn : Nat)] ∧ IRow W (.slice ao no ac) O := hd 5 (by kernel_rfl)
    clear hd
    obtain ⟨ao, ac, e5, hr⟩ := h5
    clear hr
    go_wp2_with fail
    refine hK _ _ ?_ ?_ ?_ ?_
    · rfl
    · exact Below.refl _ _
    · exact (by first | rfl | simp [e5])
    · trivial
  · intro V W hb hd K hK _
    have h6 : ∃ ao ac, (V 27) = .slice ao no ac ∧ IRow W (.slice ao no ac) O := hd 6 (by kernel_rfl)
    clear hd
    obtain ⟨ao, ac, e6, hr⟩ := h6
    have HR1 := Lib.hid hr
    clear hr
    go_wp2_with fail
    refine hK _ _ ?_ ?_ ?_ ?_
    · rfl
    · exact Below.refl _ _
    · exact ⟨ao, ac, by first | rfl | exact e6, HR1.out⟩
    · trivial
  · intro V W hb hd hap
    have h7 : (V 28) = .int .i64 (nn : Nat) := hd 7 (by decide)
    have h8 : ∃ ao ac, (V 7) = .slice ao no ac ∧ IRow W (.slice ao no ac) O := hd 8 (by decide)
    clear hd hap
    simp only [List.drop_succ_cons, List.drop_zero]
    obtain ⟨oo, oc, e8, hr⟩ := h8
    have HOR1 := Lib.hid hr
    obtain ⟨W4, hW4⟩ : ∃ W4 : World, W4 = W := ⟨_, rfl⟩
    rw [← hW4] at hb HOR1 ⊢
    have HB4 := Lib.hid hb
    clear hr hb hW4
    go_wp2_with fail
    clear e8 h7
    go_loopw [9] (fun iv wr => ∃ k : Nat, k ≤ no ∧ iv = .int .i64 k ∧ Hid (RowKit.Below W4.heap.size W4 wr)) (fun iv _ => no - (intOf iv).toNat)
    case atStart => exact ⟨0, by omega, rfl, Lib.hid (Below.refl _ _)⟩
    case round =>
      obtain ⟨k, hk, rfl, hl⟩ := hrel
      have HBR := Lib.hid (below_then HB4.out (Nat.le_refl _) hl.out)
      by_cases hlt : k < no
      · have hkr : k < O.length := by have := HNO.out; omega
        obtain ⟨ob, ooff, hao, hob, hoc⟩ := Lst.get (Lst.below HOR1.out hl.out) hkr
        subst hao
        have c0 := hoc 0 (by decide)
        rw [Nat.mul_one] at c0
        obtain ⟨i, hi, hi16, hne⟩ := HMEM.out _ (List.getElem_mem hkr)
        rw [hi] at c0
        have c1 : wr.cell? ⟨ob, ooff + k, none⟩ = some (.int .i64 (i : Nat)) := c0
        have HC1 := Lib.hid (fun W (h : RowKit.Below wr.heap.size wr W) => (World.cell?_of_block (a := ⟨ob, ooff + k, none⟩) (h.block ob hob)).trans c1)
        have HNE := Lib.hid hne
        obtain ⟨p, hp⟩ : ∃ p : Mu → Bool, p = fun m => decide (bucketF m.key = i) := ⟨_, rfl⟩
        rw [← hp] at HNE
        have HPT := Lib.hid (fun (W : World) (v : Value) => show (IsC x v W → Calls Tryd.prog 23 #[v, .int .i64 (i : Nat)] W (RetC (x.filter p) W)) ∧ (IsC y v W → Calls Tryd.prog 23 #[v, .int .i64 (i : Nat)] W (RetC (y.filter p) W)) from by
          rw [hp]
          exact ⟨fun h => part_any i h HG.out.1 (by decide) hi16, fun h => part_any i h HG.out.2 (by decide) hi16⟩)
        have HGP := Lib.hid (And.intro (HG.out.1.filter p) (HG.out.2.filter p))
        have HIr := Lib.hid (fun W (h : RowKit.Below wr.heap.size wr W) => HI.out W (below_then HBR.out (Nat.le_refl _) h))
        have HKr := Lib.hid (fun W (h : RowKit.Below wr.heap.size wr W) => And.intro (HCx.out.below (below_then HBR.out (Nat.le_refl _) h)) (HCy.out.below (below_then HBR.out (Nat.le_refl _) h)))
        have j0 : (0 : Int) ≤ (k : Int) := by omega
        have j1 : (k : Int) < (no : Int) := by omega
        clear c0 c1 hoc hi hne hp hkr
        go_upto_region 8 with fail
        obtain ⟨W8, hW8⟩ : ∃ W : World, W = wr := ⟨_, rfl⟩
        subst hW8
        refine wp_region_told [] 12 [false, false, false, false, false, false, false, false, false, false, false, false, false, false, false, false, false, false, false, false, false, false, false, false, false, false, false, false, false, false, false, false, false, false, false, true, true, true, true, true, true, true, true, true, true, true, true, false, false, false, false, false, false, false, false, false, false, false, false, false, false, false, false, false, false, false, false, false, false, false]
          [sLit (.agg #[.slice p1 q1 r1, .slice p2 q2 r2, .slice p3 q3 r3]),
    sLit (.slice (some ⟨ob, ooff, none⟩) no oc),
    sLit (.int .i64 k),
    sLit (.pointer (some ⟨ob, ooff + k, none⟩)),
    sLit (.int .i64 (i : Nat)),
    sOne (IsC (x.filter p)) (fun _ _ _ h hb => h.below hb),
    sLit (.agg #[.slice p4 q4 r4, .slice p5 q5 r5, .slice p6 q6 r6]),
    sLit (.slice (some ⟨ob, ooff, none⟩) no oc),
    sLit (.int .i64 k),
    sLit (.pointer (some ⟨ob, ooff + k, none⟩)),
    sLit (.int .i64 (i : Nat)),
    sOne (IsC (y.filter p)) (fun _ _ _ h hb => h.below hb)] (by kernel_rfl) (by kernel_rfl) (by kernel_rfl) (fun F hF => ?_)
        simp only [over, overL, Nat.reduceAdd] at hF
        obtain rfl := funext hF
        clear hF
        refine ⟨⟨?_, ?_, ?_, ?_, ?_, ?_, ?_, ?_, ?_, ?_, ?_, ?_, trivial⟩, ?_⟩
        · intro V W hb hd K hK _
          clear hd
          obtain ⟨-, s0, s1, s2, -⟩ := (HKr.out W hb).1
          go_wp2_with fail
          refine hK _ _ ?_ ?_ ?_ ?_
          · rfl
          · exact Below.refl _ _
          · exact rfl
          · trivial
        · intro V W hb hd K hK _
          clear hd
          go_wp2_with fail
          refine hK _ _ ?_ ?_ ?_ ?_
          · rfl
          · exact Below.refl _ _
          · exact rfl
          · trivial
        · intro V W hb hd K hK _
          clear hd
          go_wp2_with fail
          refine hK _ _ ?_ ?_ ?_ ?_
          · rfl
          · exact Below.refl _ _
          · exact rfl
          · trivial
        · intro V W hb hd K hK _
          have h1 : (V 36) = .slice (some ⟨ob, ooff, none⟩) no oc := hd 1 (by kernel_rfl)
          have h2 : (V 37) = .int .i64 k := hd 2 (by kernel_rfl)
          clear hd
          go_wp2_with fail
          refine hK _ _ ?_ ?_ ?_ ?_
          · rfl
          · exact Below.refl _ _
          · first | rfl | (show Value.bool _ = Value.bool true; refine congrArg Value.bool (decide_eq_true ?_); omega) | simp
          · trivial
        · intro V W hb hd K hK _
          have h3 : (V 38) = .pointer (some ⟨ob, ooff + k, none⟩) := hd 3 (by kernel_rfl)
          clear hd
          have c1 := HC1.out W hb
          go_wp2_with fail
          refine hK _ _ ?_ ?_ ?_ ?_
          · rfl
          · exact Below.refl _ _
          · first | rfl | (show Value.bool _ = Value.bool true; refine congrArg Value.bool (decide_eq_true ?_); omega) | simp
          · trivial
        · intro V W hb hd K hK _
          have h0 : (V 35) = .agg #[.slice p1 q1 r1, .slice p2 q2 r2, .slice p3 q3 r3] := hd 0 (by kernel_rfl)
          have h4 : (V 39) = .int .i64 (i : Nat) := hd 4 (by kernel_rfl)
          clear hd
          go_wp2_with fail
          refine ((HPT.out W _).1 (HIr.out W hb).1).mono ?_
          rintro e w1 ⟨v1, rfl, hv1, hb1⟩
          go_wp2_with fail
          refine hK _ _ ?_ ?_ ?_ ?_
          · rfl
          · exact hb1
          · exact hv1
          · trivial
        · intro V W hb hd K hK _
          clear hd
          obtain ⟨-, s0, s1, s2, -⟩ := (HKr.out W hb).2
          go_wp2_with fail
          refine hK _ _ ?_ ?_ ?_ ?_
          · rfl
          · exact Below.refl _ _
          · exact rfl
          · trivial
        · intro V W hb hd K hK _
          clear hd
          go_wp2_with fail
          refine hK _ _ ?_ ?_ ?_ ?_
          · rfl
          · exact Below.refl _ _
          · exact rfl
          · trivial
        · intro V W hb hd K hK _
          clear hd
          go_wp2_with fail
          refine hK _ _ ?_ ?_ ?_ ?_
          · rfl
          · exact Below.refl _ _
          · exact rfl
          · trivial
        · intro V W hb hd K hK _
          have h7 : (V 42) = .slice (some ⟨ob, ooff, none⟩) no oc := hd 7 (by kernel_rfl)
          have h8 : (V 43) = .int .i64 k := hd 8 (by kernel_rfl)
          clear hd
          go_wp2_with fail
          refine hK _ _ ?_ ?_ ?_ ?_
          · rfl
          · exact Below.refl _ _
          · first | rfl | (show Value.bool _ = Value.bool true; refine congrArg Value.bool (decide_eq_true ?_); omega) | simp
          · trivial
        · intro V W hb hd K hK _
          have h9 : (V 44) = .pointer (some ⟨ob, ooff + k, none⟩) := hd 9 (by kernel_rfl)
          clear hd
          have c1 := HC1.out W hb
          go_wp2_with fail
          refine hK _ _ ?_ ?_ ?_ ?_
          · rfl
          · exact Below.refl _ _
          · first | rfl | (show Value.bool _ = Value.bool true; refine congrArg Value.bool (decide_eq_true ?_); omega) | simp
          · trivial
        · intro V W hb hd K hK _
          have h6 : (V 41) = .agg #[.slice p4 q4 r4, .slice p5 q5 r5, .slice p6 q6 r6] := hd 6 (by kernel_rfl)
          have h10 : (V 45) = .int .i64 (i : Nat) := hd 10 (by kernel_rfl)
          clear hd
          go_wp2_with fail
          refine ((HPT.out W _).2 (HIr.out W hb).2).mono ?_
          rintro e w1 ⟨v1, rfl, hv1, hb1⟩
          go_wp2_with fail
          refine hK _ _ ?_ ?_ ?_ ?_
          · rfl
          · exact hb1
          · exact hv1
          · trivial
        · intro V W hb hd hap
          have h5 : IsC (x.filter p) (V 40) W := hd 5 (by decide)
          have h11 : IsC (y.filter p) (V 46) W := hd 11 (by decide)
          clear hd hap
          simp only [List.drop_succ_cons, List.drop_zero]
          go_wp2_with fail
          refine (c_same false (iff_of_false (by decide) HNE.out) h5 HGP.out.1 h11 HGP.out.2 (by decide) (by decide)).mono ?_
          rintro e w9 ⟨rfl, hb9⟩
          have HB9 := Lib.hid (below_then hl.out (Nat.le_refl _) (below_then hb (Nat.le_refl _) hb9))
          clear h5 h11 hb hb9
          go_wp2_with fail
          go_roundw
          case rel => exact ⟨k + 1, by omega, by go_num, HB9⟩
          case measure => simp [intOf]; omega
      · obtain rfl : k = no := by omega
        obtain ⟨b0, hb0⟩ : ∃ b, b = wr.heap.size := ⟨_, rfl⟩
        have HBS := Lib.hid hb0
        clear hb0
        have HBw := Lib.hid (HBW.out wr HBR.out)
        have HVAr := Lib.hid (HVA.out.below HBw.out)
        obtain ⟨i0, hi, hz0, hz1, hz2⟩ := info_parts Mut.info_M
        have HIN := Lib.hid (And.intro hi (And.intro hz0 (And.intro hz1 hz2)))
        clear hi hz0 hz1 hz2
        go_wp2_with (at_builtin; refine wpList_append_spareAnyG rfl (.tmp 48) (.tmp 49) 59 rfl b0 43 i0 zeroM zM 120 Tryd.underlying59 HIN.out.1 HIN.out.2.1 rfl HIN.out.2.2.1 HIN.out.2.2.2 (by decide) _ 0 [] rfl (spare_lit wr b0 43 zM (by decide) (by have := HBS.out; omega)) ao na ac (A.flatMap enM) rfl ?qa ?qb ?qc (by unfold maxLen; omega) (by omega) ?qd ?_; (case qa => (rw [flatMap_len enM_len, ← HNA.out]; rfl)); (case qb => exact lst_src enM_len (by decide) (HVAr.out.below ((Below.refl _ _).alloc (Nat.le_refl _) _)).row); (case qc => exact flatM_one HVAr.out.forms); (case qd => (have := HBS.out; simp; omega)))
        intro v5 w5 hsp hgw hkp hloc
        have HSP5 := Lib.hid (show Spare w5 b0 43 zM v5 na (A.flatMap enM) from by first | exact hsp | simpa using hsp)
        have HB5 := Lib.hid (show RowKit.Below wr.heap.size wr w5 from ((Below.refl wr.heap.size wr).alloc (Nat.le_refl _) _).grown hgw (by simp) (fun k hk => by have h := ((spare_lit wr b0 43 zM (by decide) (by have := HBS.out; omega)).own.lt k hk).1; have := HBS.out; omega))
        clear hsp hgw hkp hloc
        have HRV := Lib.hid (reverse_any b0 v5 A w5 (by rw [← HNA.out]; exact HSP5.out.own) (fun z hz => HVA.out.forms z hz) (by have := HNA.out; omega))
        obtain ⟨vo, vc, rfl⟩ := row_form HSP5.out.own
        go_wp2_with fail
        refine HRV.out.mono ?_
        rintro e w6 ⟨rfl, ho6, hg6⟩
        have HB6 := Lib.hid (show RowKit.Below wr.heap.size wr w6 from HB5.out.grown hg6 HB5.out.size (fun k hk => by have h := (HSP5.out.own.lt k hk).1; have := HBS.out; omega))
        have HR6 := Lib.hid (show Reads w6 (.slice vo na vc) la.reverse from ⟨A.reverse, by rw [List.map_reverse, ← HLA.out], Lst.owned enM_len (by decide) (show A.length = A.reverse.length by rw [List.length_reverse]) ho6, fun z hz => (HVAr.out.below HB6.out).over z (List.mem_reverse.1 hz)⟩)
        clear ho6 hg6 HSP5 HB5 HRV hlt
        have HB7 := Lib.hid (below_then HBR.out (Nat.le_refl _) HB6.out)
        have HI7 := Lib.hid (fun W (h : RowKit.Below w6.heap.size w6 W) => HI.out W (below_then HB7.out (Nat.le_refl _) h))
        have HK7 := Lib.hid (fun W (h : RowKit.Below w6.heap.size w6 W) => HCx.out.below (below_then HB7.out (Nat.le_refl _) h))
        have HW7 := Lib.hid (fun W (h : RowKit.Below w6.heap.size w6 W) => HBW.out W (below_then HB7.out (Nat.le_refl _) h))
        obtain ⟨m8, hm8⟩ : ∃ m, m = 8 * k := ⟨_, rfl⟩
        have e1 : IntKind.i64.wrap (8 * (k : Int)) = (m8 : Int) := by rw [IntWalk.i64_in _ (by omega)]; omega
        have e2 : IntKind.i64.wrap (1 + (m8 : Int)) = 1 + (m8 : Int) := IntWalk.i64_in _ (by omega)
        have hm9 : nn ≤ 1 + m8 := by omega
        clear hm8
        go_upto_region 12 with fail
        refine wp_region_told [] 17 [false, false, false, false, false, false, false, false, false, false, false, false, false, false, false, false, false, false, false, false, false, false, false, false, false, false, false, false, false, false, false, false, false, false, false, false, false, false, false, false, false, false, false, false, false, false, false, false, false, false, false, false, false, true, true, true, true, true, true, true, true, true, true, true, true, true, true, true, true, true]
          [sLit (.slice vo na vc),
    sOne (IsC (x)) (fun _ _ _ h hb => h.below hb),
    sLit (.agg YA),
    sLit (.agg #[.slice p1 q1 r1, .slice p2 q2 r2, .slice p3 q3 r3]),
    sLit (.agg YA),
    sLit (.bool true),
    sLit (.bool true),
    sLit (.int .i64 (nn : Nat)),
    sLit (.slice oo k oc),
    sLit (.int .i64 (k : Nat)),
    sLit (.int .i64 (m8 : Nat)),
    sLit (.int .i64 (1 + (m8 : Nat))),
    sLit (.bool true),
    sLit (.bool true),
    sLit (.bool true),
    sLit (.bool true),
    sLit (.bool true)] (by kernel_rfl) (by kernel_rfl) (by kernel_rfl) (fun F hF => ?_)
        simp only [over, overL, Nat.reduceAdd] at hF
        obtain rfl := funext hF
        clear hF
        refine ⟨⟨?_, ?_, ?_, ?_, ?_, ?_, ?_, ?_, ?_, ?_, ?_, ?_, ?_, ?_, ?_, ?_, ?_, trivial⟩, ?_⟩
        · intro V W hb hd K hK _
          clear hd
          go_wp2_with fail
          refine hK _ _ ?_ ?_ ?_ ?_
          · rfl
          · exact Below.refl _ _
          · exact rfl
          · trivial
        · intro V W hb hd K hK _
          have h0 : (V 53) = .slice vo na vc := hd 0 (by kernel_rfl)
          clear hd
          go_wp2_with fail
          refine (HOR.out W _ (HW7.out W hb) (HR6.out.below hb)).mono ?_
          rintro e w1 ⟨v1, rfl, hv1, hb1⟩
          go_wp2_with fail
          refine hK _ _ ?_ ?_ ?_ ?_
          · rfl
          · exact hb1
          · exact hv1
          · trivial
        · intro V W hb hd K hK _
          have h1 : IsC (x) (V 54) W := hd 1 (by kernel_rfl)
          clear hd
          go_wp2_with fail
          refine ((HOF.out W _).1 h1).mono ?_
          rintro e w1 ⟨rfl, hb1⟩
          go_wp2_with fail
          refine hK _ _ ?_ ?_ ?_ ?_
          · rfl
          · exact hb1
          · exact rfl
          · trivial
        · intro V W hb hd K hK _
          clear hd
          obtain ⟨-, s0, s1, s2, -⟩ := HK7.out W hb
          go_wp2_with fail
          refine hK _ _ ?_ ?_ ?_ ?_
          · rfl
          · exact Below.refl _ _
          · exact rfl
          · trivial
        · intro V W hb hd K hK _
          have h3 : (V 56) = .agg #[.slice p1 q1 r1, .slice p2 q2 r2, .slice p3 q3 r3] := hd 3 (by kernel_rfl)
          clear hd
          go_wp2_with fail
          refine ((HOF.out W _).1 (HI7.out W hb).1).mono ?_
          rintro e w1 ⟨rfl, hb1⟩
          go_wp2_with fail
          refine hK _ _ ?_ ?_ ?_ ?_
          · rfl
          · exact hb1
          · exact rfl
          · trivial
        · intro V W hb hd K hK _
          have h2 : (V 55) = .agg YA := hd 2 (by kernel_rfl)
          have h4 : (V 57) = .agg YA := hd 4 (by kernel_rfl)
          clear hd
          have q1 := HEQ.out
          have q2 := HGD.out
          go_wp2_with fail
          refine hK _ _ ?_ ?_ ?_ ?_
          · rfl
          · exact Below.refl _ _
          · first | rfl | (show Value.bool _ = Value.bool true; refine congrArg Value.bool (decide_eq_true ?_); omega) | simp
          · trivial
        · intro V W hb hd K hK _
          have h5 : (V 58) = .bool true := hd 5 (by kernel_rfl)
          clear hd
          go_wp2_with fail
          refine hK _ _ ?_ ?_ ?_ ?_
          · rfl
          · exact Below.refl _ _
          · exact rfl
          · trivial
        · intro V W hb hd K hK _
          have h6 : (V 59) = .bool true := hd 6 (by kernel_rfl)
          clear hd
          go_wp2_with fail
          refine hK _ _ ?_ ?_ ?_ ?_
          · rfl
          · exact Below.refl _ _
          · exact rfl
          · trivial
        · intro V W hb hd K hK _
          have h6 : (V 59) = .bool true := hd 6 (by kernel_rfl)
          clear hd
          go_wp2_with fail
          refine hK _ _ ?_ ?_ ?_ ?_
          · rfl
          · exact Below.refl _ _
          · exact rfl
          · trivial
        · intro V W hb hd K hK _
          have h6 : (V 59) = .bool true := hd 6 (by kernel_rfl)
          have h8 : (V 61) = .slice oo k oc := hd 8 (by kernel_rfl)
          clear hd
          go_wp2_with fail
          refine hK _ _ ?_ ?_ ?_ ?_
          · rfl
          · exact Below.refl _ _
          · first | rfl | (show Value.bool _ = Value.bool true; refine congrArg Value.bool (decide_eq_true ?_); omega) | simp
          · trivial
        · intro V W hb hd K hK _
          have h6 : (V 59) = .bool true := hd 6 (by kernel_rfl)
          have h9 : (V 62) = .int .i64 (k : Nat) := hd 9 (by kernel_rfl)
          clear hd
          go_wp2_with fail
          refine hK _ _ ?_ ?_ ?_ ?_
          · rfl
          · exact Below.refl _ _
          · first | rfl | (show Value.bool _ = Value.bool true; refine congrArg Value.bool (decide_eq_true ?_); omega) | simp
          · trivial
        · intro V W hb hd K hK _
          have h6 : (V 59) = .bool true := hd 6 (by kernel_rfl)
          have h10 : (V 63) = .int .i64 (m8 : Nat) := hd 10 (by kernel_rfl)
          clear hd
          go_wp2_with fail
          refine hK _ _ ?_ ?_ ?_ ?_
          · rfl
          · exact Below.refl _ _
          · first | rfl | (show Value.bool _ = Value.bool true; refine congrArg Value.bool (decide_eq_true ?_); omega) | simp
          · trivial
        · intro V W hb hd K hK _
          have h6 : (V 59) = .bool true := hd 6 (by kernel_rfl)
          have h7 : (V 60) = .int .i64 (nn : Nat) := hd 7 (by kernel_rfl)
          have h11 : (V 64) = .int .i64 (1 + (m8 : Nat)) := hd 11 (by kernel_rfl)
          clear hd
          go_wp2_with fail
          refine hK _ _ ?_ ?_ ?_ ?_
          · rfl
          · exact Below.refl _ _
          · first | rfl | (show Value.bool _ = Value.bool true; refine congrArg Value.bool (decide_eq_true ?_); omega) | simp
          · trivial
        · intro V W hb hd K hK _
          have h6 : (V 59) = .bool true := hd 6 (by kernel_rfl)
          have h12 : (V 65) = .bool true := hd 12 (by kernel_rfl)
          clear hd
          go_wp2_with fail
          refine hK _ _ ?_ ?_ ?_ ?_
          · rfl
          · exact Below.refl _ _
          · exact rfl
          · trivial
        · intro V W hb hd K hK _
          have h13 : (V 66) = .bool true := hd 13 (by kernel_rfl)
          clear hd
          go_wp2_with fail
          refine hK _ _ ?_ ?_ ?_ ?_
          · rfl
          · exact Below.refl _ _
          · exact rfl
          · trivial
        · intro V W hb hd K hK _
          have h14 : (V 67) = .bool true := hd 14 (by kernel_rfl)
          clear hd
          go_wp2_with fail
          refine (alive_any W).mono ?_
          rintro e w1 ⟨rfl, hb1⟩
          go_wp2_with fail
          refine hK _ _ ?_ ?_ ?_ ?_
          · rfl
          · exact hb1
          · exact rfl
          · trivial
        · intro V W hb hd K hK _
          have h14 : (V 67) = .bool true := hd 14 (by kernel_rfl)
          have h15 : (V 68) = .bool true := hd 15 (by kernel_rfl)
          clear hd
          go_wp2_with fail
          refine hK _ _ ?_ ?_ ?_ ?_
          · rfl
          · exact Below.refl _ _
          · exact rfl
          · trivial
        · intro V W hb hd hap
          have h16 : (V 69) = .bool true := hd 16 (by decide)
          clear hd hap
          simp only [List.drop_succ_cons, List.drop_zero]
          have HFB := Lib.hid (HW7.out W hb)
          clear hb
          go_wp2_with fail
          go_ret
          exact ⟨rfl, HFB.out⟩
end Go.Proofs.YtkdgbkhnnehedaaDoor.Mrk
