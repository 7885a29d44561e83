/- A trie in memory: nodes and their rows, each in a block of its own; what a step may turn. -/
import Derived.Test.YtehoanpjlinfaaaTriPut
import Derived.Test.YtehoanpjlinfaaaTriBs
import Derived.Test.YtehoanpjlinfaaaRuneIns
import Derived.Test.YtehoanpjlinfaaaPtrIns
namespace Go.Proofs.Ytehoanpjlinfaaa.Tri
open Go.RowKit

abbrev enR (r : Int) : Value := .int .i32 r
abbrev enP (c : Nat) : Value := .pointer (some ⟨c, 0, none⟩)
abbrev TR : TypeId := 21
abbrev TP : TypeId := 96

structure NodeAt (w : World) (β : Nat) (b : Nat) (x : Node) : Prop where
  lo : β ≤ b
  ty : ∃ cs T, w.heap[b]? = some (.cells cs T (0, 0)) ∧ T ≠ 21 ∧ T ≠ 96
  c0 : w.cell? ⟨b, 0, none⟩ = some x.rv
  c1 : w.cell? ⟨b, 1, none⟩ = some x.bv
  c2 : w.cell? ⟨b, 2, none⟩ = some (.int .i64 x.n)
  c3 : w.cell? ⟨b, 3, none⟩ = some (.bool x.is)
  rr : w.ownsRow β 21 1 x.rv x.runes.length (x.runes.map enR)
  br : w.ownsRow β 96 1 x.bv x.below.length (x.below.map enP)
  ok : x.Ok

theorem NodeAt.lt {w : World} {β b : Nat} {x : Node} (h : NodeAt w β b x) : b < w.heap.size := by
  obtain ⟨cs, T, h1, _⟩ := h.ty
  exact (Array.getElem?_eq_some_iff.1 h1).1
theorem NodeAt.free {w : World} {β b : Nat} {x : Node} (h : NodeAt w β b x) (o : Nat) : w.frozen? ⟨b, o, none⟩ = false := by
  obtain ⟨cs, T, h1, _⟩ := h.ty
  unfold World.frozen?
  rw [h1]
  simp

def Uses (σ : Store) (i : Nat) : Prop := ∃ b x, σ b = some x ∧ (i = b ∨ x.rv.ownBlock = some i ∨ x.bv.ownBlock = some i)

structure Heap (w : World) (β : Nat) (σ : Store) : Prop where
  at_ : ∀ b x, σ b = some x → NodeAt w β b x
  rap : ∀ b x c y, σ b = some x → σ c = some y → b ≠ c → ∀ g, x.rv.ownBlock = some g → y.rv.ownBlock ≠ some g
  bap : ∀ b x c y, σ b = some x → σ c = some y → b ≠ c → ∀ g, x.bv.ownBlock = some g → y.bv.ownBlock ≠ some g
  dom : ∀ b x, σ b = some x → ∀ c ∈ x.below, σ c ≠ none

theorem own_same {w w' : World} {β : Nat} {e : TypeId} {k : Nat} {v : Value} {n : Nat} {xs : List Value} (h : w.ownsRow β e k v n xs) (hs : ∀ g, v.ownBlock = some g → w'.heap[g]? = w.heap[g]?) : w'.ownsRow β e k v n xs := by
  refine ⟨h.1, ?_⟩
  rcases h.2 with h | ⟨g, cap, cur, rfl, h2, h3, h4⟩
  · exact Or.inl h
  · exact Or.inr ⟨g, cap, cur, rfl, h2, (hs g rfl).trans h3, h4⟩
theorem own_type {w : World} {β : Nat} {e : TypeId} {k : Nat} {v : Value} {n : Nat} {xs : List Value} (h : w.ownsRow β e k v n xs) {g : Nat} (hg : v.ownBlock = some g) : ∃ cs, w.heap[g]? = some (.cells cs e (0, 0)) := by
  rcases h.2 with ⟨rfl, _⟩ | ⟨g', cap, cur, rfl, h2, h3, h4⟩
  · cases hg
  · cases hg; exact ⟨cur, h3⟩

theorem NodeAt.same {w w' : World} {β b : Nat} {x : Node} (h : NodeAt w β b x) (hs : ∀ i, (i = b ∨ x.rv.ownBlock = some i ∨ x.bv.ownBlock = some i) → w'.heap[i]? = w.heap[i]?) : NodeAt w' β b x := by
  have hb := hs b (Or.inl rfl)
  refine ⟨h.lo, ?_, ?_, ?_, ?_, ?_, own_same h.rr fun g hg => hs g (Or.inr (Or.inl hg)), own_same h.br fun g hg => hs g (Or.inr (Or.inr hg)), h.ok⟩
  · obtain ⟨cs, T, h1, h2⟩ := h.ty; exact ⟨cs, T, hb.trans h1, h2⟩
  · exact (World.cell?_of_block (w := w) (a := ⟨b, 0, none⟩) hb).trans h.c0
  · exact (World.cell?_of_block (w := w) (a := ⟨b, 1, none⟩) hb).trans h.c1
  · exact (World.cell?_of_block (w := w) (a := ⟨b, 2, none⟩) hb).trans h.c2
  · exact (World.cell?_of_block (w := w) (a := ⟨b, 3, none⟩) hb).trans h.c3
theorem Heap.same {w w' : World} {β : Nat} {σ : Store} (h : Heap w β σ) (hs : ∀ i, Uses σ i → w'.heap[i]? = w.heap[i]?) : Heap w' β σ :=
  ⟨fun b x hx => (h.at_ b x hx).same fun i hi => hs i ⟨b, x, hx, hi⟩, h.rap, h.bap, h.dom⟩
theorem Heap.uses_lt {w : World} {β : Nat} {σ : Store} (h : Heap w β σ) {i : Nat} (hi : Uses σ i) : β ≤ i ∧ i < w.heap.size := by
  obtain ⟨b, x, hx, hi⟩ := hi
  have hn := h.at_ b x hx
  rcases hi with rfl | hi | hi
  · exact ⟨hn.lo, hn.lt⟩
  · exact hn.rr.lt i hi
  · exact hn.br.lt i hi
theorem Heap.below {w w' : World} {β : Nat} {σ : Store} (h : Heap w β σ) (hb : Below w.heap.size w w') : Heap w' β σ := h.same fun i hi => hb.block i (h.uses_lt hi).2

/-- What a step does to memory: only the trie's own blocks turn, and new ones are there. -/
structure Moves (σ : Store) (w : World) (τ : Store) (w' : World) : Prop where
  os : w'.os = w.os
  tape : w'.tape = w.tape
  output : w'.output = w.output
  size : w.heap.size ≤ w'.heap.size
  block : ∀ i, i < w.heap.size → ¬ Uses σ i → w'.heap[i]? = w.heap[i]?
  uses : ∀ i, Uses τ i → Uses σ i ∨ w.heap.size ≤ i
theorem Moves.refl (σ : Store) (w : World) : Moves σ w σ w := ⟨rfl, rfl, rfl, Nat.le_refl _, fun _ _ _ => rfl, fun _ h => Or.inl h⟩
theorem Moves.trans {σ τ υ : Store} {w w1 w2 : World} (h : Moves σ w τ w1) (k : Moves τ w1 υ w2) : Moves σ w υ w2 :=
  ⟨k.os.trans h.os, k.tape.trans h.tape, k.output.trans h.output, Nat.le_trans h.size k.size, fun i hi hu => (k.block i (Nat.lt_of_lt_of_le hi h.size) fun e => (h.uses i e).elim hu fun e => by omega).trans (h.block i hi hu),
    fun i hi => (k.uses i hi).elim (h.uses i) fun e => Or.inr (Nat.le_trans h.size e)⟩
theorem Moves.below {σ : Store} {w w' : World} (hb : Below w.heap.size w w') : Moves σ w σ w' := ⟨hb.os, hb.tape, hb.output, hb.size, fun i hi _ => hb.block i hi, fun _ h => Or.inl h⟩
theorem Moves.to_below {σ τ : Store} {w w' : World} {β : Nat} (h : Moves σ w τ w') (hu : ∀ i, Uses σ i → β ≤ i) (hb : β ≤ w.heap.size) : Below β w w' :=
  ⟨h.os, h.tape, h.output, h.size, fun i hi => h.block i (Nat.lt_of_lt_of_le hi hb) fun e => by have := hu i e; omega⟩

/-- No two things lie in one block. -/
theorem NodeAt.row_ne {w : World} {β β' b c : Nat} {x y : Node} (h : NodeAt w β b x) (k : NodeAt w β' c y) : y.rv.ownBlock ≠ some b ∧ y.bv.ownBlock ≠ some b := by
  obtain ⟨cs, T, h1, h2, h3⟩ := h.ty
  constructor
  · intro e
    obtain ⟨cs', e'⟩ := own_type k.rr e
    rw [h1] at e'; cases e'; exact h2 rfl
  · intro e
    obtain ⟨cs', e'⟩ := own_type k.br e
    rw [h1] at e'; cases e'; exact h3 rfl
theorem NodeAt.rows_ne {w : World} {β β' b c : Nat} {x y : Node} (h : NodeAt w β b x) (k : NodeAt w β' c y) {g : Nat} (hg : x.rv.ownBlock = some g) : y.bv.ownBlock ≠ some g := by
  intro e
  obtain ⟨cs, h1⟩ := own_type h.rr hg
  obtain ⟨cs', e'⟩ := own_type k.br e
  rw [h1] at e'
  simp at e'

theorem Heap.turn {w w' : World} {β : Nat} {σ τ : Store} {b : Nat} {x x1 : Node} (h : Heap w β σ) (hx : σ b = some x) (hs : ∀ i, i < w.heap.size → i ≠ b → x.rv.ownBlock ≠ some i → x.bv.ownBlock ≠ some i → w'.heap[i]? = w.heap[i]?)
    (hn : NodeAt w' β b x1) (hr : x1.rv.ownBlock = x.rv.ownBlock ∨ ∀ g, x1.rv.ownBlock = some g → w.heap.size ≤ g) (hb : x1.bv.ownBlock = x.bv.ownBlock ∨ ∀ g, x1.bv.ownBlock = some g → w.heap.size ≤ g) (hτb : τ b = some x1)
    (hτ : ∀ k y, k ≠ b → τ k = some y → σ k = some y ∨ (w.heap.size ≤ k ∧ NodeAt w' β k y ∧ y.rv.ownBlock = none ∧ y.bv.ownBlock = none)) (hd : ∀ k y, τ k = some y → ∀ c ∈ y.below, τ c ≠ none) :
    Heap w' β τ ∧ ∀ i, Uses τ i → Uses σ i ∨ w.heap.size ≤ i := by
  have hxn := h.at_ b x hx
  have hold : ∀ k y, k ≠ b → σ k = some y → NodeAt w' β k y := fun k y hk hy => by
    have hyn := h.at_ k y hy
    refine hyn.same fun i hi => ?_
    rcases hi with rfl | hi | hi
    · exact hs i hyn.lt hk (hyn.row_ne hxn).1 (hyn.row_ne hxn).2
    · exact hs i (hyn.rr.lt i hi).2 (fun e => (hxn.row_ne hyn).1 (by rw [← e]; exact hi)) (h.rap k y b x hy hx hk i hi) (fun e => (hyn.rows_ne hxn hi) e)
    · exact hs i (hyn.br.lt i hi).2 (fun e => (hxn.row_ne hyn).2 (by rw [← e]; exact hi)) (fun e => (hxn.rows_ne hyn e) hi) (h.bap k y b x hy hx hk i hi)
  have hall : ∀ k y, τ k = some y → NodeAt w' β k y := fun k y hk => by
    by_cases e : k = b
    · subst e; cases hτb.symm.trans hk; exact hn
    · rcases hτ k y e hk with h1 | h1
      · exact hold k y e h1
      · exact h1.2.1
  have hltr : ∀ k y, σ k = some y → ∀ g, y.rv.ownBlock = some g → g < w.heap.size := fun k y hk g hg => ((h.at_ k y hk).rr.lt g hg).2
  have hltb : ∀ k y, σ k = some y → ∀ g, y.bv.ownBlock = some g → g < w.heap.size := fun k y hk g hg => ((h.at_ k y hk).br.lt g hg).2
  refine ⟨⟨hall, fun k y c z hy hz hkc g hg => ?_, fun k y c z hy hz hkc g hg => ?_, hd⟩, fun i hi => ?_⟩
  · by_cases e1 : k = b
    · subst e1
      cases hτb.symm.trans hy
      rcases hτ c z (fun e => hkc e.symm) hz with h1 | ⟨_, _, h1, _⟩
      · rcases hr with h2 | h2
        · rw [h2] at hg; exact h.rap k x c z hx h1 hkc g hg
        · intro h3; have := h2 g hg; have := hltr c z h1 g h3; omega
      · rw [h1]; simp
    · rcases hτ k y e1 hy with h1 | ⟨_, _, h1, _⟩
      · by_cases e2 : c = b
        · subst e2
          cases hτb.symm.trans hz
          intro h3
          rcases hr with h2 | h2
          · rw [h2] at h3; exact h.rap k y c x h1 hx hkc g hg h3
          · have := h2 g h3; have := hltr k y h1 g hg; omega
        · rcases hτ c z e2 hz with h2 | ⟨_, _, h2, _⟩
          · exact h.rap k y c z h1 h2 hkc g hg
          · rw [h2]; simp
      · rw [h1] at hg; cases hg
  · by_cases e1 : k = b
    · subst e1
      cases hτb.symm.trans hy
      rcases hτ c z (fun e => hkc e.symm) hz with h1 | ⟨_, _, _, h1⟩
      · rcases hb with h2 | h2
        · rw [h2] at hg; exact h.bap k x c z hx h1 hkc g hg
        · intro h3; have := h2 g hg; have := hltb c z h1 g h3; omega
      · rw [h1]; simp
    · rcases hτ k y e1 hy with h1 | ⟨_, _, _, h1⟩
      · by_cases e2 : c = b
        · subst e2
          cases hτb.symm.trans hz
          intro h3
          rcases hb with h2 | h2
          · rw [h2] at h3; exact h.bap k y c x h1 hx hkc g hg h3
          · have := h2 g h3; have := hltb k y h1 g hg; omega
        · rcases hτ c z e2 hz with h2 | ⟨_, _, _, h2⟩
          · exact h.bap k y c z h1 h2 hkc g hg
          · rw [h2]; simp
      · rw [h1] at hg; cases hg
  · obtain ⟨k, y, hy, hi⟩ := hi
    by_cases e : k = b
    · subst e
      cases hτb.symm.trans hy
      rcases hi with rfl | hi | hi
      · exact Or.inl ⟨i, x, hx, Or.inl rfl⟩
      · rcases hr with h2 | h2
        · exact Or.inl ⟨k, x, hx, Or.inr (Or.inl (h2 ▸ hi))⟩
        · exact Or.inr (h2 i hi)
      · rcases hb with h2 | h2
        · exact Or.inl ⟨k, x, hx, Or.inr (Or.inr (h2 ▸ hi))⟩
        · exact Or.inr (h2 i hi)
    · rcases hτ k y e hy with h1 | ⟨h1, _, h2, h3⟩
      · exact Or.inl ⟨k, y, h1, hi⟩
      · rcases hi with rfl | hi | hi
        · exact Or.inr h1
        · rw [h2] at hi; cases hi
        · rw [h3] at hi; cases hi
end Go.Proofs.Ytehoanpjlinfaaa.Tri
