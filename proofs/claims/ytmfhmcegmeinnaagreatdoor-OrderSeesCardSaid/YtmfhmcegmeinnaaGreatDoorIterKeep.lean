/- What a loop's body may write, told from the world: boxes of its own and the rows in them; all other cells are kept (for loops over iterators that hold rows that they made). -/
import Derived.Test.YtmfhmcegmeinnaaGreatDoorRange
set_option linter.unusedSimpArgs false
set_option linter.unusedVariables false
namespace Go.Proofs.YtmfhmcegmeinnaaGreatDoor
open Go.RowKit Go.Shelf

/-- The block of the row that lies in a box. -/
def blk (W : World) (B : Nat) : Option Nat := match W.heap[B]? with
  | some (.cells cs _ _) => (cs[0]?).bind Value.ownBlock
  | _ => none
/-- What a round may write: these boxes, and the rows in them. -/
def Mine (Bs : List Nat) (W : World) (i : Nat) : Prop := i ∈ Bs ∨ ∃ B, B ∈ Bs ∧ blk W B = some i
/-- What a round keeps: all that came with it, and all cells, but for what is its own. -/
def KV (base : Nat) (Bs : List Nat) (A C : World) : Prop := A.heap.size ≤ C.heap.size ∧ ∀ i o, A.heap[i]? = some o → ¬ Mine Bs A i → (i < base ∨ o.isCells = true) → C.heap[i]? = some o ∧ ¬ Mine Bs C i
theorem KV.trans {base : Nat} {Bs : List Nat} {A C D : World} (h : KV base Bs A C) (k : KV base Bs C D) : KV base Bs A D :=
  ⟨Nat.le_trans h.1 k.1, fun i o hA hm hc => by obtain ⟨hC, hm2⟩ := h.2 i o hA hm hc; exact k.2 i o hC hm2 hc⟩
theorem KV.refl (base : Nat) (Bs : List Nat) (A : World) : KV base Bs A A := ⟨Nat.le_refl _, fun _ _ h hm _ => ⟨h, hm⟩⟩
theorem KV.put {base : Nat} {Bs : List Nat} (hBs : ∀ B ∈ Bs, B < base) (W : World) (l : Nat) (o o' : Obj) (hl : base ≤ l) (hW : W.heap[l]? = some o) (ho : o.isCells = false) : KV base Bs W (W.putObj l o') := by
  have hlt : l < W.heap.size := (Array.getElem?_eq_some_iff.1 hW).1
  have hsame : ∀ j, j < W.heap.size → j ≠ l → (W.putObj l o').heap[j]? = W.heap[j]? := fun j hj hne => (grownBy_putObj' W l o').block j hj (fun e => hne (by cases e; rfl))
  refine ⟨by simp, fun i x hi hm hc => ?_⟩
  have hne : i ≠ l := by
    rintro rfl
    rw [hW] at hi
    cases hi
    rcases hc with h | h
    · omega
    · rw [ho] at h; cases h
  have hil : i < W.heap.size := (Array.getElem?_eq_some_iff.1 hi).1
  refine ⟨(hsame i hil hne).trans hi, fun h => hm ?_⟩
  rcases h with h | ⟨B, h1, h2⟩
  · exact Or.inl h
  · refine Or.inr ⟨B, h1, ?_⟩
    have := hBs B h1
    unfold blk at h2 ⊢
    rwa [hsame B (by omega) (by omega)] at h2
theorem blk_box {W : World} {B : Nat} {t : TypeId} {v : Value} (h : Boxed W B t v) : blk W B = v.ownBlock := by
  unfold blk
  rw [show W.heap[B]? = _ from h]
  rfl
theorem kv_grown {base : Nat} {Bs : List Nat} {A C : World} {row : Option Nat} (hg : A.grownBy C row) (hrow : ∀ r, row = some r → Mine Bs A r) (hmine : ∀ i, i < A.heap.size → Mine Bs C i → Mine Bs A i) : KV base Bs A C :=
  ⟨hg.size, fun i o hi hm _ => by
    have hlt : i < A.heap.size := (Array.getElem?_eq_some_iff.1 hi).1
    exact ⟨(hg.block i hlt (fun e => hm (hrow i e.symm))).trans hi, fun h => hm (hmine i hlt h)⟩⟩
theorem mine_same {Bs : List Nat} {A C : World} (h : ∀ B ∈ Bs, C.heap[B]? = A.heap[B]?) (i : Nat) (hm : Mine Bs C i) : Mine Bs A i := by
  rcases hm with h1 | ⟨B, h1, h2⟩
  · exact Or.inl h1
  · refine Or.inr ⟨B, h1, ?_⟩
    unfold blk at h2 ⊢
    rwa [h B h1] at h2
theorem kv_below {base : Nat} {Bs : List Nat} {A C : World} (hBs : ∀ B ∈ Bs, B < A.heap.size) (hb : Below A.heap.size A C) : KV base Bs A C :=
  kv_grown (row := none) ⟨hb.os, hb.tape, hb.output, hb.size, fun i hi _ => hb.block i hi⟩ (fun r e => by cases e) fun i _ => mine_same (fun B hB => hb.block B (hBs B hB)) i
theorem kv_append {base B : Nat} {W w1 : World} {t : TypeId} {v v' : Value} {tmp : Obj} (hB : Boxed W B t v) (hC : Boxed (w1.setCell ⟨B, 0, none⟩ v') B t v') (hgrow : (W.alloc tmp).grownBy w1 v.ownBlock)
    (hat : v'.ownBlock = v.ownBlock ∨ v'.ownBlock = some (W.alloc tmp).heap.size) : KV base [B] W (w1.setCell ⟨B, 0, none⟩ v') := by
  have hsz := hgrow.size
  rw [World.size_alloc] at hsz
  refine ⟨by simp; omega, fun i o hi hm _ => ?_⟩
  have hlt : i < W.heap.size := (Array.getElem?_eq_some_iff.1 hi).1
  have hne : i ≠ B := fun e => hm (Or.inl (by simp [e]))
  have hown : v.ownBlock ≠ some i := fun e => hm (Or.inr ⟨B, by simp, (blk_box hB).trans e⟩)
  refine ⟨?_, fun h => ?_⟩
  · rw [(grownBy_setCell' w1 B v').block i (by omega) (by simp; exact hne), hgrow.block i (by simp; omega) (fun e => hown e.symm)]
    exact (Below.heap_alloc W tmp i hlt).trans hi
  · rcases h with h | ⟨B', h1, h2⟩
    · exact hne (by simpa using h)
    · obtain rfl : B' = B := by simpa using h1
      rw [blk_box hC] at h2
      rcases hat with h3 | h3
      · exact hown (h3.symm.trans h2)
      · rw [h3] at h2
        cases h2
        simp at hlt
        omega
/-- A row of the call's own, in no block that the body may write. -/
def Safe (Bs : List Nat) (e : TypeId) (sz : Nat) (v : Value) (n : Nat) (xs : List Value) (W : World) : Prop := W.ownsRow 0 e sz v n xs ∧ ∀ g, v.ownBlock = some g → ¬ Mine Bs W g
theorem Safe.keep {base : Nat} {Bs : List Nat} {e : TypeId} {sz n : Nat} {v : Value} {xs : List Value} {A C : World} (h : Safe Bs e sz v n xs A) (k : KV base Bs A C) : Safe Bs e sz v n xs C := by
  obtain ⟨⟨hlen, hc⟩, h6⟩ := h
  rcases hc with ⟨rfl, h0⟩ | ⟨g, cap, cur, rfl, r0, r1, r2⟩
  · exact ⟨⟨hlen, Or.inl ⟨rfl, h0⟩⟩, fun g hg => by cases hg⟩
  · obtain ⟨q1, q2⟩ := k.2 g _ r1 (h6 g rfl) (Or.inr rfl)
    exact ⟨⟨hlen, Or.inr ⟨g, cap, cur, rfl, r0, q1, r2⟩⟩, fun g' hg => by cases hg; exact q2⟩
/-- A box that came, not the body's. -/
def SafeBox (Bs : List Nat) (B : Nat) (t : TypeId) (v : Value) (W : World) : Prop := Boxed W B t v ∧ ¬ Mine Bs W B
theorem SafeBox.keep {base : Nat} {Bs : List Nat} {B : Nat} {t : TypeId} {v : Value} {A C : World} (hB : B < base) (h : SafeBox Bs B t v A) (k : KV base Bs A C) : SafeBox Bs B t v C := k.2 B _ h.1 h.2 (Or.inl hB)
end Go.Proofs.YtmfhmcegmeinnaaGreatDoor
