/- The trie in memory, a node more: what the two insertions and the stores come to. -/
import Derived.Test.YtehoanpjlinfaaaTriNext
namespace Go.Proofs.Ytehoanpjlinfaaa.Tri
open Go.RowKit

def Slim (σ : Store) (N : Nat) : Prop := ∀ b x, σ b = some x → x.runes.length ≤ N
/-- Each node stays one; what lies behind its four cells stays. -/
def Tail (σ τ : Store) (w w' : World) : Prop := ∀ k, σ k ≠ none → τ k ≠ none ∧ ∀ o, 4 ≤ o → w'.cell? ⟨k, o, none⟩ = w.cell? ⟨k, o, none⟩
theorem Tail.refl (σ : Store) (w : World) : Tail σ σ w w := fun _ h => ⟨h, fun _ _ => rfl⟩
theorem Tail.trans {σ τ υ : Store} {w w1 w2 : World} (h : Tail σ τ w w1) (k : Tail τ υ w1 w2) : Tail σ υ w w2 := fun b hb => ⟨(k b (h b hb).1).1, fun o ho => ((k b (h b hb).1).2 o ho).trans ((h b hb).2 o ho)⟩
def GrowPost (σ : Store) (b : Nat) (r : Int) (β N : Nat) (w : World) (e : Ending) (w' : World) : Prop :=
  ∃ τ c, e = .returned (enP c) ∧ Grows σ b r τ c ∧ τ c ≠ none ∧ Heap w' β τ ∧ Moves σ w τ w' ∧ Slim τ (N + 1) ∧ Tail σ τ w w'

theorem setCell_block {w : World} {b o : Nat} {cs : Array Value} {T : TypeId} {fr : Nat × Nat} (h : w.heap[b]? = some (.cells cs T fr)) (u : Value) : (w.setCell ⟨b, o, none⟩ u).heap[b]? = some (.cells (cs.setIfInBounds o u) T fr) := by
  rw [setCell_eq_setRow w b o cs T fr u h]
  exact setRow_heap w b _ _ _ _ h

theorem below_grown {w : World} (o1 : Obj) : ∀ k, k < w.heap.size → (w.alloc o1).heap[k]? = w.heap[k]? := fun k hk => Below.heap_alloc w o1 k hk

abbrev bareNode : Node := ⟨.slice none 0 0, .slice none 0 0, [], [], 0, false⟩
theorem bare_bare : Bare bareNode := ⟨rfl, rfl, rfl⟩

/-- Behind the two insertions: what the walk reads, and what is there. -/
theorem grown_heap {w w2 w6 : World} {β b N i g c1 g2 c2 c : Nat} {r : Int} {σ : Store} {x : Node} {o1 o3 : Obj} (H : Heap w β σ) (hx : σ b = some x) (hβ : β ≤ w.heap.size) (hr : r ∉ x.runes) (hS : Slim σ N) (hi : i ≤ x.runes.length)
    (I2 : ∀ y ∈ x.runes.take i, y < r) (I3 : ∀ y ∈ x.runes.drop i, r < y) (hg : (w.alloc o1).grownBy w2 x.rv.ownBlock)
    (ho : w2.ownsRow β 21 1 (.slice (some ⟨g, 0, none⟩) (x.runes.length + 1) c1) (x.runes.length + 1) ((x.runes.map enR).take i ++ [enR r] ++ (x.runes.map enR).drop i)) (hat : x.rv.ownBlock = some g ∨ (w.alloc o1).heap.size ≤ g)
    (hc : c = w2.heap.size) (hg2 : (((w2.setCell ⟨b, 0, none⟩ (.slice (some ⟨g, 0, none⟩) (x.runes.length + 1) c1)).alloc (.cells #[.slice none 0 0, .slice none 0 0, .int .i64 0, .bool false] 27)).alloc o3).grownBy w6 x.bv.ownBlock)
    (ho2 : w6.ownsRow β 96 1 (.slice (some ⟨g2, 0, none⟩) (x.runes.length + 1) c2) (x.runes.length + 1) ((x.below.map enP).take i ++ [enP c] ++ (x.below.map enP).drop i)) (hat2 : x.bv.ownBlock = some g2 ∨ w2.heap.size ≤ g2) :
    w6.frozen? ⟨b, 1, none⟩ = false ∧ (∃ u, w6.cell? ⟨b, 1, none⟩ = some u) ∧ (∀ u, (w6.setCell ⟨b, 1, none⟩ u).cell? ⟨g2, i, none⟩ = some (enP c)) ∧ b < w6.heap.size ∧
      GrowPost σ b r β N w (.returned (enP c)) (w6.setCell ⟨b, 1, none⟩ (.slice (some ⟨g2, 0, none⟩) (x.runes.length + 1) c2)) := by
  have hn := H.at_ b x hx
  have hbl := hn.lt
  obtain ⟨cs, T, hb0, hT1, hT2⟩ := hn.ty
  have hbo : x.rv.ownBlock ≠ some b := (hn.row_ne hn).1
  have hbp : x.bv.ownBlock ≠ some b := (hn.row_ne hn).2
  have hsz : w.heap.size < w2.heap.size := by have := hg.size; simp at this; omega
  have hsz6 : w2.heap.size + 2 ≤ w6.heap.size := by have := hg2.size; simp at this; omega
  have hb2 : w2.heap[b]? = some (.cells cs T (0, 0)) := ((hg.block b (by simp; omega) (fun e => hbo e.symm)).trans (Below.heap_alloc w _ b hbl)).trans hb0
  have hb6 : w6.heap[b]? = some (.cells (cs.setIfInBounds 0 (.slice (some ⟨g, 0, none⟩) (x.runes.length + 1) c1)) T (0, 0)) := by
    rw [hg2.block b (by simp; omega) (fun e => hbp e.symm), Below.heap_alloc _ _ b (by simp; omega), Below.heap_alloc _ _ b (by simp; omega)]
    exact setCell_block hb2 _
  have hb7 := fun u => setCell_block (o := 1) hb6 u
  have hcell : ∀ {W : World} {C : Array Value} {T : TypeId} (_ : W.heap[b]? = some (.cells C T (0, 0))) (o : Nat), W.cell? ⟨b, o, none⟩ = C[o]? := fun {W C T} h o => by unfold World.cell?; rw [h]; simp
  have hk0 := (hcell hb0 0).symm.trans hn.c0
  have hk1 := (hcell hb0 1).symm.trans hn.c1
  have hk2 := (hcell hb0 2).symm.trans hn.c2
  have hk3 := (hcell hb0 3).symm.trans hn.c3
  have hs0 := (Array.getElem?_eq_some_iff.1 hk0).1
  have hs1 := (Array.getElem?_eq_some_iff.1 hk1).1
  -- the blocks of rows
  obtain ⟨C1, hgb⟩ := own_type ho (g := g) rfl
  have hgl : β ≤ g ∧ g < w2.heap.size := ho.lt g rfl
  obtain ⟨C2, hgb2⟩ := own_type ho2 (g := g2) rfl
  have hg2l : β ≤ g2 ∧ g2 < w6.heap.size := ho2.lt g2 rfl
  have hgb' : g ≠ b := fun e => by rw [e, hb2] at hgb; cases hgb; exact hT1 rfl
  have hgb2' : g2 ≠ b := fun e => by rw [e, hb6] at hgb2; cases hgb2; exact hT2 rfl
  have hgp : x.bv.ownBlock ≠ some g := fun e => by
    obtain ⟨C3, h3⟩ := own_type hn.br e
    have h4 := (hn.br.lt g e).2
    rcases hat with h5 | h5
    · obtain ⟨C4, h6⟩ := own_type hn.rr h5
      rw [h3] at h6; simp at h6
    · simp at h5; omega
  have old : ∀ k, k < w.heap.size → k ≠ b → x.rv.ownBlock ≠ some k → x.bv.ownBlock ≠ some k → w6.heap[k]? = w.heap[k]? := fun k h1 h2 h3 h4 => by
    rw [hg2.block k (by simp; omega) (fun e => h4 e.symm), Below.heap_alloc _ _ k (by simp; omega), Below.heap_alloc _ _ k (by simp; omega), Below.heap_setCell _ _ _ k h2, hg.block k (by simp; omega) (fun e => h3 e.symm), Below.heap_alloc _ _ k h1]
  have hc6 : w6.heap[c]? = some (.cells #[.slice none 0 0, .slice none 0 0, .int .i64 0, .bool false] 27 (0, 0)) := by
    rw [hg2.block c (by simp; omega) (fun e => by have := (hn.br.lt c e.symm).2; omega), Below.heap_alloc _ _ c (by simp; omega), hc]
    show ((w2.setCell _ _).heap.push _)[w2.heap.size]? = _
    rw [show w2.heap.size = (w2.setCell ⟨b, 0, none⟩ (.slice (some ⟨g, 0, none⟩) (x.runes.length + 1) c1)).heap.size by simp, Array.getElem?_push_size]
  have hcb : c ≠ b := by omega
  have hlen : ((x.below.map enP).take i).length = i := by rw [List.length_take, List.length_map, hn.ok.same]; omega
  refine ⟨by unfold World.frozen?; rw [hb6]; simp, ⟨_, (hcell hb6 1).trans (by rw [Array.getElem?_setIfInBounds_ne (by omega)]; exact hk1)⟩, fun u => ?_, by omega, ?_⟩
  · rw [World.cell?_of_block (w := w6) (a := ⟨g2, i, none⟩) (Below.heap_setCell w6 _ _ g2 hgb2')]
    have := ho2.cellAt i (by omega)
    rw [this, List.append_assoc, List.getElem?_append_right (by rw [hlen]; exact Nat.le_refl _), hlen]
    simp
  · obtain ⟨x1, hx1⟩ : ∃ x1 : Node, x1 = ⟨.slice (some ⟨g, 0, none⟩) (x.runes.length + 1) c1, .slice (some ⟨g2, 0, none⟩) (x.runes.length + 1) c2, x.runes.take i ++ r :: x.runes.drop i, x.below.take i ++ c :: x.below.drop i, x.n, x.is⟩ := ⟨_, rfl⟩
    have hl1 : x1.runes.length = x.runes.length + 1 := by rw [hx1]; simp; omega
    have hl2 : x1.below.length = x.runes.length + 1 := by rw [hx1]; simp [hn.ok.same]; omega
    have hok1 : x1.Ok := by
      refine ⟨?_, by rw [hl1, hl2]⟩
      rw [hx1]
      have h1 := hn.ok.rise
      have h2 : (x.runes.take i ++ x.runes.drop i).Pairwise (· < ·) := by rw [List.take_append_drop]; exact h1
      rw [List.pairwise_append] at h2
      obtain ⟨p1, p2, p3⟩ := h2
      show (x.runes.take i ++ r :: x.runes.drop i).Pairwise (· < ·)
      rw [List.pairwise_append]
      refine ⟨p1, List.pairwise_cons.2 ⟨fun y hy => I3 y hy, p2⟩, fun y hy z hz => ?_⟩
      rcases List.mem_cons.1 hz with rfl | hz
      · exact I2 y hy
      · exact p3 y hy z hz
    obtain ⟨w7, hw7⟩ : ∃ w7, w7 = w6.setCell ⟨b, 1, none⟩ (.slice (some ⟨g2, 0, none⟩) (x.runes.length + 1) c2) := ⟨_, rfl⟩
    have hb7' : w7.heap[b]? = some (.cells ((cs.setIfInBounds 0 (.slice (some ⟨g, 0, none⟩) (x.runes.length + 1) c1)).setIfInBounds 1 (.slice (some ⟨g2, 0, none⟩) (x.runes.length + 1) c2)) T (0, 0)) := by rw [hw7]; exact hb7 _
    have h7o : ∀ k, k ≠ b → w7.heap[k]? = w6.heap[k]? := fun k hk => by rw [hw7]; exact Below.heap_setCell w6 _ _ k hk
    have hn1 : NodeAt w7 β b x1 := by
      refine ⟨hn.lo, ⟨_, T, hb7', hT1, hT2⟩, ?_, ?_, ?_, ?_, ?_, ?_, hok1⟩
      · rw [hcell hb7', Array.getElem?_setIfInBounds_ne (by omega), Array.getElem?_setIfInBounds_self_of_lt (by omega), hx1]
      · rw [hcell hb7', Array.getElem?_setIfInBounds_self_of_lt (by simpa using hs1), hx1]
      · rw [hcell hb7', Array.getElem?_setIfInBounds_ne (by omega), Array.getElem?_setIfInBounds_ne (by omega), hk2, hx1]
      · rw [hcell hb7', Array.getElem?_setIfInBounds_ne (by omega), Array.getElem?_setIfInBounds_ne (by omega), hk3, hx1]
      · rw [hl1, hx1]
        have e1 : (x.runes.take i ++ r :: x.runes.drop i).map enR = (x.runes.map enR).take i ++ [enR r] ++ (x.runes.map enR).drop i := by simp
        rw [e1]
        refine own_same ho fun k hk => ?_
        have hk : g = k := by simpa [Value.ownBlock] using hk
        subst hk
        rw [h7o g hgb', hg2.block g (by simp; omega) (fun e => hgp e.symm), Below.heap_alloc _ _ g (by simp; omega), Below.heap_alloc _ _ g (by simp; omega), Below.heap_setCell _ _ _ g hgb']
      · rw [hl2, hx1]
        have e1 : (x.below.take i ++ c :: x.below.drop i).map enP = (x.below.map enP).take i ++ [enP c] ++ (x.below.map enP).drop i := by simp
        rw [e1]
        exact own_same ho2 fun k hk => by
          have hk : g2 = k := by simpa [Value.ownBlock] using hk
          subst hk; exact h7o _ hgb2'
    have hσc : σ c = none := by
      cases hq : σ c with
      | none => rfl
      | some z => have := (H.at_ c z hq).lt; omega
    have hnc : NodeAt w7 β c bareNode := by
      have h7c := (h7o c hcb).trans hc6
      have hcc : ∀ o, w7.cell? ⟨c, o, none⟩ = (#[Value.slice none 0 0, .slice none 0 0, .int .i64 0, .bool false] : Array Value)[o]? := fun o => by unfold World.cell?; rw [h7c]; simp
      exact ⟨by omega, ⟨_, _, h7c, by decide, by decide⟩, hcc 0, hcc 1, hcc 2, hcc 3, World.ownsRow_nil _ _ _ _, World.ownsRow_nil _ _ _ _, bare_bare.ok⟩
    obtain ⟨τ, hτ⟩ : ∃ τ, τ = (σ.set b x1).set c bareNode := ⟨_, rfl⟩
    have hτb : τ b = some x1 := by rw [hτ, Store.set_other _ _ (Ne.symm hcb)]; exact Store.set_same _ _ _
    have hτc : τ c = some bareNode := by rw [hτ]; exact Store.set_same _ _ _
    have hτo : ∀ k, k ≠ b → k ≠ c → τ k = σ k := fun k h1 h2 => by rw [hτ, Store.set_other _ _ h2, Store.set_other _ _ h1]
    have hdomτ : ∀ k, σ k ≠ none → τ k ≠ none := fun k hk => by
      by_cases h1 : k = b
      · rw [h1, hτb]; simp
      by_cases h2 : k = c
      · rw [h2, hτc]; simp
      rw [hτo k h1 h2]; exact hk
    have K := H.turn (w' := w7) (τ := τ) (x1 := x1) hx (fun k h1 h2 h3 h4 => (h7o k h2).trans (old k h1 h2 h3 h4)) hn1
      (by rw [hx1]; rcases hat with h1 | h1
          · left; exact h1.symm
          · right; intro q hq; have hq : g = q := by simpa [Value.ownBlock] using hq
            subst hq; simp at h1; omega)
      (by rw [hx1]; rcases hat2 with h1 | h1
          · left; exact h1.symm
          · right; intro q hq; have hq : g2 = q := by simpa [Value.ownBlock] using hq
            subst hq; omega)
      hτb (fun k y h1 h2 => by
        by_cases h3 : k = c
        · subst h3
          cases hτc.symm.trans h2
          exact Or.inr ⟨by omega, hnc, rfl, rfl⟩
        · rw [hτo k h1 h3] at h2; exact Or.inl h2)
      (fun k y h1 e he => by
        by_cases h3 : k = b
        · subst h3
          cases hτb.symm.trans h1
          rw [hx1] at he
          have he : e ∈ x.below.take i ++ c :: x.below.drop i := he
          rcases List.mem_append.1 he with he | he
          · exact hdomτ e (H.dom k x hx e (List.mem_of_mem_take he))
          · rcases List.mem_cons.1 he with rfl | he
            · rw [hτc]; simp
            · exact hdomτ e (H.dom k x hx e (List.mem_of_mem_drop he))
        · by_cases h4 : k = c
          · subst h4
            cases hτc.symm.trans h1
            cases he
          · rw [hτo k h3 h4] at h1
            exact hdomτ e (H.dom k y h1 e he))
    refine ⟨τ, c, rfl, Or.inr ⟨x, x1, i, bareNode, hx, hr, hok1, hi, by rw [hx1], by rw [hx1], by rw [hx1], by rw [hx1], hσc, bare_bare, hτ⟩, by rw [hτc]; simp, hw7 ▸ K.1, ?_, fun k y hk => ?_, fun k hk => ⟨hdomτ k hk, fun o ho => ?_⟩⟩
    · rw [← hw7]
      refine ⟨?_, ?_, ?_, ?_, fun k h1 h2 => ?_, K.2⟩
      · rw [hw7]; exact (hg2.os.trans (show w2.os = w.os from hg.os))
      · rw [hw7]; exact (hg2.tape.trans (show w2.tape = w.tape from hg.tape))
      · rw [hw7]; exact (hg2.output.trans (show w2.output = w.output from hg.output))
      · rw [hw7]; simp; omega
      · have e1 : k ≠ b := fun e => h2 ⟨b, x, hx, Or.inl e⟩
        exact (h7o k e1).trans (old k h1 e1 (fun e => h2 ⟨b, x, hx, Or.inr (Or.inl e)⟩) (fun e => h2 ⟨b, x, hx, Or.inr (Or.inr e)⟩))
    · by_cases h3 : k = b
      · subst h3
        cases hτb.symm.trans hk
        rw [hl1]; have := hS k x hx; omega
      · by_cases h4 : k = c
        · subst h4
          cases hτc.symm.trans hk
          simp
        · rw [hτo k h3 h4] at hk
          have := hS k y hk; omega
    · rw [← hw7]
      by_cases h3 : k = b
      · subst h3
        rw [hcell hb7', hcell hb0, Array.getElem?_setIfInBounds_ne (by omega), Array.getElem?_setIfInBounds_ne (by omega)]
      · cases hq : σ k with
        | none => exact absurd hq hk
        | some y =>
          have hyn := H.at_ k y hq
          exact World.cell?_of_block (w := w) (a := ⟨k, o, none⟩) ((h7o k h3).trans (old k hyn.lt h3 (hyn.row_ne hn).1 (hyn.row_ne hn).2))
end Go.Proofs.Ytehoanpjlinfaaa.Tri
