/- What a call leaves that only draws orders and makes memory, said to the letter: the world it got, some draws on, with new blocks behind. (The library's sorts ask for that of a comparison.) A region that draws its order whose callees do no more: one walk. -/
import Derived.Test.YtmjelcjdfamikaaGreatDoorCalmTail
import Derived.Sort.Grow
set_option linter.unusedSimpArgs false
set_option linter.unusedVariables false
namespace Go.Proofs.YtmjelcjdfamikaaGreatDoor
open Go.RowKit Go.Sort

def Lays (w w' : World) : Prop := ∃ (q : Nat) (os : Array Obj), w' = grow (w.drewN q) os
theorem Lays.refl (w : World) : Lays w w := ⟨0, #[], by rw [grow_empty]; rfl⟩
theorem Lays.trans {a b c : World} (h : Lays a b) (k : Lays b c) : Lays a c := by
  obtain ⟨q, os, rfl⟩ := h
  obtain ⟨q', os', rfl⟩ := k
  refine ⟨q + q', os ++ os', ?_⟩
  rw [← grow_grow, ← World.drewN_drewN]
  rfl
theorem Lays.alloc {a b : World} (h : Lays a b) (o : Obj) : Lays a (b.alloc o) := h.trans ⟨0, #[o], alloc_eq_grow b o⟩
theorem Lays.drewN {a b : World} (h : Lays a b) (n : Nat) : Lays a (b.drewN n) := h.trans ⟨n, #[], by rw [grow_empty]⟩
theorem Lays.drew {a b : World} (h : Lays a b) : Lays a b.drew := h.trans ⟨1, #[], by rw [grow_empty]; rfl⟩
theorem Lays.below {a b : World} (h : Lays a b) : Below a.heap.size a b := by
  obtain ⟨q, os, rfl⟩ := h
  exact ⟨rfl, rfl, rfl, by simp [World.drewN], fun i hi => heap_grow_old (a.drewN q) os hi⟩

/-- The worlds that are w, some draws on, with new blocks behind. -/
def GW (w : World) : Type := { w' : World // Lays w w' }
instance (w : World) : Nonempty (GW w) := ⟨⟨w, Lays.refl _⟩⟩
def GW.at {w : World} (x : GW w) : World := x.1
theorem GW.lays {w : World} (x : GW w) : Lays w x.at := x.2
theorem GW.cell {w : World} (x : GW w) {b : Nat} (h : b < w.heap.size) (o : Nat) : x.at.cell? ⟨b, o, none⟩ = w.cell? ⟨b, o, none⟩ := x.lays.below.cell (p := ⟨b, o, none⟩) h

@[go_sem] theorem GW.cell_sem {w : World} (x : GW w) (b o : Nat) (h : b < w.heap.size) : x.at.cell? ⟨b, o, none⟩ = w.cell? ⟨b, o, none⟩ := x.cell h o

theorem wp_region_lays {P : Program} {id : Nat} {Q : Exit → Act → World → Prop} {a : Act} {w : World} {l : List Oper} (hm : P.follows .mixedOrders = true) (hB : Region.lexB .any l.toArray = true)
    (h : wpQuiet P l.toArray (fun w' => ∃ x : GW w, w' = x.at) (fun a' => ∀ w', (∃ x : GW w, w' = x.at) → Q .normal a' w') l a) : (Code.region id l.toArray true).wp P Q a w :=
  wp_region_quiet (C := fun w' => ∃ x : GW w, w' = x.at) hm hB ⟨⟨w.drew, (Lays.refl _).drew⟩, rfl⟩ (by simpa using h)

theorem laid {P : Program} {f : FuncId} {args : Array Value} {w : World} {x : GW w} {v : Value}
    (h : Calls P f args x.at fun e w' => e = .returned v ∧ Lays x.at w') : Calls P f args x.at fun e w'' => e = .returned v ∧ ∃ y : GW w, w'' = y.at :=
  h.mono fun _ w' ⟨he, hb⟩ => ⟨he, ⟨w', x.lays.trans hb⟩, rfl⟩
theorem laid_same {P : Program} {f : FuncId} {args : Array Value} {w : World} {x : GW w} {v : Value}
    (h : Calls P f args x.at fun e w' => e = .returned v ∧ x.at = w') : Calls P f args x.at fun e w'' => e = .returned v ∧ ∃ y : GW w, w'' = y.at :=
  h.mono fun _ _ ⟨he, hb⟩ => ⟨he, x, hb.symm⟩

theorem wp_region_lays_tail {P : Program} {id : Nat} {Q : Exit → Act → World → Prop} {a : Act} {w : World} {l : List Oper} (n : Nat) (hm : P.follows .mixedOrders = true) (hB : Region.lexTailB .any l.toArray n = true)
    (h : wpQuiet P l.toArray (fun w' => ∃ x : GW w, w' = x.at) (fun a' => ∀ w', (∃ x : GW w, w' = x.at) → wpList P l.toArray Q (l.drop n) a' w') (l.take n) a) : (Code.region id l.toArray true).wp P Q a w := by
  have hB' := hB
  simp only [Region.lexTailB, Bool.and_eq_true, decide_eq_true_eq] at hB'
  obtain ⟨⟨⟨⟨hsel, hn⟩, hs⟩, hc⟩, hlex⟩ := hB'
  have hn' : n < l.length := by simpa using hn
  have htl : (l.take n).length = n := by rw [List.length_take]; omega
  have hdl : (l.drop n).length = l.toArray.size - n := by simp
  have inv : HeadInv .any l.toArray n (Array.replicate l.toArray.size false) :=
    ⟨by simp, fun j oj _ hl => (by rw [getD_replicate_false] at hl; exact Bool.noConfusion hl), fun t _ ht => getD_in (by simpa using ht) (getD_replicate_false _ _)⟩
  have H := headQ_text (md := .any) (g := l.toArray.size - n) hsel hs hc hn (l.take n) 0 _ a (fun j hj => by
    rw [htl] at hj
    simp [hj]) (by rw [htl, Nat.zero_add]) inv (by rw [htl]; exact hlex) h
  have H2 := headQ_any (Q := Q) (g := l.toArray.size - n) (fun listed a' w' hw' hL => by
    have := wpAny_of_seq (md := .any) (Q' := Q) (l.drop n) n listed a' w' (fun j => by simp [List.getElem?_drop]) (by rw [hdl]; exact hL.1) (hL.2 w' hw')
    rwa [hdl] at this) _ _ a w.drew ⟨⟨w.drew, (Lays.refl _).drew⟩, rfl⟩ H
  rw [htl, Nat.add_sub_cancel' (Nat.le_of_lt hn)] at H2
  exact wp_region_any hm H2
end Go.Proofs.YtmjelcjdfamikaaGreatDoor
