/- Layer 18 (tier): groups of places in memory. -/
import Derived.Test.YtihfcohebgemdaaTierGrp
import Derived.Test.YtihfcohebgemdaaTierStable
import Derived.Test.YtihfcohebgemdaaAppendLoc
import Derived.Laws.OwnMore
set_option linter.unusedSimpArgs false
set_option linter.unusedVariables false
namespace Go.Proofs.Ytihfcohebgemdaa.Tier
open Go.RowKit Go.Proofs.Ytihfcohebgemdaa.Ints Go.Proofs.Ytihfcohebgemdaa.Spare

theorem info_L : (Try.prog.info? 22).map (fun i => (i.zero, i.size, i.bytes)) = some (some (.slice none 0 0), 1, 24) := by kernel_rfl
theorem row_kindT {W : World} {base : Nat} {e : TypeId} {k : Nat} {v : Value} {n : Nat} {xs : List Value} (h : W.ownsRow base e k v n xs) : ∀ j, v.ownBlock = some j → ∃ cs, W.heap[j]? = some (.cells cs e (0, 0)) := by
  intro j hj
  rcases h.2 with ⟨rfl, _⟩ | ⟨g, cap, cur, rfl, _, h3, _⟩
  · simp [Value.ownBlock] at hj
  · simp [Value.ownBlock] at hj
    subst hj
    exact ⟨cur, h3⟩
theorem own_some {W : World} {base : Nat} {e : TypeId} {k : Nat} {v : Value} {n : Nat} {xs : List Value} (h : W.ownsRow base e k v n xs) (hn : n ≠ 0) : ∃ g cap, v = .slice (some ⟨g, 0, none⟩) n cap ∧ base ≤ g ∧ g < W.heap.size ∧ n ≤ cap := by
  rcases h.2 with ⟨_, h0⟩ | ⟨g, cap, cur, rfl, h2, h3, h4, _⟩
  · exact (hn h0).elim
  · exact ⟨g, cap, rfl, h2, (Array.getElem?_eq_some_iff.1 h3).1, h4⟩
/-- A row of another kind lies elsewhere. -/
theorem apart_kind {W : World} {b1 b2 : Nat} {e1 e2 : TypeId} {k1 k2 : Nat} {v1 v2 : Value} {n1 n2 : Nat} {x1 x2 : List Value} (h1 : W.ownsRow b1 e1 k1 v1 n1 x1) (h2 : W.ownsRow b2 e2 k2 v2 n2 x2) (hne : e1 ≠ e2) {j : Nat} (hj1 : v1.ownBlock = some j) (hj2 : v2.ownBlock = some j) : False := by
  obtain ⟨c1, q1⟩ := row_kindT h1 j hj1
  obtain ⟨c2, q2⟩ := row_kindT h2 j hj2
  rw [q1] at q2
  injection q2 with q2
  injection q2 with _ q2
  exact hne q2

/-- Groups, each in a row of its own, in a row of the call's own. -/
structure Gs (W : World) (base : Nat) (ov : Value) (V : List (Value × List Int)) : Prop where
  outer : W.ownsRow base 22 1 ov V.length (V.map fun p => p.1)
  inner : ∀ p ∈ V, W.ownsRow base 3 1 p.1 p.2.length (p.2.flatMap enI) ∧ p.2 ≠ []
  apart : V.Pairwise fun p q => p.1.ownBlock ≠ q.1.ownBlock
theorem Gs.nil (W : World) (base : Nat) : Gs W base (.slice none 0 0) [] := ⟨World.ownsRow_nil _ _ _ _, (fun p hp => by cases hp), List.Pairwise.nil⟩
theorem own_belowT {w w' : World} {base : Nat} {e : TypeId} {size : Nat} {v : Value} {n : Nat} {xs : List Value} (h : w.ownsRow base e size v n xs) (hb : Below w.heap.size w w') : w'.ownsRow base e size v n xs :=
  World.ownsRow.kept h (row := none) ⟨hb.os, hb.tape, hb.output, hb.size, fun i hi _ => hb.block i hi⟩ (by cases v.ownBlock <;> simp)
theorem Gs.below {W W' : World} {base : Nat} {ov : Value} {V : List (Value × List Int)} (h : Gs W base ov V) (hb : Below W.heap.size W W') : Gs W' base ov V :=
  ⟨own_belowT h.outer hb, fun p hp => ⟨own_belowT (h.inner p hp).1 hb, (h.inner p hp).2⟩, h.apart⟩
theorem Gs.has {W : World} {base : Nat} {ov : Value} {V : List (Value × List Int)} (h : Gs W base ov V) {p : Value × List Int} (hp : p ∈ V) : ∃ g cap, p.1 = .slice (some ⟨g, 0, none⟩) p.2.length cap ∧ base ≤ g ∧ g < W.heap.size ∧ p.2.length ≤ cap :=
  own_some (h.inner p hp).1 (fun e => (h.inner p hp).2 (List.eq_nil_of_length_eq_zero e))
theorem types_ne : (3 : TypeId) ≠ 22 := by decide
/-- A new group behind. -/
theorem Gs.push {W W1 W2 : World} {base b1 : Nat} {ov ov' : Value} {V : List (Value × List Int)} {i : Int} (h : Gs W base ov V) (hb : Below W.heap.size W W1)
    (hi : W1.ownsRow base 3 1 (.slice (some ⟨b1, 0, none⟩) 1 1) 1 [.int .i64 i]) (hb1 : W.heap.size ≤ b1)
    (ho : W2.ownsRow base 22 1 ov' (V.length + 1) ((V.map fun p => p.1) ++ [.slice (some ⟨b1, 0, none⟩) 1 1])) (hg : W1.grownBy W2 ov.ownBlock) :
    Gs W2 base ov' (V ++ [(.slice (some ⟨b1, 0, none⟩) 1 1, [i])]) := by
  have h1 := h.below hb
  have keep : ∀ (v : Value) (n : Nat) (xs : List Value), W1.ownsRow base 3 1 v n xs → W2.ownsRow base 3 1 v n xs := fun v n xs hv =>
    World.ownsRow.kept hv hg (by
      cases e : v.ownBlock with
      | none => exact Or.inl rfl
      | some j => exact Or.inr fun e2 => apart_kind hv h1.outer types_ne e e2.symm)
  refine ⟨by rw [List.length_append, List.map_append]; exact ho, fun p hp => ?_, ?_⟩
  · rcases List.mem_append.1 hp with q | q
    · exact ⟨keep _ _ _ (h1.inner p q).1, (h1.inner p q).2⟩
    · rw [List.mem_singleton.1 q]
      exact ⟨keep _ _ _ hi, by simp⟩
  · refine List.pairwise_append.2 ⟨h.apart, List.pairwise_singleton _ _, fun p hp q hq e => ?_⟩
    rw [List.mem_singleton.1 hq] at e
    obtain ⟨g, cap, e1, _, hgl, _⟩ := h.has hp
    rw [e1] at e
    simp [Value.ownBlock] at e
    omega
/-- One place more in the last group. -/
theorem Gs.grow {W W1 W2 : World} {base og ocap : Nat} {V0 : List (Value × List Int)} {v v' : Value} {g : List Int} {i : Int} (h : Gs W base (.slice (some ⟨og, 0, none⟩) (V0.length + 1) ocap) (V0 ++ [(v, g)])) (hb : Below W.heap.size W W1)
    (hr : W2.ownsRow base 3 1 v' (g.length + 1) (g.flatMap enI ++ [.int .i64 i])) (hg : W1.grownBy W2 v.ownBlock) (hl : SpareLoc W1 v v') :
    Gs (W2.setCell ⟨og, V0.length, none⟩ v') base (.slice (some ⟨og, 0, none⟩) (V0.length + 1) ocap) (V0 ++ [(v', g ++ [i])]) := by
  have h1 := h.below hb
  have hvg := h1.inner (v, g) (by simp)
  have ho2 : W2.ownsRow base 22 1 (.slice (some ⟨og, 0, none⟩) (V0.length + 1) ocap) (V0.length + 1) ((V0 ++ [(v, g)]).map fun p => p.1) := by
    have := h1.outer
    rw [List.length_append] at this
    exact World.ownsRow.kept this hg (by
      cases e : (Value.slice (some ⟨og, 0, none⟩) (V0.length + 1) ocap).ownBlock with
      | none => exact Or.inl rfl
      | some j => exact Or.inr fun e2 => apart_kind hvg.1 this types_ne e2.symm e)
  obtain ⟨st, sg⟩ := World.ownsRow.stored ho2 V0.length v'
  have keep : ∀ (u : Value) (n : Nat) (xs : List Value), W2.ownsRow base 3 1 u n xs → (W2.setCell ⟨og, V0.length, none⟩ v').ownsRow base 3 1 u n xs := fun u n xs hu =>
    World.ownsRow.kept hu sg (by
      cases e : u.ownBlock with
      | none => exact Or.inl rfl
      | some j => exact Or.inr fun e2 => apart_kind hu ho2 types_ne e e2.symm)
  have hap := List.pairwise_append.1 h.apart
  refine ⟨?_, fun p hp => ?_, ?_⟩
  · rw [List.length_append]
    have e : ((V0 ++ [(v, g)]).map fun p => p.1).set V0.length v' = (V0 ++ [(v', g ++ [i])]).map fun p => p.1 := by
      rw [List.map_append, List.map_append, List.set_append_right _ _ (by simp)]
      simp
    rw [e] at st
    exact st
  · rcases List.mem_append.1 hp with q | q
    · have hpi := h1.inner p (List.mem_append_left _ q)
      refine ⟨keep _ _ _ (World.ownsRow.kept hpi.1 hg (by
        cases e : p.1.ownBlock with
        | none => exact Or.inl rfl
        | some j => exact Or.inr fun e2 => hap.2.2 p q (v, g) (by simp) (e.trans e2))), hpi.2⟩
    · rw [List.mem_singleton.1 q]
      refine ⟨keep _ _ _ ?_, by simp⟩
      show W2.ownsRow base 3 1 v' (g ++ [i]).length ((g ++ [i]).flatMap enI)
      rw [List.length_append, List.flatMap_append]
      exact hr
  · refine List.pairwise_append.2 ⟨hap.1, List.pairwise_singleton _ _, fun p hp q hq e => ?_⟩
    rw [List.mem_singleton.1 hq] at e
    obtain ⟨pg, pc, e1, _, hpl, _⟩ := h1.has (List.mem_append_left _ hp)
    have e2 : v'.ownBlock = some pg := by rw [← e, e1]; rfl
    rcases hl pg e2 with h3 | h3
    · exact hap.2.2 p hp (v, g) (by simp) (by rw [e1, h3]; rfl)
    · omega
end Go.Proofs.Ytihfcohebgemdaa.Tier
