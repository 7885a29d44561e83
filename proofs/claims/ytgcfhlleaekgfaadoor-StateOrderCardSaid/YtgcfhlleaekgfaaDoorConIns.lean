/- One mutation into a cloned row, in one step (layer 8): what the insertion leaves reads as the row with it. -/
import Derived.Test.YtgcfhlleaekgfaaDoorConMem
import Derived.Deep.RegionHeld3
namespace Go.Proofs.YtgcfhlleaekgfaaDoor.Mut
open Go.RowKit Go.Sort Go.Proofs.YtgcfhlleaekgfaaDoor.Ord

theorem flatM_take (R : List Ro) (i : Nat) : (R.flatMap enM).take (i * 10) = (R.take i).flatMap enM := by
  induction R generalizing i with
  | nil => simp
  | cons x R ih =>
    cases i with
    | zero => simp
    | succ i =>
      rw [List.flatMap_cons, List.take_succ_cons, List.flatMap_cons, ← ih i, List.take_append, List.take_of_length_le (by rw [enM_len]; omega), enM_len]
      rw [show (i + 1) * 10 - 10 = i * 10 by omega]
theorem flatM_drop (R : List Ro) (i : Nat) : (R.flatMap enM).drop (i * 10) = (R.drop i).flatMap enM := by
  induction R generalizing i with
  | nil => simp
  | cons x R ih =>
    cases i with
    | zero => simp
    | succ i =>
      rw [List.flatMap_cons, List.drop_succ_cons, ← ih i, List.drop_append, List.drop_of_length_le (by rw [enM_len]; omega), enM_len, List.nil_append]
      rw [show (i + 1) * 10 - 10 = i * 10 by omega]
/-- What the insertion leaves. -/
def PutP (w2 : World) (base : Nat) (R : List Ro) (i : Nat) (x : Ro) (e : Ending) (w' : World) : Prop :=
  ∃ g cap, e = .returned (.slice (some ⟨g, 0, none⟩) (R.length + 1) cap) ∧ Lst 10 enM w' (.slice (some ⟨g, 0, none⟩) (R.length + 1) cap) (R.take i ++ x :: R.drop i) ∧ base ≤ g ∧ RowKit.Below base w2 w'
theorem put_any (w2 W : World) (base : Nat) (v : Value) (vb : Nat) (R : List Ro) (i : Nat) (x : Ro) (hbase : base ≤ w2.heap.size) (hown : W.ownsRow base 34 10 v R.length (R.flatMap enM)) (hb : RowKit.Below base w2 W) (hi : i ≤ R.length) (hn : R.length ≤ 1000000)
    (hv : W.heap[vb]? = some (.cells ⟨enM x⟩ 34 (0, 0))) (hvb : ∀ k, v.ownBlock = some k → k ≠ vb) (hf : ∀ y ∈ R, ∃ ao n cap, y.2 = .slice ao n cap) (hx : ∃ ao n cap, x.2 = .slice ao n cap) :
    Calls Tryd.prog 39 #[v, .int .i64 i, .slice (some ⟨vb, 0, none⟩) 1 1] W (PutP w2 base R i x) := by
  have hW : base ≤ W.heap.size := Nat.le_trans hbase hb.size
  refine (SlMut.insert_any base v R.length i vb (R.flatMap enM) (enM x) W hown hW hi (by omega) rfl hv (flatM_one hf) (by have := flatM_one (l := [x]) (by simpa using hx); simpa using this) v.ownBlock rfl (fun e => hvb vb e rfl)).mono ?_
  rintro e w' ⟨g, cap, rfl, hown', hgr, hg⟩
  refine ⟨g, cap, rfl, ?_, hg.elim (fun e => (hown.lt g e).1) (fun h => Nat.le_trans hW h), hb.grown hgr hW (fun k hk => (hown.lt k hk).1)⟩
  have e1 : (R.take i ++ x :: R.drop i).flatMap enM = (R.flatMap enM).take (i * 10) ++ enM x ++ (R.flatMap enM).drop (i * 10) := by
    rw [flatM_take, flatM_drop, List.flatMap_append, List.flatMap_cons, List.append_assoc]
  have e2 : (R.take i ++ x :: R.drop i).length = R.length + 1 := by
    rw [List.length_append, List.length_cons, List.length_take, List.length_drop]; omega
  rw [← e1] at hown'
  exact Lst.owned enM_len (by decide) e2.symm hown'
/-- Rows with one more read as the lists with one more. -/
theorem reads_put {w2 w' : World} {v v' : Value} {R : List Ro} {l : List Mu} {i : Nat} {x : Ro} (h : MRow w2 v R) (hl : R.map (·.1) = l) (hx : Over w2 x) (hL : Lst 10 enM w' v' (R.take i ++ x :: R.drop i)) (hb : RowKit.Below w2.heap.size w2 w') : Reads w' v' (l.take i ++ x.1 :: l.drop i) := by
  refine ⟨_, ?_, hL, ?_⟩
  · rw [List.map_append, List.map_cons, List.map_take, List.map_drop, hl]
  · intro y hy
    rcases mem_take_drop.1 hy with h1 | rfl
    · exact (h.over y h1).below hb
    · exact hx.below hb
theorem Lst.kept {α : Type} {sz : Nat} {en : α → List Value} {w w' : World} {g off n cap : Nat} {l : List α} (h : Lst sz en w (.slice (some ⟨g, off, none⟩) n cap) l) (hc : ∀ o, w'.cell? ⟨g, o, none⟩ = w.cell? ⟨g, o, none⟩) (hs : w.heap.size ≤ w'.heap.size) :
    Lst sz en w' (.slice (some ⟨g, off, none⟩) n cap) l := by
  obtain ⟨ao, c, hv, h1, h2, h3⟩ := h
  refine ⟨ao, c, hv, h1, h2, ?_⟩
  rcases h3 with h3 | ⟨b, o, ha, hlt, hcc⟩
  · exact Or.inl h3
  · refine Or.inr ⟨b, o, ha, Nat.lt_of_lt_of_le hlt hs, fun i x hi j hj => ?_⟩
    have e : b = g := by injection hv with e1; rw [ha] at e1; injection e1 with e1; injection e1 with e1; exact e1.symm
    rw [e, hc, ← e]
    exact hcc i x hi j hj
theorem Okc.of {c c' : Con} {n : Nat} {m : Mu} (h : Okc c n) (hm : rightF m = true) (hin : ∀ x ∈ c'.all, x ∈ c.all ∨ x = m) (hl : c'.all.length ≤ c.all.length + 1) : Okc c' (n + 1) :=
  ⟨fun x hx => (hin x hx).elim (h.right x) (fun e => e ▸ hm), by have := h.len; omega⟩
theorem Okc.cells {c : Con} {n : Nat} {m : Mu} {l : List Mu} (h : Okc c n) (hm : rightF m = true) (hin : ∀ x ∈ l, x ∈ c.cells ∨ x = m) (hl : l.length ≤ c.cells.length + 1) : Okc ⟨l, c.wipes, c.sibs⟩ (n + 1) := by
  refine h.of hm ?_ ?_
  · intro x hx
    rcases Con.mem_all.1 hx with h1 | h1 | h1
    · exact (hin x h1).imp (fun h2 => Con.mem_all.2 (Or.inl h2)) id
    · exact Or.inl (Con.mem_all.2 (Or.inr (Or.inl h1)))
    · exact Or.inl (Con.mem_all.2 (Or.inr (Or.inr h1)))
  · unfold Con.all; simp only [List.length_append]; omega
theorem Okc.sibs {c : Con} {n : Nat} {m : Mu} {l : List Mu} (h : Okc c n) (hm : rightF m = true) (hin : ∀ x ∈ l, x ∈ c.sibs ∨ x = m) (hl : l.length ≤ c.sibs.length + 1) : Okc ⟨c.cells, c.wipes, l⟩ (n + 1) := by
  refine h.of hm ?_ ?_
  · intro x hx
    rcases Con.mem_all.1 hx with h1 | h1 | h1
    · exact Or.inl (Con.mem_all.2 (Or.inl h1))
    · exact Or.inl (Con.mem_all.2 (Or.inr (Or.inl h1)))
    · exact (hin x h1).imp (fun h2 => Con.mem_all.2 (Or.inr (Or.inr h2))) id
  · unfold Con.all; simp only [List.length_append]; omega
theorem len_put {α : Type} (l : List α) (i : Nat) (m : α) : (l.take i ++ m :: l.drop i).length ≤ l.length + 1 := by
  rw [List.length_append, List.length_cons, List.length_take, List.length_drop]; omega
theorem heap_setCell_far (w : World) (p : Addr) (v : Value) (g : Nat) (h : p.block ≠ g) : (w.setCell p v).heap[g]? = w.heap[g]? := RowKit.Below.heap_setCell w p v g (Ne.symm h)
theorem C3.other {w : World} {k j o : Nat} {a b d u : Value} (h : C3 w k a b d) (hj : j ≠ k) : C3 (w.setCell ⟨j, o, none⟩ u) k a b d := by
  have e : ∀ i, (w.setCell ⟨j, o, none⟩ u).cell? ⟨k, i, none⟩ = w.cell? ⟨k, i, none⟩ := fun i => World.cell?_setCell_far w ⟨j, o, none⟩ ⟨k, i, none⟩ u hj
  have f : ∀ i, (w.setCell ⟨j, o, none⟩ u).frozen? ⟨k, i, none⟩ = w.frozen? ⟨k, i, none⟩ := fun i => by go_simp
  obtain ⟨h0, h1, h2, h3, h4, h5, h6⟩ := h
  exact ⟨by simpa using h0, (e _).trans h1, (e _).trans h2, (e _).trans h3, (f _).trans h4, (f _).trans h5, (f _).trans h6⟩
theorem c3_one {w : World} {k : Nat} {a b d : Value} (h : C3 w k a b d) (a' : Value) : C3 (w.setCell ⟨k, 0, none⟩ a') k a' b d := by
  obtain ⟨h0, h1, h2, h3, h4, h5, h6⟩ := h
  exact ⟨by simpa using h0, by go_simp, by go_simp, by go_simp, by go_simp, by go_simp, by go_simp⟩
theorem c3_two {w : World} {k : Nat} {a b d : Value} (h : C3 w k a b d) (b' : Value) : C3 (w.setCell ⟨k, 1, none⟩ b') k a b' d := by
  obtain ⟨h0, h1, h2, h3, h4, h5, h6⟩ := h
  exact ⟨by simpa using h0, by go_simp, by go_simp, by go_simp, by go_simp, by go_simp, by go_simp⟩
theorem c3_three {w : World} {k : Nat} {a b d : Value} (h : C3 w k a b d) (d' : Value) : C3 (w.setCell ⟨k, 2, none⟩ d') k a b d' := by
  obtain ⟨h0, h1, h2, h3, h4, h5, h6⟩ := h
  exact ⟨by simpa using h0, by go_simp, by go_simp, by go_simp, by go_simp, by go_simp, by go_simp⟩
theorem C3.row {w : World} {k g : Nat} {a b d : Value} (h : C3 w k a b d) (hg : k ≠ g) {cs : Array Value} : C3 (w.setRow g cs) k a b d := by
  have hb := setRow_other w g k cs hg
  have e : ∀ o, (w.setRow g cs).cell? ⟨k, o, none⟩ = w.cell? ⟨k, o, none⟩ := fun o => World.cell?_of_block hb
  have f : ∀ o, (w.setRow g cs).frozen? ⟨k, o, none⟩ = w.frozen? ⟨k, o, none⟩ := fun o => World.frozen?_of_block hb
  obtain ⟨h0, h1, h2, h3, h4, h5, h6⟩ := h
  exact ⟨by rw [setRow_size]; exact h0, (e _).trans h1, (e _).trans h2, (e _).trans h3, (f _).trans h4, (f _).trans h5, (f _).trans h6⟩
theorem below_setRow {n : Nat} {w0 w : World} (h : RowKit.Below n w0 w) (g : Nat) (hg : n ≤ g) (cs : Array Value) : RowKit.Below n w0 (w.setRow g cs) :=
  ⟨h.os, h.tape, h.output, by rw [setRow_size]; exact h.size, fun i hi => (setRow_other w g i cs (by omega)).trans (h.block i hi)⟩
/-- A block that is known whole reads as its row. -/
theorem lst_row {w : World} {g cap : Nat} {xs spare : List Value} {l : List Ro} {n : Nat} (hg : w.heap[g]? = some (.cells ⟨xs⟩ 34 (0, 0))) (hx : xs = l.flatMap enM ++ spare) (h1 : n ≤ cap) (h2 : cap ≤ maxLen) (hn : n = l.length := by simp) : Lst 10 enM w (.slice (some ⟨g, 0, none⟩) n cap) l := by
  subst hx hn
  refine ⟨_, cap, rfl, h1, h2, Or.inr ⟨g, 0, rfl, (Array.getElem?_eq_some_iff.1 hg).1, fun i x hi j hj => ?_⟩⟩
  have hil : i < l.length := (List.getElem?_eq_some_iff.1 hi).1
  rw [Nat.zero_add]
  have hc : w.cell? ⟨g, i * 10 + j, none⟩ = (l.flatMap enM ++ spare)[i * 10 + j]? := by simp [World.cell?, hg]
  rw [hc]
  rw [List.getElem?_append_left (by rw [flatMap_len enM_len]; omega)]
  exact flatMap_get enM_len l i x hi j hj
theorem reads_set {w2 w' : World} {v v' : Value} {R : List Ro} {l : List Mu} {i : Nat} {x : Ro} (h : MRow w2 v R) (hl : R.map (·.1) = l) (hx : Over w2 x) (hL : Lst 10 enM w' v' (R.set i x)) (hb : RowKit.Below w2.heap.size w2 w') : Reads w' v' (l.set i x.1) := by
  refine ⟨_, ?_, hL, ?_⟩
  · rw [List.map_set, hl]
  · intro y hy
    rcases List.mem_or_eq_of_mem_set hy with h1 | rfl
    · exact (h.over y h1).below hb
    · exact hx.below hb
theorem own_slice {w : World} {base : Nat} {e : TypeId} {k : Nat} {v : Value} {n : Nat} {xs : List Value} (h : w.ownsRow base e k v n xs) : ∃ ao cap, v = .slice ao n cap := by
  rcases h.2 with ⟨rfl, h0⟩ | ⟨g, cap, cur, rfl, -⟩
  · exact ⟨none, 0, by rw [h0]⟩
  · exact ⟨_, cap, rfl⟩
/-- A row that the call owns, of mutations that were there before it. -/
theorem reads_own {w w' : World} {base : Nat} {v : Value} {K : List Ro} {l : List Mu} (hown : w'.ownsRow base 34 10 v K.length (K.flatMap enM)) (hK : ∀ x ∈ K, Over w x) (hb : RowKit.Below w.heap.size w w') (hl : K.map (·.1) = l) : Reads w' v l :=
  ⟨K, hl, Lst.owned enM_len (by decide) rfl hown, fun x hx => (hK x hx).below hb⟩
/-- A row that the call owns, behind a store elsewhere. -/
theorem own_other {w : World} {base : Nat} {e : TypeId} {k : Nat} {v : Value} {n : Nat} {xs : List Value} (h : w.ownsRow base e k v n xs) (b o : Nat) (hne : b < base) (u : Value) : (w.setCell ⟨b, o, none⟩ u).ownsRow base e k v n xs :=
  h.kept (row := some b) ⟨rfl, rfl, rfl, by simp, fun i _ hi => heap_setCell_far _ _ _ _ (fun e => hi (by rw [← e]))⟩ (by
    cases hv : v.ownBlock with
    | none => exact Or.inl rfl
    | some g => exact Or.inr (fun e => by injection e with e; have := (h.lt g hv).1; omega))
theorem C3.grown {w w' : World} {k : Nat} {a b d : Value} {row : Option Nat} (h : C3 w k a b d) (hg : w.grownBy w' row) (hr : row ≠ some k) : C3 w' k a b d := by
  have hb : w'.heap[k]? = w.heap[k]? := hg.block k h.lt (fun e => hr e.symm)
  have e : ∀ o, w'.cell? ⟨k, o, none⟩ = w.cell? ⟨k, o, none⟩ := fun o => World.cell?_of_block hb
  have f : ∀ o, w'.frozen? ⟨k, o, none⟩ = w.frozen? ⟨k, o, none⟩ := fun o => World.frozen?_of_block hb
  obtain ⟨h0, h1, h2, h3, h4, h5, h6⟩ := h
  exact ⟨Nat.lt_of_lt_of_le h0 hg.size, (e _).trans h1, (e _).trans h2, (e _).trans h3, (f _).trans h4, (f _).trans h5, (f _).trans h6⟩
theorem A0.other {w : World} {b j o : Nat} {x : Ro} {u : Value} (h : A0 w b x) (hj : j ≠ b) : A0 (w.setCell ⟨j, o, none⟩ u) b x := by
  have e : ∀ i, (w.setCell ⟨j, o, none⟩ u).cell? ⟨b, i, none⟩ = w.cell? ⟨b, i, none⟩ := fun i => World.cell?_setCell_far w ⟨j, o, none⟩ ⟨b, i, none⟩ u hj
  obtain ⟨h0, h1, h2, h3, h4, h5, h6, h7, h8, h9, h10⟩ := h
  exact ⟨by simpa using h0, (e _).trans h1, (e _).trans h2, (e _).trans h3, (e _).trans h4, (e _).trans h5, (e _).trans h6, (e _).trans h7, (e _).trans h8, (e _).trans h9, (e _).trans h10⟩
end Go.Proofs.YtgcfhlleaekgfaaDoor.Mut
