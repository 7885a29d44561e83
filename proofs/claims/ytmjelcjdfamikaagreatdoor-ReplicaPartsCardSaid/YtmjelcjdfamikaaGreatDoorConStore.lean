/- ConIns, ConCell, ConWipe, ConSib, ConNew, ConOf: in one text. -/
import Derived.Test.YtmjelcjdfamikaaGreatDoorConBase
import Derived.Deep.RegionHeld3
import Derived.Deep.RegionLaw
import Derived.Test.YtmjelcjdfamikaaGreatDoorMutSort
set_option linter.unusedSimpArgs false
set_option linter.unusedVariables false
/- One mutation into a cloned row, in one step (layer 8): what the insertion leaves reads as the row with it. -/
namespace Go.Proofs.YtmjelcjdfamikaaGreatDoor.Mut
open Go.RowKit Go.Sort Go.Proofs.YtmjelcjdfamikaaGreatDoor.Ord
set_option linter.unusedSectionVars false
variable [Inhabited Lim]

theorem flatM_take (R : List Ro) (i : Nat) : (R.flatMap enM).take (i * 10) = (R.take i).flatMap enM := by
  induction R generalizing i with
  | nil => simp
  | cons x R ih =>
    cases i with
    | zero => simp
    | succ i =>
      rw [List.flatMap_cons, List.take_succ_cons, List.flatMap_cons, ← ih i, List.take_append, List.take_of_length_le (by rw [enM_len]; omega), enM_len]
      rw [show (i + 1) * 10 - 10 = i * 10 by omega]
theorem flatM_drop (R : List Ro) (i : Nat) : (R.flatMap enM).drop (i * 10) = (R.drop i).flatMap enM := by
  induction R generalizing i with
  | nil => simp
  | cons x R ih =>
    cases i with
    | zero => simp
    | succ i =>
      rw [List.flatMap_cons, List.drop_succ_cons, ← ih i, List.drop_append, List.drop_of_length_le (by rw [enM_len]; omega), enM_len, List.nil_append]
      rw [show (i + 1) * 10 - 10 = i * 10 by omega]
/-- What the insertion leaves. -/
def PutP (w2 : World) (base : Nat) (R : List Ro) (i : Nat) (x : Ro) (e : Ending) (w' : World) : Prop :=
  ∃ g cap, e = .returned (.slice (some ⟨g, 0, none⟩) (R.length + 1) cap) ∧ w'.ownsRow base 40 10 (.slice (some ⟨g, 0, none⟩) (R.length + 1) cap) (R.length + 1) ((R.take i ++ x :: R.drop i).flatMap enM) ∧ base ≤ g ∧ RowKit.Below base w2 w'
theorem put_any (w2 W : World) (base : Nat) (v : Value) (vb : Nat) (R : List Ro) (i : Nat) (x : Ro) (hbase : base ≤ w2.heap.size) (hown : W.ownsRow base 40 10 v R.length (R.flatMap enM)) (hb : RowKit.Below base w2 W) (hi : i ≤ R.length) (hn : R.length ≤ 1000000)
    (hv : W.heap[vb]? = some (.cells ⟨enM x⟩ 40 (0, 0))) (hvb : ∀ k, v.ownBlock = some k → k ≠ vb) (hf : ∀ y ∈ R, ∃ ao n cap, y.2 = .slice ao n cap) (hx : ∃ ao n cap, x.2 = .slice ao n cap) :
    Calls Tryz.prog 58 #[v, .int .i64 i, .slice (some ⟨vb, 0, none⟩) 1 1] W (PutP w2 base R i x) := by
  have hW : base ≤ W.heap.size := Nat.le_trans hbase hb.size
  refine (SlMut.insert_any base v R.length i vb (R.flatMap enM) (enM x) W hown hW hi (by omega) rfl hv (flatM_one hf) (by have := flatM_one (l := [x]) (by simpa using hx); simpa using this) v.ownBlock rfl (fun e => hvb vb e rfl)).mono ?_
  rintro e w' ⟨g, cap, rfl, hown', hgr, hg⟩
  refine ⟨g, cap, rfl, ?_, hg.elim (fun e => (hown.lt g e).1) (fun h => Nat.le_trans hW h), hb.grown hgr hW (fun k hk => (hown.lt k hk).1)⟩
  have e1 : (R.take i ++ x :: R.drop i).flatMap enM = (R.flatMap enM).take (i * 10) ++ enM x ++ (R.flatMap enM).drop (i * 10) := by
    rw [flatM_take, flatM_drop, List.flatMap_append, List.flatMap_cons, List.append_assoc]
  have e2 : (R.take i ++ x :: R.drop i).length = R.length + 1 := by
    rw [List.length_append, List.length_cons, List.length_take, List.length_drop]; omega
  rw [← e1] at hown'
  exact hown'
/-- Rows with one more read as the lists with one more. -/
theorem reads_put {w2 w' : World} {v v' : Value} {R : List Ro} {l : List Mu} {i : Nat} {x : Ro} (h : MRow w2 v R) (hl : R.map (·.1) = l) (hx : Over w2 x) (hL : Lst 10 enM w' v' (R.take i ++ x :: R.drop i)) (hb : RowKit.Below w2.heap.size w2 w') : Reads w' v' (l.take i ++ x.1 :: l.drop i) := by
  refine ⟨_, ?_, hL, ?_⟩
  · rw [List.map_append, List.map_cons, List.map_take, List.map_drop, hl]
  · intro y hy
    rcases mem_take_drop.1 hy with h1 | rfl
    · exact (h.over y h1).below hb
    · exact hx.below hb
theorem Lst.kept {α : Type} {sz : Nat} {en : α → List Value} {w w' : World} {g off n cap : Nat} {l : List α} (h : Lst sz en w (.slice (some ⟨g, off, none⟩) n cap) l) (hc : ∀ o, w'.cell? ⟨g, o, none⟩ = w.cell? ⟨g, o, none⟩) (hs : w.heap.size ≤ w'.heap.size) :
    Lst sz en w' (.slice (some ⟨g, off, none⟩) n cap) l := by
  obtain ⟨ao, c, hv, h1, h2, h3⟩ := h
  refine ⟨ao, c, hv, h1, h2, ?_⟩
  rcases h3 with h3 | ⟨b, o, ha, hlt, hcc⟩
  · exact Or.inl h3
  · refine Or.inr ⟨b, o, ha, Nat.lt_of_lt_of_le hlt hs, fun i x hi j hj => ?_⟩
    have e : b = g := by injection hv with e1; rw [ha] at e1; injection e1 with e1; injection e1 with e1; exact e1.symm
    rw [e, hc, ← e]
    exact hcc i x hi j hj
theorem Okc.of {c c' : Con} {n : Nat} {m : Mu} (h : Okc c n) (hm : rightF m = true) (hin : ∀ x ∈ c'.all, x ∈ c.all ∨ x = m) (hl : c'.all.length ≤ c.all.length + 1) : Okc c' (n + 1) :=
  ⟨fun x hx => (hin x hx).elim (h.right x) (fun e => e ▸ hm), by have := h.len; omega⟩
theorem Okc.cells {c : Con} {n : Nat} {m : Mu} {l : List Mu} (h : Okc c n) (hm : rightF m = true) (hin : ∀ x ∈ l, x ∈ c.cells ∨ x = m) (hl : l.length ≤ c.cells.length + 1) : Okc ⟨l, c.wipes, c.sibs⟩ (n + 1) := by
  refine h.of hm ?_ ?_
  · intro x hx
    rcases Con.mem_all.1 hx with h1 | h1 | h1
    · exact (hin x h1).imp (fun h2 => Con.mem_all.2 (Or.inl h2)) id
    · exact Or.inl (Con.mem_all.2 (Or.inr (Or.inl h1)))
    · exact Or.inl (Con.mem_all.2 (Or.inr (Or.inr h1)))
  · unfold Con.all; simp only [List.length_append]; omega
theorem Okc.sibs {c : Con} {n : Nat} {m : Mu} {l : List Mu} (h : Okc c n) (hm : rightF m = true) (hin : ∀ x ∈ l, x ∈ c.sibs ∨ x = m) (hl : l.length ≤ c.sibs.length + 1) : Okc ⟨c.cells, c.wipes, l⟩ (n + 1) := by
  refine h.of hm ?_ ?_
  · intro x hx
    rcases Con.mem_all.1 hx with h1 | h1 | h1
    · exact Or.inl (Con.mem_all.2 (Or.inl h1))
    · exact Or.inl (Con.mem_all.2 (Or.inr (Or.inl h1)))
    · exact (hin x h1).imp (fun h2 => Con.mem_all.2 (Or.inr (Or.inr h2))) id
  · unfold Con.all; simp only [List.length_append]; omega
theorem len_put {α : Type} (l : List α) (i : Nat) (m : α) : (l.take i ++ m :: l.drop i).length ≤ l.length + 1 := by
  rw [List.length_append, List.length_cons, List.length_take, List.length_drop]; omega
theorem heap_setCell_far (w : World) (p : Addr) (v : Value) (g : Nat) (h : p.block ≠ g) : (w.setCell p v).heap[g]? = w.heap[g]? := RowKit.Below.heap_setCell w p v g (Ne.symm h)
theorem C3.other {w : World} {k j o : Nat} {a b d u : Value} (h : C3 w k a b d) (hj : j ≠ k) : C3 (w.setCell ⟨j, o, none⟩ u) k a b d := by
  have e : ∀ i, (w.setCell ⟨j, o, none⟩ u).cell? ⟨k, i, none⟩ = w.cell? ⟨k, i, none⟩ := fun i => World.cell?_setCell_far w ⟨j, o, none⟩ ⟨k, i, none⟩ u hj
  have f : ∀ i, (w.setCell ⟨j, o, none⟩ u).frozen? ⟨k, i, none⟩ = w.frozen? ⟨k, i, none⟩ := fun i => by go_simp
  obtain ⟨h0, h1, h2, h3, h4, h5, h6⟩ := h
  exact ⟨by simpa using h0, (e _).trans h1, (e _).trans h2, (e _).trans h3, (f _).trans h4, (f _).trans h5, (f _).trans h6⟩
theorem c3_one {w : World} {k : Nat} {a b d : Value} (h : C3 w k a b d) (a' : Value) : C3 (w.setCell ⟨k, 0, none⟩ a') k a' b d := by
  obtain ⟨h0, h1, h2, h3, h4, h5, h6⟩ := h
  exact ⟨by simpa using h0, by go_simp, by go_simp, by go_simp, by go_simp, by go_simp, by go_simp⟩
theorem c3_two {w : World} {k : Nat} {a b d : Value} (h : C3 w k a b d) (b' : Value) : C3 (w.setCell ⟨k, 1, none⟩ b') k a b' d := by
  obtain ⟨h0, h1, h2, h3, h4, h5, h6⟩ := h
  exact ⟨by simpa using h0, by go_simp, by go_simp, by go_simp, by go_simp, by go_simp, by go_simp⟩
theorem c3_three {w : World} {k : Nat} {a b d : Value} (h : C3 w k a b d) (d' : Value) : C3 (w.setCell ⟨k, 2, none⟩ d') k a b d' := by
  obtain ⟨h0, h1, h2, h3, h4, h5, h6⟩ := h
  exact ⟨by simpa using h0, by go_simp, by go_simp, by go_simp, by go_simp, by go_simp, by go_simp⟩
theorem C3.row {w : World} {k g : Nat} {a b d : Value} (h : C3 w k a b d) (hg : k ≠ g) {cs : Array Value} : C3 (w.setRow g cs) k a b d := by
  have hb := setRow_other w g k cs hg
  have e : ∀ o, (w.setRow g cs).cell? ⟨k, o, none⟩ = w.cell? ⟨k, o, none⟩ := fun o => World.cell?_of_block hb
  have f : ∀ o, (w.setRow g cs).frozen? ⟨k, o, none⟩ = w.frozen? ⟨k, o, none⟩ := fun o => World.frozen?_of_block hb
  obtain ⟨h0, h1, h2, h3, h4, h5, h6⟩ := h
  exact ⟨by rw [setRow_size]; exact h0, (e _).trans h1, (e _).trans h2, (e _).trans h3, (f _).trans h4, (f _).trans h5, (f _).trans h6⟩
theorem below_setRow {n : Nat} {w0 w : World} (h : RowKit.Below n w0 w) (g : Nat) (hg : n ≤ g) (cs : Array Value) : RowKit.Below n w0 (w.setRow g cs) :=
  ⟨h.os, h.tape, h.output, by rw [setRow_size]; exact h.size, fun i hi => (setRow_other w g i cs (by omega)).trans (h.block i hi)⟩
/-- A block that is known whole reads as its row. -/
theorem lst_row {w : World} {g cap : Nat} {xs spare : List Value} {l : List Ro} {n : Nat} (hg : w.heap[g]? = some (.cells ⟨xs⟩ 40 (0, 0))) (hx : xs = l.flatMap enM ++ spare) (h1 : n ≤ cap) (h2 : cap ≤ maxLen) (hn : n = l.length := by simp) : Lst 10 enM w (.slice (some ⟨g, 0, none⟩) n cap) l := by
  subst hx hn
  refine ⟨_, cap, rfl, h1, h2, Or.inr ⟨g, 0, rfl, (Array.getElem?_eq_some_iff.1 hg).1, fun i x hi j hj => ?_⟩⟩
  have hil : i < l.length := (List.getElem?_eq_some_iff.1 hi).1
  rw [Nat.zero_add]
  have hc : w.cell? ⟨g, i * 10 + j, none⟩ = (l.flatMap enM ++ spare)[i * 10 + j]? := by simp [World.cell?, hg]
  rw [hc]
  rw [List.getElem?_append_left (by rw [flatMap_len enM_len]; omega)]
  exact flatMap_get enM_len l i x hi j hj
theorem reads_set {w2 w' : World} {v v' : Value} {R : List Ro} {l : List Mu} {i : Nat} {x : Ro} (h : MRow w2 v R) (hl : R.map (·.1) = l) (hx : Over w2 x) (hL : Lst 10 enM w' v' (R.set i x)) (hb : RowKit.Below w2.heap.size w2 w') : Reads w' v' (l.set i x.1) := by
  refine ⟨_, ?_, hL, ?_⟩
  · rw [List.map_set, hl]
  · intro y hy
    rcases List.mem_or_eq_of_mem_set hy with h1 | rfl
    · exact (h.over y h1).below hb
    · exact hx.below hb
theorem own_slice {w : World} {base : Nat} {e : TypeId} {k : Nat} {v : Value} {n : Nat} {xs : List Value} (h : w.ownsRow base e k v n xs) : ∃ ao cap, v = .slice ao n cap := by
  rcases h.2 with ⟨rfl, h0⟩ | ⟨g, cap, cur, rfl, -⟩
  · exact ⟨none, 0, by rw [h0]⟩
  · exact ⟨_, cap, rfl⟩
/-- A row that the call owns, of mutations that were there before it. -/
theorem reads_own {w w' : World} {base : Nat} {v : Value} {K : List Ro} {l : List Mu} (hown : w'.ownsRow base 40 10 v K.length (K.flatMap enM)) (hK : ∀ x ∈ K, Over w x) (hb : RowKit.Below w.heap.size w w') (hl : K.map (·.1) = l) : Reads w' v l :=
  ⟨K, hl, Lst.owned enM_len (by decide) rfl hown, fun x hx => (hK x hx).below hb⟩
/-- A row that the call owns, behind a store elsewhere. -/
theorem own_other {w : World} {base : Nat} {e : TypeId} {k : Nat} {v : Value} {n : Nat} {xs : List Value} (h : w.ownsRow base e k v n xs) (b o : Nat) (hne : b < base) (u : Value) : (w.setCell ⟨b, o, none⟩ u).ownsRow base e k v n xs :=
  h.kept (row := some b) ⟨rfl, rfl, rfl, by simp, fun i _ hi => heap_setCell_far _ _ _ _ (fun e => hi (by rw [← e]))⟩ (by
    cases hv : v.ownBlock with
    | none => exact Or.inl rfl
    | some g => exact Or.inr (fun e => by injection e with e; have := (h.lt g hv).1; omega))
theorem C3.grown {w w' : World} {k : Nat} {a b d : Value} {row : Option Nat} (h : C3 w k a b d) (hg : w.grownBy w' row) (hr : row ≠ some k) : C3 w' k a b d := by
  have hb : w'.heap[k]? = w.heap[k]? := hg.block k h.lt (fun e => hr e.symm)
  have e : ∀ o, w'.cell? ⟨k, o, none⟩ = w.cell? ⟨k, o, none⟩ := fun o => World.cell?_of_block hb
  have f : ∀ o, w'.frozen? ⟨k, o, none⟩ = w.frozen? ⟨k, o, none⟩ := fun o => World.frozen?_of_block hb
  obtain ⟨h0, h1, h2, h3, h4, h5, h6⟩ := h
  exact ⟨Nat.lt_of_lt_of_le h0 hg.size, (e _).trans h1, (e _).trans h2, (e _).trans h3, (f _).trans h4, (f _).trans h5, (f _).trans h6⟩
theorem A0.other {w : World} {b j o : Nat} {x : Ro} {u : Value} (h : A0 w b x) (hj : j ≠ b) : A0 (w.setCell ⟨j, o, none⟩ u) b x := by
  have e : ∀ i, (w.setCell ⟨j, o, none⟩ u).cell? ⟨b, i, none⟩ = w.cell? ⟨b, i, none⟩ := fun i => World.cell?_setCell_far w ⟨j, o, none⟩ ⟨b, i, none⟩ u hj
  obtain ⟨h0, h1, h2, h3, h4, h5, h6, h7, h8, h9, h10⟩ := h
  exact ⟨by simpa using h0, (e _).trans h1, (e _).trans h2, (e _).trans h3, (e _).trans h4, (e _).trans h5, (e _).trans h6, (e _).trans h7, (e _).trans h8, (e _).trans h9, (e _).trans h10⟩
end Go.Proofs.YtmjelcjdfamikaaGreatDoor.Mut

/- The walk of state.Content.cell (layer 8). -/
namespace Go.Proofs.YtmjelcjdfamikaaGreatDoor.Mut
open Go.RowKit Go.Sort Go.Proofs.YtmjelcjdfamikaaGreatDoor.Ord
set_option linter.unusedSectionVars false
variable [Inhabited Lim]

/-- The rows of a content, in memory made since. -/
def Fresh (base : Nat) (w : World) (a b d : Value) : Prop := (∃ R, Copied w a R base) ∧ (∃ R, Copied w b R base) ∧ (∃ R, Copied w d R base)
/-- A mutation's stamps, in memory made since. -/
def OwnO (base : Nat) (w : World) (x : Ro) : Prop := w.ownsRow base 37 3 x.2 x.1.over.length (x.1.over.flatMap enS)
theorem Fresh.below {base : Nat} {w w' : World} {a b d : Value} (h : Fresh base w a b d) (hb : RowKit.Below w.heap.size w w') : Fresh base w' a b d := ⟨h.1.imp fun _ h => h.below hb, h.2.1.imp fun _ h => h.below hb, h.2.2.imp fun _ h => h.below hb⟩
theorem OwnO.below {base : Nat} {w w' : World} {x : Ro} (h : OwnO base w x) (hb : RowKit.Below w.heap.size w w') : OwnO base w' x := row_below h hb
theorem Copied.nil (w : World) (base : Nat) : Copied w (.slice none 0 0) [] base := ⟨World.ownsRow_nil _ _ _ _, fun x hx => by cases hx⟩
theorem Fresh.nil (w : World) (base : Nat) : Fresh base w (.slice none 0 0) (.slice none 0 0) (.slice none 0 0) := ⟨⟨_, Copied.nil w base⟩, ⟨_, Copied.nil w base⟩, ⟨_, Copied.nil w base⟩⟩
/-- A row of one's own that reads as other stamps: it is these. -/
theorem own_reads {w : World} {base : Nat} {v : Value} {l k : List Stp} (h : w.ownsRow base 37 3 v l.length (l.flatMap enS)) (hr : SRow w v k) : w.ownsRow base 37 3 v k.length (k.flatMap enS) := by
  have hl : Lst 3 enS w v l := Lst.owned enS_len (by decide) rfl h
  obtain ⟨ao, cap, rfl, h1, h2, h3⟩ := hr
  obtain ⟨ao2, cap2, e, k1, k2, k3⟩ := hl
  injection e with e1 e2 e3
  subst e1
  have hf : l.flatMap enS = k.flatMap enS := by
    refine congrArg List.flatten ?_
    refine List.ext_getElem? fun i => ?_
    rw [List.getElem?_map, List.getElem?_map]
    by_cases hi : i < k.length
    · rw [List.getElem?_eq_getElem hi, List.getElem?_eq_getElem (by omega)]
      refine congrArg some ?_
      rcases h3 with h3 | ⟨b, off, ea, -, hc⟩
      · omega
      rcases k3 with k3 | ⟨b2, off2, ea2, -, kc⟩
      · omega
      rw [ea] at ea2
      injection ea2 with ea3
      injection ea3 with eb eo
      subst eb
      subst eo
      refine List.ext_getElem? fun j => ?_
      by_cases hj : j < 3
      · rw [← hc i _ (List.getElem?_eq_getElem hi) j hj, ← kc i _ (List.getElem?_eq_getElem (by omega)) j hj]
      · rw [List.getElem?_eq_none (by rw [enS_len]; omega), List.getElem?_eq_none (by rw [enS_len]; omega)]
    · rw [List.getElem?_eq_none (by omega), List.getElem?_eq_none (by omega)]
  rw [← e2, hf] at h
  exact h
theorem mem_cells {w : World} {v : Value} {R R' : List Ro} {base : Nat} (h : MRow w v R) (k : Copied w v R' base) : R'.length = R.length ∧ ∀ (i : Nat) (x y : Ro), R[i]? = some x → R'[i]? = some y → enM y = enM x := by
  obtain ⟨ao, cap, rfl, h1, h2, h3⟩ := h.row
  obtain ⟨ao2, cap2, e, k1, k2, k3⟩ := k.mrow.row
  injection e with e1 e2 e3
  subst e1
  subst e3
  refine ⟨e2.symm, fun i x y hx hy => ?_⟩
  have hl := (List.getElem?_eq_some_iff.1 hx).1
  rcases h3 with h3 | ⟨b, off, ea, -, hc⟩
  · omega
  rcases k3 with k3 | ⟨b2, off2, ea2, -, kc⟩
  · omega
  rw [ea] at ea2
  injection ea2 with ea3
  injection ea3 with eb eo
  subst eb
  subst eo
  refine List.ext_getElem? fun j => ?_
  by_cases hj : j < 10
  · rw [← hc i x hx j hj, ← kc i y hy j hj]
  · rw [List.getElem?_eq_none (by rw [enM_len]; omega), List.getElem?_eq_none (by rw [enM_len]; omega)]
/-- What is copied lies where its row says it does: the stamps of its mutations are read as they are. -/
theorem copied_over {w : World} {v : Value} {R R' : List Ro} {base : Nat} (h : MRow w v R) (k : Copied w v R' base) : Copied w v R base := by
  obtain ⟨hl, hc⟩ := mem_cells h k
  have hf : R'.flatMap enM = R.flatMap enM := by
    refine congrArg List.flatten ?_
    refine List.ext_getElem? fun i => ?_
    rw [List.getElem?_map, List.getElem?_map]
    by_cases hi : i < R.length
    · rw [List.getElem?_eq_getElem hi, List.getElem?_eq_getElem (by omega)]
      exact congrArg some (hc i _ _ (List.getElem?_eq_getElem hi) (List.getElem?_eq_getElem (by omega)))
    · rw [List.getElem?_eq_none (by omega), List.getElem?_eq_none (by omega)]
  refine ⟨by have h1 := k.row; rw [hl, hf] at h1; exact h1, fun x hx => ?_⟩
  obtain ⟨i, hi, rfl⟩ := List.getElem_of_mem hx
  have hy := k.over (R'[i]'(by omega)) (List.getElem_mem _)
  have he := hc i _ _ (List.getElem?_eq_getElem hi) (List.getElem?_eq_getElem (by omega : i < R'.length))
  have hv : (R'[i]'(by omega)).2 = R[i].2 := by unfold enM at he; simp only [List.cons.injEq] at he; exact he.2.2.2.2.2.2.2.2.2.1
  rw [hv] at hy
  exact own_reads hy (h.over _ hx).lst
theorem copied_put {w w' : World} {v v' : Value} {R : List Ro} {base b2 i : Nat} {x : Ro} (h : Copied w v R base) (hx : OwnO base w x) (hi : i ≤ R.length) (ho : w'.ownsRow b2 40 10 v' (R.length + 1) ((R.take i ++ x :: R.drop i).flatMap enM)) (hb : RowKit.Below w.heap.size w w') (h2 : base ≤ b2) : Copied w' v' (R.take i ++ x :: R.drop i) base := by
  refine ⟨?_, fun y hy => ?_⟩
  · rw [show (R.take i ++ x :: R.drop i).length = R.length + 1 by rw [List.length_append, List.length_cons, List.length_take, List.length_drop]; omega]
    exact own_base ho h2
  · rcases mem_take_drop.1 hy with h1 | rfl
    · exact row_below (h.over y h1) hb
    · exact row_below hx hb
theorem copied_set {w w' : World} {v v' : Value} {R : List Ro} {base b2 i : Nat} {x : Ro} (h : Copied w v R base) (hx : OwnO base w x) (ho : w'.ownsRow b2 40 10 v' R.length ((R.set i x).flatMap enM)) (hb : RowKit.Below w.heap.size w w') (h2 : base ≤ b2) : Copied w' v' (R.set i x) base := by
  refine ⟨?_, fun y hy => ?_⟩
  · rw [List.length_set]
    exact own_base ho h2
  · rcases List.mem_or_eq_of_mem_set hy with h1 | rfl
    · exact row_below (h.over y h1) hb
    · exact row_below hx hb

/-- A content comes back: what is left, with a mutation more. -/
def AddP (a0 b0 d0 : Value) (x : Ro) (w : World) (S : Mu → Prop) (m : Mu) (n : Nat) (e : Ending) (w' : World) : Prop :=
  ∃ a b d c, e = .returned (.agg #[a, b, d]) ∧ Lies w' a b d c ∧ Reps (fun y => S y ∨ y = m) c ∧ Okc c (n + 1) ∧ RowKit.Below w.heap.size w w' ∧ ∀ base, base ≤ w.heap.size → Fresh base w a0 b0 d0 → OwnO base w x → Fresh base w' a b d

set_option maxHeartbeats 4000000 in
set_option maxRecDepth 100000 in
theorem cell_at (ao bo dd : Option Addr) (na ac nb bc nd dc : Nat) (c : Con) (S : Mu → Prop) (n : Nat) (m : Mu) (xo : Option Addr) (xn xc : Nat) (w : World) (hc : Lies w (.slice ao na ac) (.slice bo nb bc) (.slice dd nd dc) c) (hR : Reps S c) (hO : Okc c n) (hn : n ≤ 100000)
    (hx : Over w (m, .slice xo xn xc)) (hr : rightF m = true) (hk : isC m) :
    Calls Tryz.prog 34 #[.agg #[.slice ao na ac, .slice bo nb bc, .slice dd nd dc], vM (m, .slice xo xn xc)] w (AddP (.slice ao na ac) (.slice bo nb bc) (.slice dd nd dc) (m, .slice xo xn xc) w S m n) := by
  obtain ⟨l1, l2, l3⟩ := hO.lens
  obtain ⟨R, eR, hcells⟩ := hc.cells
  have hRl : R.length = c.cells.length := by rw [← eR]; simp
  obtain ⟨_, _, e0, -, -⟩ := hcells.form
  obtain ⟨rfl⟩ : na = R.length := by injection e0
  clear e0
  obtain ⟨na, hna⟩ : ∃ k, k = R.length := ⟨_, rfl⟩
  rw [← hna] at hc hcells hRl ⊢
  have HCov := Lib.hid (fun (W : World) (hW : RowKit.Below w.heap.size w W) => covered_any (.slice ao na ac) (.slice bo nb bc) (.slice dd nd dc) c.wipes m.key m.at_ W (hc.wipes.below hW) (by omega))
  have HPl := Lib.hid (fun (W : World) (hW : RowKit.Below w.heap.size w W) => place_any (.slice ao na ac) R m.key W (hcells.below hW) (by omega) (by rw [eR]; exact hR.rc))
  have hA := A0.of ((At.new (w.alloc (.cells #[.slice ao na ac, .slice bo nb bc, .slice dd nd dc] 26)) 40 (m, .slice xo xn xc)).below ((Below.refl _ _).alloc (by simp) (.cells #[.slice none 0 0, .slice none 0 0, .slice none 0 0] 26)))
  rw [World.size_alloc] at hA
  have hP := (((C3.new w (.slice ao na ac) (.slice bo nb bc) (.slice dd nd dc)).below ((Below.refl _ _).alloc (Nat.le_refl _) (.cells (enM (m, .slice xo xn xc)).toArray 40))).below ((Below.refl _ _).alloc (by simp) (.cells #[.slice none 0 0, .slice none 0 0, .slice none 0 0] 26)))
  have hT := C3.new ((w.alloc (.cells #[.slice ao na ac, .slice bo nb bc, .slice dd nd dc] 26)).alloc (.cells (enM (m, .slice xo xn xc)).toArray 40)) (.slice none 0 0) (.slice none 0 0) (.slice none 0 0)
  rw [World.size_alloc, World.size_alloc] at hT
  have HP := Lib.hid hP
  have HT := Lib.hid hT
  have HA := Lib.hid hA
  obtain ⟨C, hC⟩ : ∃ C, C = c.wipes.any (fun y => hitsB y m.key m.at_) := ⟨_, rfl⟩
  rw [← hC] at HCov
  have HCC := Lib.hid hC
  have HNA := Lib.hid hna
  have HLEN := Lib.hid (show R.length ≤ 1000000 by omega)
  have HL := Lib.hid hc
  have HR := Lib.hid hR
  have HO := Lib.hid hO
  have HX := Lib.hid hx
  have HE := Lib.hid eR
  have HCE := Lib.hid hcells
  have HRR := Lib.hid hr
  have HK := Lib.hid hk
  clear hA hP hT hC hna hc hR hO hx eR hcells hr hk hRl
  obtain ⟨at1, ak1, akey1, afin1, aval1, aex1, ⟨ap1, al1, aw1⟩, aov1⟩ := m
  unfold vM
  unfold enM at HA HP HT
  simp only [] at HA HP HT HCov HPl ⊢
  go_enter Tryz.func34, Tryz.ntmps34
  go_wp2_with fail
  have hB := Lib.hid (((((Below.refl _ w).alloc (Nat.le_refl _) (.cells #[.slice ao na ac, .slice bo nb bc, .slice dd nd dc] 26)).alloc (by simp) (.cells #[.int .i64 at1, .int .i64 ak1, .string akey1, .string afin1, .string aval1, .int .i64 aex1, .int .i64 ap1, .int .i64 al1, .int .i64 aw1, .slice xo xn xc] 40))).alloc (by simp; omega) (.cells #[.slice none 0 0, .slice none 0 0, .slice none 0 0] 26))
  refine (HCov.out _ hB.out).mono ?_
  rintro e w1 ⟨rfl, hb⟩
  have HB1 := Lib.hid (below_then hB.out (Nat.le_refl _) hb)
  have HA1 := Lib.hid (HA.out.below hb)
  have HP1 := Lib.hid (HP.out.below hb)
  have HT1 := Lib.hid (HT.out.below hb)
  clear hb
  cases C
  · obtain ⟨-, p0, p1, p2, -⟩ := HP1.out
    obtain ⟨-, a0, a1, a2, a3, a4, a5, a6, a7, a8, a9⟩ := HA1.out
    simp only [] at a0 a1 a2 a3 a4 a5 a6 a7 a8 a9
    go_wp2_with fail
    refine (HPl.out _ HB1.out).mono ?_
    rintro e w2 ⟨i, hi, rfl, hb⟩
    have HI := Lib.hid hi
    have HB2 := Lib.hid (below_then HB1.out (Nat.le_refl _) hb)
    have HA2 := Lib.hid (HA1.out.below hb)
    have HP2 := Lib.hid (HP1.out.below hb)
    have HT2 := Lib.hid (HT1.out.below hb)
    clear hi hb p0 p1 p2 a0 a1 a2 a3 a4 a5 a6 a7 a8 a9
    obtain ⟨-, p0, p1, p2, q0, q1, q2⟩ := HP2.out
    obtain ⟨-, a0, a1, a2, a3, a4, a5, a6, a7, a8, a9⟩ := HA2.out
    simp only [] at a0 a1 a2 a3 a4 a5 a6 a7 a8 a9
    obtain ⟨D, hD⟩ : ∃ D, D = isAt (fun y => cmpS y.key akey1) (R.map (·.1)) i := ⟨_, rfl⟩
    rw [← hD]
    have HD := Lib.hid hD
    clear hD
    have HCl : Hid (∀ W, RowKit.Below w2.heap.size w2 W → Calls Tryz.prog 59 #[.slice ao na ac] W (OwnP 40 10 enM W R)) := Lib.hid (fun W hW => by
      have h := (HCE.out.below HB2.out).below hW
      have hl : na = R.length := HNA.out
      rw [hl] at h ⊢
      exact cloneM_any ao ac R W h.row (flatM_one h.forms) HLEN.out)
    have hs : w.heap.size + 1 + 1 < w2.heap.size := HT2.out.lt
    cases D
    · go_wp2_with fail
      have HIL := Lib.hid (show i ≤ R.length from by have := HI.out.1; simpa using this)
      have HFO := Lib.hid (fun y hy => (HCE.out.forms y hy))
      have HNW : Hid (∀ z : World, (z.alloc (.cells #[.int .i64 at1, .int .i64 ak1, .string akey1, .string afin1, .string aval1, .int .i64 aex1, .int .i64 ap1, .int .i64 al1, .int .i64 aw1, .slice xo xn xc] 40)).heap[z.heap.size]? = some (.cells ⟨enM (⟨at1, ak1, akey1, afin1, aval1, aex1, ⟨ap1, al1, aw1⟩, aov1⟩, .slice xo xn xc)⟩ 40 (0, 0))) := Lib.hid (fun z => heap_alloc_new z _)
      have n0 : ∀ o : Obj, (w2.alloc o).cell? ⟨w.heap.size, 0, none⟩ = some (.slice ao na ac) := fun o => (((Below.refl w2.heap.size w2).alloc (Nat.le_refl _) o).cell (p := ⟨w.heap.size, 0, none⟩) HP2.out.lt).trans p0
      go_region_law (first
        | (go_simp; go_at_call 59; (with_reducible refine (HCl.out _ ((Below.refl w2.heap.size w2).drew)).mono ?_); rintro e w3 ⟨v, rfl, hown, hb3⟩; have B3 := below_then ((Below.refl w2.heap.size w2).drew) (Nat.le_refl _) hb3; obtain ⟨-, p0, p1, p2, -⟩ := HP2.out.below B3; obtain ⟨-, a0, a1, a2, a3, a4, a5, a6, a7, a8, a9⟩ := HA2.out.below B3; simp only [] at a0 a1 a2 a3 a4 a5 a6 a7 a8 a9; have HOW := Lib.hid (own_base (n₀ := w2.heap.size) hown (by simp)); have HB3 := Lib.hid B3; clear hown B3 hb3)
        | (go_simp; go_at_call 59; (with_reducible refine (HCl.out _ (((Below.refl w2.heap.size w2).alloc (Nat.le_refl _) (.cells #[.int .i64 at1, .int .i64 ak1, .string akey1, .string afin1, .string aval1, .int .i64 aex1, .int .i64 ap1, .int .i64 al1, .int .i64 aw1, .slice xo xn xc] 40)).drew)).mono ?_); rintro e w3 ⟨v, rfl, hown, hb3⟩; have B3 := below_then (((Below.refl w2.heap.size w2).alloc (Nat.le_refl _) (.cells #[.int .i64 at1, .int .i64 ak1, .string akey1, .string afin1, .string aval1, .int .i64 aex1, .int .i64 ap1, .int .i64 al1, .int .i64 aw1, .slice xo xn xc] 40)).drew) (Nat.le_refl _) hb3; obtain ⟨-, p0, p1, p2, -⟩ := HP2.out.below B3; obtain ⟨-, a0, a1, a2, a3, a4, a5, a6, a7, a8, a9⟩ := HA2.out.below B3; simp only [] at a0 a1 a2 a3 a4 a5 a6 a7 a8 a9; have HOW := Lib.hid (own_base (n₀ := w2.heap.size) hown (by simp)); have HB3 := Lib.hid B3; have HVB := Lib.hid (fun k hk (e : k = w2.heap.size) => by have := (hown.lt k hk).1; simp at this; omega : ∀ k, v.ownBlock = some k → k ≠ w2.heap.size); have HBL := Lib.hid ((hb3.block w2.heap.size (by simp)).trans (HNW.out w2)); clear hown B3 hb3)
        | (go_simp; go_at_call 58; (with_reducible refine (put_any w2 _ w2.heap.size v w3.heap.size R i (⟨at1, ak1, akey1, afin1, aval1, aex1, ⟨ap1, al1, aw1⟩, aov1⟩, .slice xo xn xc) (Nat.le_refl _) (HOW.out.alloc _) (HB3.out.alloc HB3.out.size _) HIL.out HLEN.out (HNW.out w3) (fun k hk e => by have := (HOW.out.lt k hk).2; omega) HFO.out ⟨_, _, _, rfl⟩).mono ?_); rintro e w4 ⟨g, cap, rfl, hl4, hg4, B4⟩; have HL4 := Lib.hid hl4; have HB4 := Lib.hid B4; have HG4 := Lib.hid hg4; obtain ⟨-, p0, p1, p2, q0, q1, q2⟩ := HP2.out.below B4; obtain ⟨-, a0, a1, a2, a3, a4, a5, a6, a7, a8, a9⟩ := HA2.out.below B4; simp only [] at a0 a1 a2 a3 a4 a5 a6 a7 a8 a9; clear hl4 hg4 B4)
        | (go_simp; go_at_call 58; (with_reducible refine (put_any w2 _ w2.heap.size v w2.heap.size R i (⟨at1, ak1, akey1, afin1, aval1, aex1, ⟨ap1, al1, aw1⟩, aov1⟩, .slice xo xn xc) (Nat.le_refl _) (HOW.out) (HB3.out) HIL.out HLEN.out (HBL.out) (HVB.out) HFO.out ⟨_, _, _, rfl⟩).mono ?_); rintro e w4 ⟨g, cap, rfl, hl4, hg4, B4⟩; have HL4 := Lib.hid hl4; have HB4 := Lib.hid B4; have HG4 := Lib.hid hg4; obtain ⟨-, p0, p1, p2, q0, q1, q2⟩ := HP2.out.below B4; obtain ⟨-, a0, a1, a2, a3, a4, a5, a6, a7, a8, a9⟩ := HA2.out.below B4; simp only [] at a0 a1 a2 a3 a4 a5 a6 a7 a8 a9; clear hl4 hg4 B4))
      all_goals
        clear a0 a1 a2 a3 a4 a5 a6 a7 a8 a9
        obtain ⟨tl, t0, t1, t2, f0, f1, f2⟩ := HT2.out.below HB4.out
        go_wp2_with fail
        have HN : Hid (w.heap.size ≠ w.heap.size + 1 + 1) := Lib.hid (by omega)
        obtain ⟨-, e0, e1, e2, -⟩ := c3_put ((HT2.out.below HB4.out).other (u := .slice (some ⟨g, 0, none⟩) (R.length + 1) cap) (o := 0) HN.out) (.slice (some ⟨g, 0, none⟩) (R.length + 1) cap) (.slice bo nb bc) (.slice dd nd dc)
        refine bodyPost_ret (v := .agg #[.slice (some ⟨g, 0, none⟩) (R.length + 1) cap, .slice bo nb bc, .slice dd nd dc]) (by simp [results, Tryz.f34, go_sem, e0, e1, e2]) rfl ?_
        have hb4 := below_then HB2.out (Nat.le_refl _) HB4.out
        have hbf := c3_put_below (hb4.setCell (p := ⟨w.heap.size, 0, none⟩) (Nat.le_refl _) (.slice (some ⟨g, 0, none⟩) (R.length + 1) cap)) (k := w.heap.size + 1 + 1) (by omega) (.slice (some ⟨g, 0, none⟩) (R.length + 1) cap) (.slice bo nb bc) (.slice dd nd dc)
        have hg : w2.heap.size ≤ g := HG4.out
        have hlf := Lst.kept (Lst.owned enM_len (by decide) (by rw [List.length_append, List.length_cons, List.length_take, List.length_drop]; have := HIL.out; omega) HL4.out) (w' := ((((w4.setCell ⟨w.heap.size, 0, none⟩ (.slice (some ⟨g, 0, none⟩) (R.length + 1) cap)).setCell ⟨w.heap.size + 1 + 1, 0, none⟩ (.slice (some ⟨g, 0, none⟩) (R.length + 1) cap)).setCell ⟨w.heap.size + 1 + 1, 1, none⟩ (.slice bo nb bc)).setCell ⟨w.heap.size + 1 + 1, 2, none⟩ (.slice dd nd dc))) (fun o => by
          rw [World.cell?_setCell_far _ _ _ _ (by show _ ≠ _; simp only []; omega), World.cell?_setCell_far _ _ _ _ (by show _ ≠ _; simp only []; omega), World.cell?_setCell_far _ _ _ _ (by show _ ≠ _; simp only []; omega), World.cell?_setCell_far _ _ _ _ (by show _ ≠ _; simp only []; omega)]) (by simp)
        have hp := HI.out
        have hno : ∀ y ∈ c.wipes, ¬ hits y akey1 ⟨ap1, al1, aw1⟩ := fun y hy h => by
          have h1 := List.any_eq_false.1 HCC.out.symm y hy
          exact h1 ((hits_iff _ _ _).1 h)
        have hd := HD.out.symm
        rw [HE.out] at hp hd
        exact ⟨_, _, _, ⟨c.cells.take i ++ ⟨at1, ak1, akey1, afin1, aval1, aex1, ⟨ap1, al1, aw1⟩, aov1⟩ :: c.cells.drop i, c.wipes, c.sibs⟩, rfl, ⟨reads_put HCE.out HE.out HX.out hlf hbf, HL.out.wipes.below hbf, HL.out.sibs.below hbf⟩, HR.out.cell_put (fit_of HRR.out) HK.out hno hp hd, HO.out.cells HRR.out (fun y hy => mem_take_drop.1 hy) (len_put _ _ _), hbf, fun base hbs hF hx => ⟨by obtain ⟨R2, h2⟩ := hF.1; exact ⟨_, copied_put (copied_over HCE.out h2) hx HIL.out (own_other (own_other (own_other (own_other HL4.out w.heap.size 0 (by omega) (.slice (some ⟨g, 0, none⟩) (R.length + 1) cap)) (w.heap.size + 1 + 1) 0 (by omega) (.slice (some ⟨g, 0, none⟩) (R.length + 1) cap)) (w.heap.size + 1 + 1) 1 (by omega) (.slice bo nb bc)) (w.heap.size + 1 + 1) 2 (by omega) (.slice dd nd dc)) hbf (by omega)⟩, hF.2.1.imp fun _ h => h.below hbf, hF.2.2.imp fun _ h => h.below hbf⟩⟩
    · have hcr := (HCE.out.below HB2.out)
      obtain ⟨y, hy, hy0⟩ := isAt_some HD.out.symm
      rw [List.getElem?_map] at hy
      obtain ⟨z, hz, rfl⟩ : ∃ z, R[i]? = some z ∧ z.1 = y := by
        cases hzz : R[i]? with
        | none => rw [hzz] at hy; cases hy
        | some z => rw [hzz] at hy; exact ⟨z, rfl, by injection hy⟩
      have hkey : z.1.key = akey1 := (Tot.str.zero _ _).1 hy0
      have hil : i < R.length := (List.getElem?_eq_some_iff.1 hz).1
      obtain ⟨zb, zoff, rfl, hzat⟩ := hcr.at_ hz
      have hzo := hcr.over z (List.mem_of_getElem? hz)
      obtain ⟨zo, zc, ze, -, -⟩ := hzo.form
      have HCmp := Lib.hid (fun (W : World) (hW : RowKit.Below w2.heap.size w2 W) => compare_any z (⟨at1, ak1, akey1, afin1, aval1, aex1, ⟨ap1, al1, aw1⟩, aov1⟩, .slice xo xn xc) W (hzo.below hW) ((HX.out.below HB2.out).below hW) (small_right (HO.out.right _ (Con.mem_all.2 (Or.inl (by rw [← HE.out]; exact List.mem_map.2 ⟨z, List.mem_of_getElem? hz, rfl⟩))))).over (small_right HRR.out).over)
      obtain ⟨hzlt, z0, z1, z2, z3, z4, z5, z6, z7, z8, z9⟩ := hzat
      have HKEY := Lib.hid hkey
      have HZ := Lib.hid hz
      have HIL := Lib.hid hil
      have hia : (0 : Int) ≤ (i : Int) := by omega
      have hib : (i : Int) < (na : Int) := by have := HNA.out; omega
      obtain ⟨Cm, hCm⟩ : ∃ q, q = muC z.1 ⟨at1, ak1, akey1, afin1, aval1, aex1, ⟨ap1, al1, aw1⟩, aov1⟩ := ⟨_, rfl⟩
      rw [← hCm] at HCmp
      have HCM := Lib.hid hCm
      clear hCm hkey hz hil hy hy0 hzo hcr
      obtain ⟨⟨at2, ak2, akey2, afin2, aval2, aex2, ⟨ap2, al2, aw2⟩, aov2⟩, av2⟩ := z
      simp only [] at ze z0 z1 z2 z3 z4 z5 z6 z7 z8 z9 HCmp
      obtain ⟨zn, hzn⟩ : ∃ k, k = aov2.length := ⟨_, rfl⟩
      rw [← hzn] at ze
      subst ze
      clear hzn
      unfold vM at HCmp
      simp only [] at HCmp
      go_wp2_with fail
      have hs0 : w.heap.size < w2.heap.size := by omega
      have hs1 : w.heap.size + 1 < w2.heap.size := by omega
      refine wp_region_calm (by kernel_rfl) (by kernel_rfl) ?_
      repeat (go_big_quiet_step ((go_at_call 65; exact calm ((HCmp.out _ (BW.below _)).mono fun _ _ h => ⟨h.1, h.2.below⟩))))
      refine wpQuiet_nil ?_
      rintro _ ⟨y, rfl⟩
      have HBy := Lib.hid (below_then HB2.out (Nat.le_refl _) y.below)
      have HPy := Lib.hid (HP2.out.below y.below)
      have HTy := Lib.hid (HT2.out.below y.below)
      have HAy := Lib.hid (HA2.out.below y.below)
      have HWy := Lib.hid y.below
      obtain ⟨W, hW⟩ : ∃ W, W = y.at := ⟨_, rfl⟩
      rw [← hW] at HBy HPy HTy HAy HWy ⊢
      clear hW y p0 p1 p2 q0 q1 q2 a0 a1 a2 a3 a4 a5 a6 a7 a8 a9 z0 z1 z2 z3 z4 z5 z6 z7 z8 z9
      by_cases hlt : Cm < 0
      · obtain ⟨pl, p0, p1, p2, q0, q1, q2⟩ := HPy.out
        go_wp2_with fail
        refine (HCl.out _ HWy.out).mono ?_
        rintro e w3 ⟨v, rfl, hown, hb3⟩
        obtain ⟨g, cap, spare, rfl, hg1, hg2, hg3, hg4, hg5, hg6, hg7⟩ := own_whole hown (by have := HIL.out; omega)
        have HBB := Lib.hid (below_then HBy.out (Nat.le_refl _) hb3)
        have hP3 := HPy.out.below hb3
        have HT3 := Lib.hid (HTy.out.below hb3)
        have HA3 := Lib.hid (HAy.out.below hb3)
        have hsz := HTy.out.lt
        have hnH : w.heap.size ≠ g := by omega
        have hnT : w.heap.size + 1 + 1 ≠ g := by omega
        have hHH : w.heap.size ≠ w.heap.size + 1 + 1 := by omega
        obtain ⟨-, r0, r1, r2, u0, u1, u2⟩ := hP3
        obtain ⟨-, a0, a1, a2, a3, a4, a5, a6, a7, a8, a9⟩ := HA3.out
        simp only [] at a0 a1 a2 a3 a4 a5 a6 a7 a8 a9
        have hhp : (w3.setCell ⟨w.heap.size, 0, none⟩ (.slice (some ⟨g, 0, none⟩) R.length cap)).heap[g]? = some (.cells ⟨R.flatMap enM ++ spare⟩ 40 (0, 0)) := (heap_setCell_far _ _ _ _ hnH).trans hg3
        have hP5 : C3 ((w3.setCell ⟨w.heap.size, 0, none⟩ (.slice (some ⟨g, 0, none⟩) R.length cap)).setRow g ⟨splice (R.flatMap enM ++ spare) (i * 10) (enM (⟨at1, ak1, akey1, afin1, aval1, aex1, ⟨ap1, al1, aw1⟩, aov1⟩, .slice xo xn xc))⟩) w.heap.size (.slice (some ⟨g, 0, none⟩) R.length cap) (.slice bo nb bc) (.slice dd nd dc) := (c3_one (HPy.out.below hb3) (.slice (some ⟨g, 0, none⟩) R.length cap)).row hnH
        have hT5 : C3 ((w3.setCell ⟨w.heap.size, 0, none⟩ (.slice (some ⟨g, 0, none⟩) R.length cap)).setRow g ⟨splice (R.flatMap enM ++ spare) (i * 10) (enM (⟨at1, ak1, akey1, afin1, aval1, aex1, ⟨ap1, al1, aw1⟩, aov1⟩, .slice xo xn xc))⟩) (w.heap.size + 1 + 1) (.slice none 0 0) (.slice none 0 0) (.slice none 0 0) := (HT3.out.other hHH).row hnT
        have hrow5 := setRow_heap (w3.setCell ⟨w.heap.size, 0, none⟩ (.slice (some ⟨g, 0, none⟩) R.length cap)) g ⟨R.flatMap enM ++ spare⟩ ⟨splice (R.flatMap enM ++ spare) (i * 10) (enM (⟨at1, ak1, akey1, afin1, aval1, aex1, ⟨ap1, al1, aw1⟩, aov1⟩, .slice xo xn xc))⟩ _ _ hhp
        have hbel5 := below_setRow ((below_then HBy.out (Nat.le_refl _) hb3).setCell (p := ⟨w.heap.size, 0, none⟩) (Nat.le_refl _) (.slice (some ⟨g, 0, none⟩) R.length cap)) g (by omega) ⟨splice (R.flatMap enM ++ spare) (i * 10) (enM (⟨at1, ak1, akey1, afin1, aval1, aex1, ⟨ap1, al1, aw1⟩, aov1⟩, .slice xo xn xc))⟩
        have HP5 := Lib.hid hP5
        have HT5 := Lib.hid hT5
        have HR5 := Lib.hid hrow5
        have HB5 := Lib.hid hbel5
        clear hP5 hT5 hrow5 hbel5
        have HHP := Lib.hid hhp
        have HFIT : Hid (i * 10 + (enM (⟨at1, ak1, akey1, afin1, aval1, aex1, ⟨ap1, al1, aw1⟩, aov1⟩, .slice xo xn xc)).length ≤ (R.flatMap enM ++ spare).length) := Lib.hid (by have := HIL.out; rw [enM_len, List.length_append, flatMap_len enM_len]; omega)
        have HONE : Hid (∀ u ∈ enM (⟨at1, ak1, akey1, afin1, aval1, aex1, ⟨ap1, al1, aw1⟩, aov1⟩, .slice xo xn xc), u.oneCell' = true) := Lib.hid (by have := flatM_one (l := [((⟨at1, ak1, akey1, afin1, aval1, aex1, ⟨ap1, al1, aw1⟩, aov1⟩, .slice xo xn xc) : Ro)]) (fun y hy => by rw [List.mem_singleton.1 hy]; exact ⟨xo, xn, xc, rfl⟩); simpa using this)
        have hib2 : (i : Int) < (R.length : Int) := by have := HIL.out; omega
        have HG := Lib.hid (And.intro hnH hnT)
        have HHH := Lib.hid hHH
        have HG7 := Lib.hid (And.intro hg6 hg7)
        have HG4 := Lib.hid (And.intro hg4 hg5)
        have HGB := Lib.hid (show w.heap.size + 1 + 1 + 1 ≤ g from by omega)
        have HG2 := Lib.hid hg2
        clear hown hb3 hg1 hg3 hg6 hg7 hg4 hg5 hhp p0 p1 p2 q0 q1 q2 hnH hnT hHH
        go_wp2_with (refine wpList_store_k _ rfl 40 _ _ rfl g (i * 10) (enM (⟨at1, ak1, akey1, afin1, aval1, aex1, ⟨ap1, al1, aw1⟩, aov1⟩, .slice xo xn xc)) rfl rfl (R.flatMap enM ++ spare) 40 HHP.out (info_sizeM _ rfl) HFIT.out HONE.out ?_; (obtain ⟨w5, hw5⟩ : ∃ W5, W5 = ((w3.setCell ⟨w.heap.size, 0, none⟩ (.slice (some ⟨g, 0, none⟩) R.length cap)).setRow g ⟨splice (R.flatMap enM ++ spare) (i * 10) (enM (⟨at1, ak1, akey1, afin1, aval1, aex1, ⟨ap1, al1, aw1⟩, aov1⟩, .slice xo xn xc))⟩) := ⟨_, rfl⟩); rw [← hw5] at HP5 HT5 HR5 HB5 ⊢; clear hw5; clear r0 r1 r2 u0 u1 u2; (obtain ⟨-, r0, r1, r2, -⟩ := HP5.out); (obtain ⟨tl, t0, t1, t2, f0, f1, f2⟩ := HT5.out))
        obtain ⟨-, e0, e1, e2, -⟩ := c3_put HT5.out (.slice (some ⟨g, 0, none⟩) R.length cap) (.slice bo nb bc) (.slice dd nd dc)
        refine bodyPost_ret (v := .agg #[.slice (some ⟨g, 0, none⟩) R.length cap, .slice bo nb bc, .slice dd nd dc]) (by simp [results, Tryz.f34, go_sem, e0, e1, e2]) rfl ?_
        have hbf := c3_put_below HB5.out (k := w.heap.size + 1 + 1) (by omega) (.slice (some ⟨g, 0, none⟩) R.length cap) (.slice bo nb bc) (.slice dd nd dc)
        have hgg := HG.out
        have hspl : splice (R.flatMap enM ++ spare) (i * 10) (enM (⟨at1, ak1, akey1, afin1, aval1, aex1, ⟨ap1, al1, aw1⟩, aov1⟩, .slice xo xn xc)) = (R.set i (⟨at1, ak1, akey1, afin1, aval1, aex1, ⟨ap1, al1, aw1⟩, aov1⟩, .slice xo xn xc)).flatMap enM ++ spare := flat_splice R spare i (⟨at1, ak1, akey1, afin1, aval1, aex1, ⟨ap1, al1, aw1⟩, aov1⟩, .slice xo xn xc) HIL.out
        have hlf := Lst.kept (lst_row HR5.out hspl HG4.out.1 HG4.out.2) (w' := (((w5.setCell ⟨w.heap.size + 1 + 1, 0, none⟩ (.slice (some ⟨g, 0, none⟩) R.length cap)).setCell ⟨w.heap.size + 1 + 1, 1, none⟩ (.slice bo nb bc)).setCell ⟨w.heap.size + 1 + 1, 2, none⟩ (.slice dd nd dc))) (fun o => by
          rw [World.cell?_setCell_far _ _ _ _ (by show _ ≠ _; simp only []; omega), World.cell?_setCell_far _ _ _ _ (by show _ ≠ _; simp only []; omega), World.cell?_setCell_far _ _ _ _ (by show _ ≠ _; simp only []; omega)]) (by simp)
        have hno : ∀ y ∈ c.wipes, ¬ hits y akey1 ⟨ap1, al1, aw1⟩ := fun y hy h => by
          have h1 := List.any_eq_false.1 HCC.out.symm y hy
          exact h1 ((hits_iff _ _ _).1 h)
        have hz := congrArg (fun o => o.map (·.1)) HZ.out
        rw [← List.getElem?_map, HE.out] at hz
        have hm := HCM.out
        rw [hm] at hlt
        have hz2 := hz
        exact ⟨_, _, _, ⟨c.cells.set i ⟨at1, ak1, akey1, afin1, aval1, aex1, ⟨ap1, al1, aw1⟩, aov1⟩, c.wipes, c.sibs⟩, rfl, ⟨reads_set HCE.out HE.out HX.out hlf hbf, HL.out.wipes.below hbf, HL.out.sibs.below hbf⟩, HR.out.cell_set (fit_of HRR.out) HK.out hno hz2 HKEY.out hlt, HO.out.cells HRR.out (fun y hy => List.mem_or_eq_of_mem_set hy) (by rw [List.length_set]; omega), hbf, fun base hbs hF hx => ⟨by
          obtain ⟨R2, h2⟩ := hF.1
          have hw5 := HR5.out
          rw [hspl] at hw5
          have hof : w5.ownsRow (w.heap.size + 1 + 1 + 1) 40 10 (.slice (some ⟨g, 0, none⟩) R.length cap) R.length ((R.set i (⟨at1, ak1, akey1, afin1, aval1, aex1, ⟨ap1, al1, aw1⟩, aov1⟩, .slice xo xn xc)).flatMap enM) := own_mk (by have := HGB.out; omega) hw5 HG4.out.1 HG4.out.2 (by have h7 := HG7.out.1; rw [List.length_append, flatMap_len enM_len] at h7 ⊢; rw [List.length_set]; exact h7) (by rw [flatMap_len enM_len, List.length_set])
          exact ⟨_, copied_set (copied_over HCE.out h2) hx (own_other (own_other (own_other hof (w.heap.size + 1 + 1) 0 (by omega) (.slice (some ⟨g, 0, none⟩) R.length cap)) (w.heap.size + 1 + 1) 1 (by omega) (.slice bo nb bc)) (w.heap.size + 1 + 1) 2 (by omega) (.slice dd nd dc)) hbf (by omega)⟩, hF.2.1.imp fun _ h => h.below hbf, hF.2.2.imp fun _ h => h.below hbf⟩⟩
      · obtain ⟨pl, p0, p1, p2, q0, q1, q2⟩ := HPy.out
        obtain ⟨tl, t0, t1, t2, f0, f1, f2⟩ := HTy.out
        have hge : decide (Cm < 0) = false := by simpa using hlt
        go_wp2_with fail
        obtain ⟨-, e0, e1, e2, -⟩ := c3_put HTy.out (.slice (some ⟨zb, zoff, none⟩) na ac) (.slice bo nb bc) (.slice dd nd dc)
        refine bodyPost_ret (v := .agg #[(.slice (some ⟨zb, zoff, none⟩) na ac), .slice bo nb bc, .slice dd nd dc]) (by simp [results, Tryz.f34, go_sem, e0, e1, e2]) rfl ?_
        have hbf := c3_put_below HBy.out (k := w.heap.size + 1 + 1) (by omega) (.slice (some ⟨zb, zoff, none⟩) na ac) (.slice bo nb bc) (.slice dd nd dc)
        have hno : ∀ y ∈ c.wipes, ¬ hits y akey1 ⟨ap1, al1, aw1⟩ := fun y hy h => by
          have h1 := List.any_eq_false.1 HCC.out.symm y hy
          exact h1 ((hits_iff _ _ _).1 h)
        have hz := congrArg (fun o => o.map (·.1)) HZ.out
        rw [← List.getElem?_map, HE.out] at hz
        have hm := HCM.out
        rw [hm] at hlt
        have hlt2 := hlt
        exact ⟨_, _, _, c, rfl, HL.out.below hbf, HR.out.cell_keep (fit_of HRR.out) HK.out hno hz HKEY.out (Int.not_lt.2 hlt2), HO.out.more (by omega), hbf, fun base _ hF _ => hF.below hbf⟩
  · obtain ⟨pl, p0, p1, p2, -⟩ := HP1.out
    obtain ⟨tl, t0, t1, t2, f0, f1, f2⟩ := HT1.out
    go_wp2_with fail
    have HF := Lib.hid (c3_put HT1.out (.slice ao na ac) (.slice bo nb bc) (.slice dd nd dc))
    obtain ⟨-, e0, e1, e2, -⟩ := HF.out
    refine bodyPost_ret (v := .agg #[.slice ao na ac, .slice bo nb bc, .slice dd nd dc]) (by simp [results, Tryz.f34, go_sem, e0, e1, e2]) rfl ?_
    have hb3 := c3_put_below HB1.out (k := w.heap.size + 1 + 1) (by omega) (.slice ao na ac) (.slice bo nb bc) (.slice dd nd dc)
    obtain ⟨y, hy, e⟩ := List.any_eq_true.1 HCC.out.symm
    exact ⟨_, _, _, c, rfl, HL.out.below hb3, HR.out.cell_hit (fit_of HRR.out) HK.out hy ((hits_iff _ _ _).2 e), HO.out.more (by omega), hb3, fun base _ hF _ => hF.below hb3⟩
end Go.Proofs.YtmjelcjdfamikaaGreatDoor.Mut

/- The walk of state.Content.wipe (layer 8). -/
namespace Go.Proofs.YtmjelcjdfamikaaGreatDoor.Mut
open Go.RowKit Go.Sort Go.Proofs.YtmjelcjdfamikaaGreatDoor.Ord
set_option linter.unusedSectionVars false
variable [Inhabited Lim]

theorem C3.set0 {w : World} {k : Nat} {a b d : Value} (h : C3 w k a b d) (u : Value) : C3 (w.setCell ⟨k, 0, none⟩ u) k u b d := by
  obtain ⟨h0, h1, h2, h3, h4, h5, h6⟩ := h
  exact ⟨by simpa using h0, by go_simp, by go_simp, by go_simp, by go_simp, by go_simp, by go_simp⟩
theorem C3.set1 {w : World} {k : Nat} {a b d : Value} (h : C3 w k a b d) (u : Value) : C3 (w.setCell ⟨k, 1, none⟩ u) k a u d := by
  obtain ⟨h0, h1, h2, h3, h4, h5, h6⟩ := h
  exact ⟨by simpa using h0, by go_simp, by go_simp, by go_simp, by go_simp, by go_simp, by go_simp⟩
theorem grown_cell (w : World) (k o : Nat) (u : Value) : w.grownBy (w.setCell ⟨k, o, none⟩ u) (some k) := grown_setCell (World.grownBy.refl _ _) (Or.inl rfl) _

set_option maxHeartbeats 4000000 in
set_option maxRecDepth 100000 in
theorem wipe_at (ao bo dd : Option Addr) (na ac nb bc nd dc : Nat) (c : Con) (S : Mu → Prop) (n : Nat) (m : Mu) (xo : Option Addr) (xn xc : Nat) (w : World) (hc : Lies w (.slice ao na ac) (.slice bo nb bc) (.slice dd nd dc) c) (hR : Reps S c) (hO : Okc c n) (hn : n ≤ 100000)
    (hx : Over w (m, .slice xo xn xc)) (hr : rightF m = true) (hk : isW m) :
    Calls Tryz.prog 33 #[.agg #[.slice ao na ac, .slice bo nb bc, .slice dd nd dc], vM (m, .slice xo xn xc)] w (AddP (.slice ao na ac) (.slice bo nb bc) (.slice dd nd dc) (m, .slice xo xn xc) w S m n) := by
  obtain ⟨l1, l2, l3⟩ := hO.lens
  obtain ⟨R, eR, hcells⟩ := hc.cells
  obtain ⟨T, eT, hwipes⟩ := hc.wipes
  have hRl : R.length = c.cells.length := by rw [← eR]; simp
  have hTl : T.length = c.wipes.length := by rw [← eT]; simp
  obtain ⟨_, _, e0, -, -⟩ := hcells.form
  obtain ⟨rfl⟩ : na = R.length := by injection e0
  obtain ⟨_, _, e1, -, -⟩ := hwipes.form
  obtain ⟨rfl⟩ : nb = T.length := by injection e1
  clear e0 e1
  obtain ⟨na, hna⟩ : ∃ k, k = R.length := ⟨_, rfl⟩
  obtain ⟨nb, hnb⟩ : ∃ k, k = T.length := ⟨_, rfl⟩
  rw [← hna, ← hnb] at hc ⊢
  rw [← hna] at hcells
  rw [← hnb] at hwipes
  have HF1 := Lib.hid (fun (W : World) (hW : RowKit.Below w.heap.size w W) (hA : A0 W (w.heap.size + 1) (m, .slice xo xn xc)) => contains_any (.slice bo nb bc) T 61 #[.pointer (some ⟨w.heap.size + 1, 0, none⟩)] (fun x => withinB x m) none W (hwipes.row.below hW) hwipes.forms (by omega) (ask_wipe1 (m, .slice xo xn xc) _ none W hA ⟨_, _, _, rfl⟩ (by simp)) (enters_of Tryz.func61 (by kernel_rfl) rfl))
  have HF2 := Lib.hid (fun (W : World) (v : Value) (hown : W.ownsRow (w.heap.size + 1 + 1 + 1) 40 10 v T.length (T.flatMap enM)) (hA : A0 W (w.heap.size + 1) (m, .slice xo xn xc)) => delete_any (w.heap.size + 1 + 1 + 1) v T 63 #[.pointer (some ⟨w.heap.size + 1, 0, none⟩)] (fun x => withinB m x) W hown hwipes.forms (by omega) (ask_wipe2 (m, .slice xo xn xc) _ _ W hA ⟨_, _, _, rfl⟩ (fun e => by have := (hown.lt _ e).1; omega)) (enters_of Tryz.func63 (by kernel_rfl) rfl))
  have HF3 := Lib.hid (fun (W : World) (v : Value) (hown : W.ownsRow (w.heap.size + 1 + 1 + 1) 40 10 v R.length (R.flatMap enM)) (hA : A0 W (w.heap.size + 1) (m, .slice xo xn xc)) => delete_any (w.heap.size + 1 + 1 + 1) v R 66 #[.pointer (some ⟨w.heap.size + 1, 0, none⟩)] (fun x => hitsB m x.key x.at_) W hown hcells.forms (by omega) (ask_wipe3 (m, .slice xo xn xc) _ _ W hA ⟨_, _, _, rfl⟩ (fun e => by have := (hown.lt _ e).1; omega)) (enters_of Tryz.func66 (by kernel_rfl) rfl))
  have HC2 : Hid (∀ W, RowKit.Below w.heap.size w W → Calls Tryz.prog 59 #[.slice bo nb bc] W (OwnP 40 10 enM W T)) := Lib.hid (fun W hW => by
    have h := hwipes.below hW
    rw [hnb] at h ⊢
    exact cloneM_any bo bc T W h.row (flatM_one h.forms) (by omega))
  have HC3 : Hid (∀ W, RowKit.Below w.heap.size w W → Calls Tryz.prog 59 #[.slice ao na ac] W (OwnP 40 10 enM W R)) := Lib.hid (fun W hW => by
    have h := hcells.below hW
    rw [hna] at h ⊢
    exact cloneM_any ao ac R W h.row (flatM_one h.forms) (by omega))
  have hA := A0.of ((At.new (w.alloc (.cells #[.slice ao na ac, .slice bo nb bc, .slice dd nd dc] 26)) 40 (m, .slice xo xn xc)).below ((Below.refl _ _).alloc (by simp) (.cells #[.slice none 0 0, .slice none 0 0, .slice none 0 0] 26)))
  rw [World.size_alloc] at hA
  have hP := (((C3.new w (.slice ao na ac) (.slice bo nb bc) (.slice dd nd dc)).below ((Below.refl _ _).alloc (Nat.le_refl _) (.cells (enM (m, .slice xo xn xc)).toArray 40))).below ((Below.refl _ _).alloc (by simp) (.cells #[.slice none 0 0, .slice none 0 0, .slice none 0 0] 26)))
  have hT := C3.new ((w.alloc (.cells #[.slice ao na ac, .slice bo nb bc, .slice dd nd dc] 26)).alloc (.cells (enM (m, .slice xo xn xc)).toArray 40)) (.slice none 0 0) (.slice none 0 0) (.slice none 0 0)
  rw [World.size_alloc, World.size_alloc] at hT
  have HP := Lib.hid hP
  have HT := Lib.hid hT
  have HA := Lib.hid hA
  obtain ⟨C, hC⟩ : ∃ C, C = (T.map (·.1)).any (fun x => withinB x m) := ⟨_, rfl⟩
  rw [← hC] at HF1
  have HCC := Lib.hid hC
  have HNA := Lib.hid (And.intro hna hnb)
  have HLEN := Lib.hid (show R.length ≤ 100000 ∧ T.length ≤ 100000 from ⟨by omega, by omega⟩)
  have HL := Lib.hid hc
  have HR := Lib.hid hR
  have HO := Lib.hid hO
  have HX := Lib.hid hx
  have HE := Lib.hid (And.intro eR eT)
  have HCE := Lib.hid (And.intro hcells hwipes)
  have HRR := Lib.hid hr
  have HK := Lib.hid hk
  clear hA hP hT hC hna hnb hc hR hO hx eR eT hcells hwipes hr hk hRl hTl
  obtain ⟨at1, ak1, akey1, afin1, aval1, aex1, ⟨ap1, al1, aw1⟩, aov1⟩ := m
  unfold vM
  unfold enM at HA HP HT
  simp only [] at HA HP HT ⊢
  go_enter Tryz.func33, Tryz.ntmps33
  go_wp2_with fail
  have hB := Lib.hid (((((Below.refl _ w).alloc (Nat.le_refl _) (.cells #[.slice ao na ac, .slice bo nb bc, .slice dd nd dc] 26)).alloc (by simp) (.cells #[.int .i64 at1, .int .i64 ak1, .string akey1, .string afin1, .string aval1, .int .i64 aex1, .int .i64 ap1, .int .i64 al1, .int .i64 aw1, .slice xo xn xc] 40))).alloc (by simp; omega) (.cells #[.slice none 0 0, .slice none 0 0, .slice none 0 0] 26))
  refine (HF1.out _ hB.out HA.out).mono ?_
  rintro e w1 ⟨rfl, hb⟩
  have HB1 := Lib.hid (below_then hB.out (Nat.le_refl _) hb)
  have HA1 := Lib.hid (HA.out.below hb)
  have HP1 := Lib.hid (HP.out.below hb)
  have HT1 := Lib.hid (HT.out.below hb)
  clear hb
  cases C
  · obtain ⟨-, p0, p1, p2, -⟩ := HP1.out
    go_wp2_with fail
    refine (HC2.out _ HB1.out).mono ?_
    rintro e w2 ⟨v2, rfl, hown2, hb2⟩
    have hs1 := HT1.out.lt
    have hown2 := own_base (n₀ := w.heap.size + 1 + 1 + 1) hown2 (by omega)
    have HB2 := Lib.hid (below_then HB1.out (Nat.le_refl _) hb2)
    have HA2 := Lib.hid (HA1.out.below hb2)
    have HP2 := Lib.hid (HP1.out.below hb2)
    have HT2 := Lib.hid (HT1.out.below hb2)
    have HO2 := Lib.hid hown2
    clear hb2 hown2 p0 p1 p2
    go_wp2_with fail
    refine (HF2.out _ v2 HO2.out HA2.out).mono ?_
    rintro e w3 ⟨v3, rfl, hown3, hg3, hv3⟩
    obtain ⟨vo3, vc3, hv3e⟩ := own_slice hown3
    have hr2 : ∀ k, k < w.heap.size + 1 + 1 + 1 → v2.ownBlock ≠ some k := fun k hk e => by have := (HO2.out.lt k e).1; omega
    have HB3 := Lib.hid (HB2.out.grown hg3 HB2.out.size (fun k hk => by have := (HO2.out.lt k hk).1; omega))
    have HA3 := Lib.hid (HA2.out.grown hg3 (hr2 _ (by omega)))
    have HP3 := Lib.hid (HP2.out.grown hg3 (hr2 _ (by omega)))
    have HT3 := Lib.hid (HT2.out.grown hg3 (hr2 _ (by omega)))
    obtain ⟨K, hK⟩ : ∃ K, K = T.filter (fun x => !withinB ⟨at1, ak1, akey1, afin1, aval1, aex1, ⟨ap1, al1, aw1⟩, aov1⟩ x.1) := ⟨_, rfl⟩
    rw [← hK] at hown3 hv3e
    have hKl : K.length ≤ 100000 := by rw [hK]; exact Nat.le_trans (List.length_filter_le _ _) HLEN.out.2
    subst hv3e
    have HO3 := Lib.hid hown3
    have HKK := Lib.hid hK
    clear hown3 hg3 hv3 hr2 hK
    obtain ⟨kn, hkn⟩ : ∃ q, q = K.length := ⟨_, rfl⟩
    rw [← hkn] at HO3 hKl ⊢
    have HKN := Lib.hid hkn
    clear hkn
    obtain ⟨i0, hi, hz0, hz1, hz2⟩ := info_parts info_M
    have HI := Lib.hid hi
    have HZ0 := Lib.hid hz0
    have HZ1 := Lib.hid hz1
    have HZ2 := Lib.hid hz2
    clear hi hz0 hz1 hz2
    have HONE : Hid (∀ u ∈ enM (⟨at1, ak1, akey1, afin1, aval1, aex1, ⟨ap1, al1, aw1⟩, aov1⟩, .slice xo xn xc), u.oneCell' = true) := Lib.hid (by have := flatM_one (l := [((⟨at1, ak1, akey1, afin1, aval1, aex1, ⟨ap1, al1, aw1⟩, aov1⟩, .slice xo xn xc) : Ro)]) (fun y hy => by rw [List.mem_singleton.1 hy]; exact ⟨xo, xn, xc, rfl⟩); simpa using this)
    have HNEW : Hid (∀ j u, (enM (⟨at1, ak1, akey1, afin1, aval1, aex1, ⟨ap1, al1, aw1⟩, aov1⟩, .slice xo xn xc))[j]? = some u → (w3.alloc (.cells #[.int .i64 at1, .int .i64 ak1, .string akey1, .string afin1, .string aval1, .int .i64 aex1, .int .i64 ap1, .int .i64 al1, .int .i64 aw1, .slice xo xn xc] 40)).cell? ((⟨w3.heap.size, 0, none⟩ : Addr).add j) = some u) := Lib.hid (new_cells _ _ _)
    have hs3 := HT3.out.lt
    obtain ⟨-, a0, a1, a2, a3, a4, a5, a6, a7, a8, a9⟩ := HA3.out
    simp only [] at a0 a1 a2 a3 a4 a5 a6 a7 a8 a9
    obtain ⟨-, p0, p1, p2, q0, q1, q2⟩ := HP3.out
    go_wp2_with (at_builtin; refine wpList_append_own _ rfl _ _ 22 rfl (w.heap.size + 1 + 1 + 1) 40 i0 zeroM 10 120 Tryz.underlying22 HI.out HZ0.out HZ1.out HZ2.out rfl (by decide) (.slice vo3 kn vc3) _ _ rfl (HO3.out.alloc _) ⟨_, 0, none⟩ 1 1 (enM (⟨at1, ak1, akey1, afin1, aval1, aex1, ⟨ap1, al1, aw1⟩, aov1⟩, .slice xo xn xc)) rfl rfl ?c1 ?c2 ?c3 ?c4 ?c5 ?_; (case c1 => exact HNEW.out); (case c2 => exact HONE.out))
    case c3 => unfold maxLen; omega
    case c4 => omega
    case c5 => simp; omega
    intro v4 w4 hown4 hgrow4 _
    obtain ⟨g, cap, rfl⟩ := ownsRow_succ hown4
    have hr3 : ∀ k, k < w.heap.size + 1 + 1 + 1 → (Value.slice vo3 kn vc3).ownBlock ≠ some k := fun k hk e => by have := (HO3.out.lt k e).1; omega
    have hab := ((Below.refl w3.heap.size w3).alloc (Nat.le_refl _) (.cells #[.int .i64 at1, .int .i64 ak1, .string akey1, .string afin1, .string aval1, .int .i64 aex1, .int .i64 ap1, .int .i64 al1, .int .i64 aw1, .slice xo xn xc] 40))
    have HB4 := Lib.hid ((HB3.out.alloc HB3.out.size _).grown hgrow4 (Nat.le_trans HB3.out.size hab.size) (fun k hk => by have := (HO3.out.lt k hk).1; omega))
    have HA4 := Lib.hid ((HA3.out.below hab).grown hgrow4 (hr3 _ (by omega)))
    have HP4 := Lib.hid ((HP3.out.below hab).grown hgrow4 (hr3 _ (by omega)))
    have HT4 := Lib.hid ((HT3.out.below hab).grown hgrow4 (hr3 _ (by omega)))
    have HO4 := Lib.hid hown4
    clear hown4 hgrow4 hr3 hab a0 a1 a2 a3 a4 a5 a6 a7 a8 a9 p0 p1 p2 q0 q1 q2
    obtain ⟨-, p0, p1, p2, q0, q1, q2⟩ := HP4.out
    go_wp2_with fail
    have hg0 := grown_cell w4 w.heap.size 1 (.slice (some ⟨g, 0, none⟩) (kn + 1) cap)
    have hgB : w.heap.size + 1 + 1 + 1 ≤ g := (HO4.out.lt g rfl).1
    obtain ⟨R5, hR5⟩ : ∃ R5 : List Ro, R5 = K ++ [(⟨at1, ak1, akey1, afin1, aval1, aex1, ⟨ap1, al1, aw1⟩, aov1⟩, .slice xo xn xc)] := ⟨_, rfl⟩
    have hL5 : R5.length = kn + 1 := by rw [hR5, HKN.out]; simp
    have hown5 := HO4.out.kept hg0 (Or.inr (fun e => by have e2 : g = w.heap.size := (by injection e); omega))
    have hfl : R5.flatMap enM = K.flatMap enM ++ enM (⟨at1, ak1, akey1, afin1, aval1, aex1, ⟨ap1, al1, aw1⟩, aov1⟩, .slice xo xn xc) := by rw [hR5, List.flatMap_append, List.flatMap_singleton]
    rw [← hfl, ← hL5] at hown5
    have HP5 := Lib.hid (HP4.out.set1 (.slice (some ⟨g, 0, none⟩) (kn + 1) cap))
    have HB5 := Lib.hid (HB4.out.setCell (p := ⟨w.heap.size, 1, none⟩) (Nat.le_refl _) (.slice (some ⟨g, 0, none⟩) (kn + 1) cap))
    have HA5 := Lib.hid (HA4.out.grown hg0 (by intro e; injection e with e; omega))
    have HT5 := Lib.hid (HT4.out.grown hg0 (by intro e; injection e with e; omega))
    have hok : ∀ x ∈ R5, Okay (w4.setCell ⟨w.heap.size, 1, none⟩ (.slice (some ⟨g, 0, none⟩) (kn + 1) cap)) (some g) x := by
      intro x hx
      rw [hR5] at hx
      rcases List.mem_append.1 hx with hx | hx
      · rw [HKK.out] at hx
        have hxT := (List.mem_filter.1 hx).1
        exact ⟨Off.old (HCE.out.2.over x hxT) HB5.out (fun k e => by injection e with e; omega), (small_right (HO.out.right _ (Con.mem_all.2 (Or.inr (Or.inl (by rw [← HE.out.2]; exact List.mem_map.2 ⟨x, hxT, rfl⟩)))))).over⟩
      · rw [List.mem_singleton.1 hx]
        exact ⟨Off.old HX.out HB5.out (fun k e => by injection e with e; omega), (small_right HRR.out).over⟩
    have hsrt := sort_some (w.heap.size + 1 + 1 + 1) g cap R5 _ (by rw [hL5] at hown5 ⊢; exact hown5) hok (by omega)
    rw [hL5] at hsrt
    have HSRT := Lib.hid hsrt
    have HR5 := Lib.hid (And.intro hR5 hL5)
    clear hsrt hok hfl hown5 hg0 hR5 hL5 p0 p1 p2 q0 q1 q2
    refine HSRT.out.mono ?_
    rintro e w6 ⟨rfl, R6, hperm, hpair, hown6, hg6⟩
    have hg6' : w4.grownBy w4 (some g) := World.grownBy.refl _ _
    have HB6 := Lib.hid (HB5.out.grown hg6 HB5.out.size (fun k hk => by have e2 : g = k := (by injection hk); omega))
    have hne6 : ∀ k, k < w.heap.size + 1 + 1 + 1 → (Value.slice (some ⟨g, 0, none⟩) (kn + 1) cap).ownBlock ≠ some k := fun k hk e => by have e2 : g = k := (by injection e); omega
    have HA6 := Lib.hid (HA5.out.grown hg6 (hne6 _ (by omega)))
    have HP6 := Lib.hid (HP5.out.grown hg6 (hne6 _ (by omega)))
    have HT6 := Lib.hid (HT5.out.grown hg6 (hne6 _ (by omega)))
    have HO6 := Lib.hid hown6
    have HPR := Lib.hid (And.intro hperm hpair)
    clear hown6 hg6 hg6' hne6 hperm hpair
    obtain ⟨-, p0, p1, p2, -, -, -⟩ := HP6.out
    go_wp2_with fail
    refine (HC3.out _ HB6.out).mono ?_
    rintro e w7 ⟨v7, rfl, hown7, hb7⟩
    have hs6 := HT6.out.lt
    have hv7 : ∀ k, v7.ownBlock = some k → w6.heap.size ≤ k := fun k e => (hown7.lt k e).1
    have hown7 := own_base (n₀ := w.heap.size + 1 + 1 + 1) hown7 (by omega)
    have HB7 := Lib.hid (below_then HB6.out (Nat.le_refl _) hb7)
    have HA7 := Lib.hid (HA6.out.below hb7)
    have HP7 := Lib.hid (HP6.out.below hb7)
    have HT7 := Lib.hid (HT6.out.below hb7)
    have hO7 := HO6.out.kept (grown_below hb7 none) (Or.inr (by simp [Value.ownBlock]))
    have HO7 := Lib.hid (And.intro hown7 hO7)
    clear hb7 hown7 hO7 p0 p1 p2
    go_wp2_with fail
    refine (HF3.out _ v7 HO7.out.1 HA7.out).mono ?_
    rintro e w8 ⟨v8, rfl, hown8, hg8, hv8⟩
    obtain ⟨vo8, vc8, hv8e⟩ := own_slice hown8
    have hr7 : ∀ k, k < w.heap.size + 1 + 1 + 1 → v7.ownBlock ≠ some k := fun k hk e => by have := (HO7.out.1.lt k e).1; omega
    have HB8 := Lib.hid (HB7.out.grown hg8 HB7.out.size (fun k hk => by have := (HO7.out.1.lt k hk).1; omega))
    have HP8 := Lib.hid (HP7.out.grown hg8 (hr7 _ (by omega)))
    have HT8 := Lib.hid (HT7.out.grown hg8 (hr7 _ (by omega)))
    have hO8 : v7.ownBlock ≠ some g := fun e => by have h1 := hv7 g e; have h2 := (HO6.out.lt g rfl).2; omega
    have HO8 := Lib.hid (HO7.out.2.kept hg8 (Or.inr (fun e => hO8 e.symm)))
    obtain ⟨L, hL⟩ : ∃ L, L = R.filter (fun x => !hitsB ⟨at1, ak1, akey1, afin1, aval1, aex1, ⟨ap1, al1, aw1⟩, aov1⟩ x.1.key x.1.at_) := ⟨_, rfl⟩
    rw [← hL] at hown8 hv8e
    subst hv8e
    obtain ⟨ln, hln⟩ : ∃ q, q = L.length := ⟨_, rfl⟩
    rw [← hln] at hown8 ⊢
    have HW8 := Lib.hid hown8
    have HLL := Lib.hid (And.intro hL hln)
    clear hown8 hg8 hv8 hr7 hO8 hL hln hv7
    obtain ⟨-, p0, p1, p2, q0, q1, q2⟩ := HP8.out
    obtain ⟨-, t0, t1, t2, f0, f1, f2⟩ := HT8.out
    go_wp2_with fail
    obtain ⟨-, e0, e1, e2, -⟩ := c3_put ((HT8.out).other (u := .slice vo8 ln vc8) (o := 0) (j := w.heap.size) (by omega)) (.slice vo8 ln vc8) (.slice (some ⟨g, 0, none⟩) (kn + 1) cap) (.slice dd nd dc)
    refine bodyPost_ret (v := .agg #[.slice vo8 ln vc8, .slice (some ⟨g, 0, none⟩) (kn + 1) cap, .slice dd nd dc]) (by simp [results, Tryz.f33, go_sem, e0, e1, e2]) rfl ?_
    have hbf := c3_put_below (HB8.out.setCell (p := ⟨w.heap.size, 0, none⟩) (Nat.le_refl _) (.slice vo8 ln vc8)) (k := w.heap.size + 1 + 1) (by omega) (.slice vo8 ln vc8) (.slice (some ⟨g, 0, none⟩) (kn + 1) cap) (.slice dd nd dc)
    have hgA := grown_cell w8 w.heap.size 0 (.slice vo8 ln vc8)
    have hgB := grown_setCell (grown_setCell (grown_cell (w8.setCell ⟨w.heap.size, 0, none⟩ (.slice vo8 ln vc8)) (w.heap.size + 1 + 1) 0 (.slice vo8 ln vc8)) (p := ⟨w.heap.size + 1 + 1, 1, none⟩) (Or.inl rfl) (.slice (some ⟨g, 0, none⟩) (kn + 1) cap)) (p := ⟨w.heap.size + 1 + 1, 2, none⟩) (Or.inl rfl) (.slice dd nd dc)
    have hk1 : ∀ {b : Nat} {v : Value}, b < w.heap.size + 1 + 1 + 1 → (∀ k, v.ownBlock = some k → w.heap.size + 1 + 1 + 1 ≤ k) → v.ownBlock = none ∨ v.ownBlock ≠ some b := fun hb hv => Or.inr fun e => by have := hv _ e; omega
    have o8 := (HW8.out.kept hgA (hk1 (by omega) fun k e => (HW8.out.lt k e).1)).kept hgB (hk1 (by omega) fun k e => (HW8.out.lt k e).1)
    have o6 := (HO8.out.kept hgA (hk1 (by omega) fun k e => (HO8.out.lt k e).1)).kept hgB (hk1 (by omega) fun k e => (HO8.out.lt k e).1)
    have hl6 : R6.length = kn + 1 := by rw [← HR5.out.2]; exact HPR.out.1.length_eq
    have r8 : Reads _ (.slice vo8 ln vc8) (L.map (·.1)) := ⟨L, rfl, Lst.owned enM_len (by decide) HLL.out.2 o8, fun x hx => (HCE.out.1.over x (by rw [HLL.out.1] at hx; exact (List.mem_filter.1 hx).1)).below hbf⟩
    have hmem6 : ∀ x ∈ R6, x ∈ T ∨ x = (⟨at1, ak1, akey1, afin1, aval1, aex1, ⟨ap1, al1, aw1⟩, aov1⟩, .slice xo xn xc) := fun x hx => by
      have h1 := HPR.out.1.mem_iff.1 hx
      rw [HR5.out.1] at h1
      rcases List.mem_append.1 h1 with h1 | h1
      · rw [HKK.out] at h1; exact Or.inl (List.mem_filter.1 h1).1
      · exact Or.inr (List.mem_singleton.1 h1)
    rw [hl6] at o6
    have r6 : Reads _ (.slice (some ⟨g, 0, none⟩) (kn + 1) cap) (R6.map (·.1)) := ⟨R6, rfl, Lst.owned enM_len (by decide) hl6.symm o6, fun x hx => by
      rcases hmem6 x hx with h1 | rfl
      · exact (HCE.out.2.over x h1).below hbf
      · exact HX.out.below hbf⟩
    have hpm : (R6.map (·.1)).Perm (c.wipes.filter (fun x => !withinB ⟨at1, ak1, akey1, afin1, aval1, aex1, ⟨ap1, al1, aw1⟩, aov1⟩ x) ++ [⟨at1, ak1, akey1, afin1, aval1, aex1, ⟨ap1, al1, aw1⟩, aov1⟩]) := by
      have h1 := HPR.out.1.map (·.1)
      rw [HR5.out.1, HKK.out, List.map_append] at h1
      rw [← HE.out.2, List.filter_map]
      exact h1
    have hps : (R6.map (·.1)).Pairwise fun a b => muC a b ≤ 0 := List.pairwise_map.2 HPR.out.2
    have hno : ∀ x ∈ c.wipes, withinB x ⟨at1, ak1, akey1, afin1, aval1, aex1, ⟨ap1, al1, aw1⟩, aov1⟩ = false := fun x hx => by
      have h1 := HCC.out.symm
      rw [HE.out.2] at h1
      have h2 := List.any_eq_false.1 h1 x hx
      simpa using h2
    have hcl : L.map (·.1) = c.cells.filter fun x => !hitsB ⟨at1, ak1, akey1, afin1, aval1, aex1, ⟨ap1, al1, aw1⟩, aov1⟩ x.key x.at_ := by
      rw [← HE.out.1, List.filter_map, HLL.out.1]; rfl
    rw [hcl] at r8
    refine ⟨_, _, _, ⟨c.cells.filter fun x => !hitsB ⟨at1, ak1, akey1, afin1, aval1, aex1, ⟨ap1, al1, aw1⟩, aov1⟩ x.key x.at_, R6.map (·.1), c.sibs⟩, rfl, ⟨r8, r6, HL.out.sibs.below hbf⟩, HR.out.wipe_put (fit_of HRR.out) HK.out hno hpm hps, HO.out.of HRR.out ?_ ?_, hbf, fun base hbs hF hx => ⟨by
        obtain ⟨R2, h2⟩ := hF.1
        have h3 := copied_over HCE.out.1 h2
        exact ⟨L, by rw [← HLL.out.2]; exact own_base o8 (by omega), fun y hy => row_below (h3.over y (by rw [HLL.out.1] at hy; exact (List.mem_filter.1 hy).1)) hbf⟩, by
        obtain ⟨R2, h2⟩ := hF.2.1
        have h3 := copied_over HCE.out.2 h2
        exact ⟨R6, by rw [hl6]; exact own_base o6 (by omega), fun y hy => by
          rcases hmem6 y hy with h1 | rfl
          · exact row_below (h3.over y h1) hbf
          · exact row_below hx hbf⟩, hF.2.2.imp fun _ h => h.below hbf⟩⟩
    · intro x hx
      rcases Con.mem_all.1 hx with h1 | h1 | h1
      · exact Or.inl (Con.mem_all.2 (Or.inl (List.mem_filter.1 h1).1))
      · rcases List.mem_append.1 (hpm.mem_iff.1 h1) with h2 | h2
        · exact Or.inl (Con.mem_all.2 (Or.inr (Or.inl (List.mem_filter.1 h2).1)))
        · exact Or.inr (List.mem_singleton.1 h2)
      · exact Or.inl (Con.mem_all.2 (Or.inr (Or.inr h1)))
    · have h1 := hpm.length_eq
      rw [List.length_append] at h1
      have h2 := List.length_filter_le (fun x => !withinB ⟨at1, ak1, akey1, afin1, aval1, aex1, ⟨ap1, al1, aw1⟩, aov1⟩ x) c.wipes
      have h3 := List.length_filter_le (fun x : Mu => !hitsB ⟨at1, ak1, akey1, afin1, aval1, aex1, ⟨ap1, al1, aw1⟩, aov1⟩ x.key x.at_) c.cells
      simp only [List.length_cons, List.length_nil] at h1
      unfold Con.all
      simp only [List.length_append]
      omega
  · obtain ⟨pl, p0, p1, p2, -⟩ := HP1.out
    obtain ⟨tl, t0, t1, t2, f0, f1, f2⟩ := HT1.out
    go_wp2_with fail
    obtain ⟨-, e0, e1, e2, -⟩ := c3_put HT1.out (.slice ao na ac) (.slice bo nb bc) (.slice dd nd dc)
    refine bodyPost_ret (v := .agg #[.slice ao na ac, .slice bo nb bc, .slice dd nd dc]) (by simp [results, Tryz.f33, go_sem, e0, e1, e2]) rfl ?_
    have hb3 := c3_put_below HB1.out (k := w.heap.size + 1 + 1) (by omega) (.slice ao na ac) (.slice bo nb bc) (.slice dd nd dc)
    have hcc := HCC.out
    rw [HE.out.2] at hcc
    exact ⟨_, _, _, c, rfl, HL.out.below hb3, HR.out.wipe_keep (fit_of HRR.out) HK.out hcc.symm, HO.out.more (by omega), hb3, fun base _ hF _ => hF.below hb3⟩
end Go.Proofs.YtmjelcjdfamikaaGreatDoor.Mut

/- The walk of state.Content.sib (layer 8). -/
namespace Go.Proofs.YtmjelcjdfamikaaGreatDoor.Mut
open Go.RowKit Go.Sort Go.Proofs.YtmjelcjdfamikaaGreatDoor.Ord
set_option linter.unusedSectionVars false
variable [Inhabited Lim]

set_option maxHeartbeats 4000000 in
set_option maxRecDepth 100000 in
theorem sib_at (ao bo dd : Option Addr) (na ac nb bc nd dc : Nat) (c : Con) (S : Mu → Prop) (n : Nat) (m : Mu) (xo : Option Addr) (xn xc : Nat) (w : World) (hc : Lies w (.slice ao na ac) (.slice bo nb bc) (.slice dd nd dc) c) (hR : Reps S c) (hO : Okc c n) (hn : n ≤ 100000)
    (hx : Over w (m, .slice xo xn xc)) (hr : rightF m = true) (hk : isS m) :
    Calls Tryz.prog 32 #[.agg #[.slice ao na ac, .slice bo nb bc, .slice dd nd dc], vM (m, .slice xo xn xc)] w (AddP (.slice ao na ac) (.slice bo nb bc) (.slice dd nd dc) (m, .slice xo xn xc) w S m n) := by
  obtain ⟨l1, l2, l3⟩ := hO.lens
  obtain ⟨R, eR, hcells⟩ := hc.sibs
  have hRl : R.length = c.sibs.length := by rw [← eR]; simp
  obtain ⟨_, _, e0, -, -⟩ := hcells.form
  obtain ⟨rfl⟩ : nd = R.length := by injection e0
  clear e0
  obtain ⟨nd, hna⟩ : ∃ k, k = R.length := ⟨_, rfl⟩
  rw [← hna] at hc hcells hRl ⊢
  have HPl := Lib.hid (fun (W : World) (hW : RowKit.Below w.heap.size w W) => bsmut_any (.slice dd nd dc) R (m, .slice xo xn xc) (fun y => sibC y m) W (hcells.row.below hW) hcells.forms ⟨_, _, _, rfl⟩ (by omega)
    (fun x hxR z hz => (siblings_any x (m, .slice xo xn xc) z ((hcells.over x hxR).below (below_then hW (Nat.le_refl _) hz)) (hx.below (below_then hW (Nat.le_refl _) hz)) (small_right (hO.right _ (Con.mem_all.2 (Or.inr (Or.inr (by rw [← eR]; exact List.mem_map.2 ⟨x, hxR, rfl⟩)))))).over (small_right hr).over).mono fun _ _ h => ⟨h.1, h.2.below⟩)
    (fun a b x y hab hxa hyb hc => by
      obtain ⟨h1, h1'⟩ := List.getElem?_eq_some_iff.1 hxa
      obtain ⟨h2, h2'⟩ := List.getElem?_eq_some_iff.1 hyb
      have hrs := hR.rs
      rw [← eR] at hrs
      have := (List.pairwise_iff_getElem.1 hrs) a b h1 h2 hab
      rw [h1', h2'] at this
      exact sibO.trans _ _ _ this hc))
  have hA := A0.of ((At.new (w.alloc (.cells #[.slice ao na ac, .slice bo nb bc, .slice dd nd dc] 26)) 40 (m, .slice xo xn xc)).below ((Below.refl _ _).alloc (by simp) (.cells #[.slice none 0 0, .slice none 0 0, .slice none 0 0] 26)))
  rw [World.size_alloc] at hA
  have hP := (((C3.new w (.slice ao na ac) (.slice bo nb bc) (.slice dd nd dc)).below ((Below.refl _ _).alloc (Nat.le_refl _) (.cells (enM (m, .slice xo xn xc)).toArray 40))).below ((Below.refl _ _).alloc (by simp) (.cells #[.slice none 0 0, .slice none 0 0, .slice none 0 0] 26)))
  have hT := C3.new ((w.alloc (.cells #[.slice ao na ac, .slice bo nb bc, .slice dd nd dc] 26)).alloc (.cells (enM (m, .slice xo xn xc)).toArray 40)) (.slice none 0 0) (.slice none 0 0) (.slice none 0 0)
  rw [World.size_alloc, World.size_alloc] at hT
  have HP := Lib.hid hP
  have HT := Lib.hid hT
  have HA := Lib.hid hA
  have HNA := Lib.hid hna
  have HLEN := Lib.hid (show R.length ≤ 1000000 by omega)
  have HL := Lib.hid hc
  have HR := Lib.hid hR
  have HO := Lib.hid hO
  have HX := Lib.hid hx
  have HE := Lib.hid eR
  have HCE := Lib.hid hcells
  have HRR := Lib.hid hr
  have HK := Lib.hid hk
  clear hA hP hT hna hc hR hO hx eR hcells hr hk hRl
  obtain ⟨at1, ak1, akey1, afin1, aval1, aex1, ⟨ap1, al1, aw1⟩, aov1⟩ := m
  unfold vM
  unfold enM at HA HP HT
  simp only [] at HA HP HT HPl ⊢
  go_enter Tryz.func32, Tryz.ntmps32
  go_wp2_with fail
  have hB := Lib.hid (((((Below.refl _ w).alloc (Nat.le_refl _) (.cells #[.slice ao na ac, .slice bo nb bc, .slice dd nd dc] 26)).alloc (by simp) (.cells #[.int .i64 at1, .int .i64 ak1, .string akey1, .string afin1, .string aval1, .int .i64 aex1, .int .i64 ap1, .int .i64 al1, .int .i64 aw1, .slice xo xn xc] 40))).alloc (by simp; omega) (.cells #[.slice none 0 0, .slice none 0 0, .slice none 0 0] 26))
  obtain ⟨-, p0, p1, p2, -⟩ := HP.out
  obtain ⟨-, a0, a1, a2, a3, a4, a5, a6, a7, a8, a9⟩ := HA.out
  simp only [] at a0 a1 a2 a3 a4 a5 a6 a7 a8 a9
  refine (HPl.out _ hB.out).mono ?_
  rintro e w2 ⟨i, hi, rfl, hb⟩
  have HI := Lib.hid hi
  have HB2 := Lib.hid (below_then hB.out (Nat.le_refl _) hb)
  have HA2 := Lib.hid (HA.out.below hb)
  have HP2 := Lib.hid (HP.out.below hb)
  have HT2 := Lib.hid (HT.out.below hb)
  clear hi hb p0 p1 p2 a0 a1 a2 a3 a4 a5 a6 a7 a8 a9
  obtain ⟨-, p0, p1, p2, q0, q1, q2⟩ := HP2.out
  obtain ⟨-, a0, a1, a2, a3, a4, a5, a6, a7, a8, a9⟩ := HA2.out
  simp only [] at a0 a1 a2 a3 a4 a5 a6 a7 a8 a9
  obtain ⟨D, hD⟩ : ∃ D, D = isAt (fun y => sibC y ⟨at1, ak1, akey1, afin1, aval1, aex1, ⟨ap1, al1, aw1⟩, aov1⟩) (R.map (·.1)) i := ⟨_, rfl⟩
  rw [← hD]
  have HD := Lib.hid hD
  clear hD
  have HCl : Hid (∀ W, RowKit.Below w2.heap.size w2 W → Calls Tryz.prog 59 #[.slice dd nd dc] W (OwnP 40 10 enM W R)) := Lib.hid (fun W hW => by
    have h := (HCE.out.below HB2.out).below hW
    have hl : nd = R.length := HNA.out
    rw [hl] at h ⊢
    exact cloneM_any dd dc R W h.row (flatM_one h.forms) HLEN.out)
  have hs : w.heap.size + 1 + 1 < w2.heap.size := HT2.out.lt
  cases D
  · go_wp2_with fail
    have HIL := Lib.hid (show i ≤ R.length from by have := HI.out.1; simpa using this)
    have HFO := Lib.hid (fun y hy => (HCE.out.forms y hy))
    have HNW : Hid (∀ z : World, (z.alloc (.cells #[.int .i64 at1, .int .i64 ak1, .string akey1, .string afin1, .string aval1, .int .i64 aex1, .int .i64 ap1, .int .i64 al1, .int .i64 aw1, .slice xo xn xc] 40)).heap[z.heap.size]? = some (.cells ⟨enM (⟨at1, ak1, akey1, afin1, aval1, aex1, ⟨ap1, al1, aw1⟩, aov1⟩, .slice xo xn xc)⟩ 40 (0, 0))) := Lib.hid (fun z => heap_alloc_new z _)
    have n0 : ∀ o : Obj, (w2.alloc o).cell? ⟨w.heap.size, 2, none⟩ = some (.slice dd nd dc) := fun o => (((Below.refl w2.heap.size w2).alloc (Nat.le_refl _) o).cell (p := ⟨w.heap.size, 2, none⟩) HP2.out.lt).trans p2
    go_region_law (first
      | (go_simp; go_at_call 59; (with_reducible refine (HCl.out _ ((Below.refl w2.heap.size w2).drew)).mono ?_); rintro e w3 ⟨v, rfl, hown, hb3⟩; have B3 := below_then ((Below.refl w2.heap.size w2).drew) (Nat.le_refl _) hb3; obtain ⟨-, p0, p1, p2, -⟩ := HP2.out.below B3; obtain ⟨-, a0, a1, a2, a3, a4, a5, a6, a7, a8, a9⟩ := HA2.out.below B3; simp only [] at a0 a1 a2 a3 a4 a5 a6 a7 a8 a9; have HOW := Lib.hid (own_base (n₀ := w2.heap.size) hown (by simp)); have HB3 := Lib.hid B3; clear hown B3 hb3)
      | (go_simp; go_at_call 59; (with_reducible refine (HCl.out _ (((Below.refl w2.heap.size w2).alloc (Nat.le_refl _) (.cells #[.int .i64 at1, .int .i64 ak1, .string akey1, .string afin1, .string aval1, .int .i64 aex1, .int .i64 ap1, .int .i64 al1, .int .i64 aw1, .slice xo xn xc] 40)).drew)).mono ?_); rintro e w3 ⟨v, rfl, hown, hb3⟩; have B3 := below_then (((Below.refl w2.heap.size w2).alloc (Nat.le_refl _) (.cells #[.int .i64 at1, .int .i64 ak1, .string akey1, .string afin1, .string aval1, .int .i64 aex1, .int .i64 ap1, .int .i64 al1, .int .i64 aw1, .slice xo xn xc] 40)).drew) (Nat.le_refl _) hb3; obtain ⟨-, p0, p1, p2, -⟩ := HP2.out.below B3; obtain ⟨-, a0, a1, a2, a3, a4, a5, a6, a7, a8, a9⟩ := HA2.out.below B3; simp only [] at a0 a1 a2 a3 a4 a5 a6 a7 a8 a9; have HOW := Lib.hid (own_base (n₀ := w2.heap.size) hown (by simp)); have HB3 := Lib.hid B3; have HVB := Lib.hid (fun k hk (e : k = w2.heap.size) => by have := (hown.lt k hk).1; simp at this; omega : ∀ k, v.ownBlock = some k → k ≠ w2.heap.size); have HBL := Lib.hid ((hb3.block w2.heap.size (by simp)).trans (HNW.out w2)); clear hown B3 hb3)
      | (go_simp; go_at_call 58; (with_reducible refine (put_any w2 _ w2.heap.size v w3.heap.size R i (⟨at1, ak1, akey1, afin1, aval1, aex1, ⟨ap1, al1, aw1⟩, aov1⟩, .slice xo xn xc) (Nat.le_refl _) (HOW.out.alloc _) (HB3.out.alloc HB3.out.size _) HIL.out HLEN.out (HNW.out w3) (fun k hk e => by have := (HOW.out.lt k hk).2; omega) HFO.out ⟨_, _, _, rfl⟩).mono ?_); rintro e w4 ⟨g, cap, rfl, hl4, hg4, B4⟩; have HL4 := Lib.hid hl4; have HB4 := Lib.hid B4; have HG4 := Lib.hid hg4; obtain ⟨-, p0, p1, p2, q0, q1, q2⟩ := HP2.out.below B4; obtain ⟨-, a0, a1, a2, a3, a4, a5, a6, a7, a8, a9⟩ := HA2.out.below B4; simp only [] at a0 a1 a2 a3 a4 a5 a6 a7 a8 a9; clear hl4 hg4 B4)
      | (go_simp; go_at_call 58; (with_reducible refine (put_any w2 _ w2.heap.size v w2.heap.size R i (⟨at1, ak1, akey1, afin1, aval1, aex1, ⟨ap1, al1, aw1⟩, aov1⟩, .slice xo xn xc) (Nat.le_refl _) (HOW.out) (HB3.out) HIL.out HLEN.out (HBL.out) (HVB.out) HFO.out ⟨_, _, _, rfl⟩).mono ?_); rintro e w4 ⟨g, cap, rfl, hl4, hg4, B4⟩; have HL4 := Lib.hid hl4; have HB4 := Lib.hid B4; have HG4 := Lib.hid hg4; obtain ⟨-, p0, p1, p2, q0, q1, q2⟩ := HP2.out.below B4; obtain ⟨-, a0, a1, a2, a3, a4, a5, a6, a7, a8, a9⟩ := HA2.out.below B4; simp only [] at a0 a1 a2 a3 a4 a5 a6 a7 a8 a9; clear hl4 hg4 B4))
    all_goals
      clear a0 a1 a2 a3 a4 a5 a6 a7 a8 a9
      obtain ⟨tl, t0, t1, t2, f0, f1, f2⟩ := HT2.out.below HB4.out
      go_wp2_with fail
      have HN : Hid (w.heap.size ≠ w.heap.size + 1 + 1) := Lib.hid (by omega)
      obtain ⟨-, e0, e1, e2, -⟩ := c3_put ((HT2.out.below HB4.out).other (u := .slice (some ⟨g, 0, none⟩) (R.length + 1) cap) (o := 2) HN.out) (.slice ao na ac) (.slice bo nb bc) (.slice (some ⟨g, 0, none⟩) (R.length + 1) cap)
      refine bodyPost_ret (v := .agg #[.slice ao na ac, .slice bo nb bc, .slice (some ⟨g, 0, none⟩) (R.length + 1) cap]) (by simp [results, Tryz.f32, go_sem, e0, e1, e2]) rfl ?_
      have hb4 := below_then HB2.out (Nat.le_refl _) HB4.out
      have hbf := c3_put_below (hb4.setCell (p := ⟨w.heap.size, 2, none⟩) (Nat.le_refl _) (.slice (some ⟨g, 0, none⟩) (R.length + 1) cap)) (k := w.heap.size + 1 + 1) (by omega) (.slice ao na ac) (.slice bo nb bc) (.slice (some ⟨g, 0, none⟩) (R.length + 1) cap)
      have hg : w2.heap.size ≤ g := HG4.out
      have hlf := Lst.kept (Lst.owned enM_len (by decide) (by rw [List.length_append, List.length_cons, List.length_take, List.length_drop]; have := HIL.out; omega) HL4.out) (w' := ((((w4.setCell ⟨w.heap.size, 2, none⟩ (.slice (some ⟨g, 0, none⟩) (R.length + 1) cap)).setCell ⟨w.heap.size + 1 + 1, 0, none⟩ (.slice ao na ac)).setCell ⟨w.heap.size + 1 + 1, 1, none⟩ (.slice bo nb bc)).setCell ⟨w.heap.size + 1 + 1, 2, none⟩ (.slice (some ⟨g, 0, none⟩) (R.length + 1) cap))) (fun o => by
        rw [World.cell?_setCell_far _ _ _ _ (by show _ ≠ _; simp only []; omega), World.cell?_setCell_far _ _ _ _ (by show _ ≠ _; simp only []; omega), World.cell?_setCell_far _ _ _ _ (by show _ ≠ _; simp only []; omega), World.cell?_setCell_far _ _ _ _ (by show _ ≠ _; simp only []; omega)]) (by simp)
      have hp := HI.out
      have hd := HD.out.symm
      rw [HE.out] at hp hd
      exact ⟨_, _, _, ⟨c.cells, c.wipes, c.sibs.take i ++ ⟨at1, ak1, akey1, afin1, aval1, aex1, ⟨ap1, al1, aw1⟩, aov1⟩ :: c.sibs.drop i⟩, rfl, ⟨HL.out.cells.below hbf, HL.out.wipes.below hbf, reads_put HCE.out HE.out HX.out hlf hbf⟩, HR.out.sib_put (fit_of HRR.out) HK.out hp hd, HO.out.sibs HRR.out (fun y hy => mem_take_drop.1 hy) (len_put _ _ _), hbf, fun base hbs hF hx => ⟨hF.1.imp fun _ h => h.below hbf, hF.2.1.imp fun _ h => h.below hbf, by obtain ⟨R2, h2⟩ := hF.2.2; exact ⟨_, copied_put (copied_over HCE.out h2) hx HIL.out (own_other (own_other (own_other (own_other HL4.out w.heap.size 2 (by omega) (.slice (some ⟨g, 0, none⟩) (R.length + 1) cap)) (w.heap.size + 1 + 1) 0 (by omega) (.slice ao na ac)) (w.heap.size + 1 + 1) 1 (by omega) (.slice bo nb bc)) (w.heap.size + 1 + 1) 2 (by omega) (.slice (some ⟨g, 0, none⟩) (R.length + 1) cap)) hbf (by omega)⟩⟩⟩
  · obtain ⟨tl, t0, t1, t2, f0, f1, f2⟩ := HT2.out
    go_wp2_with fail
    obtain ⟨-, e0, e1, e2, -⟩ := c3_put HT2.out (.slice ao na ac) (.slice bo nb bc) (.slice dd nd dc)
    refine bodyPost_ret (v := .agg #[.slice ao na ac, .slice bo nb bc, .slice dd nd dc]) (by simp [results, Tryz.f32, go_sem, e0, e1, e2]) rfl ?_
    have hbf := c3_put_below HB2.out (k := w.heap.size + 1 + 1) (by omega) (.slice ao na ac) (.slice bo nb bc) (.slice dd nd dc)
    have hd := HD.out.symm
    rw [HE.out] at hd
    exact ⟨_, _, _, c, rfl, HL.out.below hbf, HR.out.sib_keep (fit_of HRR.out) HK.out hd, HO.out.more (by omega), hbf, fun base _ hF _ => hF.below hbf⟩
end Go.Proofs.YtmjelcjdfamikaaGreatDoor.Mut

/- The walk of state.Content.Add (layer 8). PRINTED by wip/genconnew.py. -/
namespace Go.Proofs.YtmjelcjdfamikaaGreatDoor.Mut
open Go.RowKit Go.Sort Go.Proofs.YtmjelcjdfamikaaGreatDoor.Ord
set_option linter.unusedSectionVars false
variable [Inhabited Lim]

/-- A content comes back: what is left, with a mutation more, if it may be. -/
def AddQ (w : World) (S : Mu → Prop) (m : Mu) (n : Nat) (e : Ending) (w' : World) : Prop :=
  ∃ a b d c, e = .returned (.agg #[a, b, d]) ∧ Lies w' a b d c ∧ Reps (fun y => S y ∨ (y = m ∧ rightF m = true)) c ∧ Okc c (n + 1) ∧ RowKit.Below w.heap.size w w'
/-- The same; and where the content that came lies in memory made since, so does what comes back. -/
def AddF (a0 b0 d0 : Value) (w : World) (S : Mu → Prop) (m : Mu) (n : Nat) (e : Ending) (w' : World) : Prop :=
  ∃ a b d c, e = .returned (.agg #[a, b, d]) ∧ Lies w' a b d c ∧ Reps (fun y => S y ∨ (y = m ∧ rightF m = true)) c ∧ Okc c (n + 1) ∧ RowKit.Below w.heap.size w w' ∧ ∀ base, base ≤ w.heap.size → Fresh base w a0 b0 d0 → Fresh base w' a b d
/-- A row of one's own stays, behind a store into a variable that begins with a slice. -/
theorem own_c3 {w : World} {k base : Nat} {e : TypeId} {sz n : Nat} {v : Value} {xs : List Value} {o : Option Addr} {nn cc : Nat} (h3 : w.cell? ⟨k, 0, none⟩ = some (.slice o nn cc)) (h : w.ownsRow base e sz v n xs) (hx : ∀ u, xs[0]? = some u → ∀ o n c, u ≠ .slice o n c) (hn : n ≠ 0 → xs ≠ []) (i : Nat) (u : Value) : (w.setCell ⟨k, i, none⟩ u).ownsRow base e sz v n xs := by
  rcases h.2 with h0 | ⟨g, cap, cur, rfl, hbg, hg, hnc, hcm, hcs, htk⟩
  · exact ⟨h.1, Or.inl h0⟩
  · by_cases hk : g = k
    · subst hk
      by_cases h0 : n = 0
      · subst h0
        have hxs : xs = [] := List.eq_nil_of_length_eq_zero (by simpa using h.1)
        subst hxs
        exact ⟨by simp, Or.inr ⟨g, cap, cur.setIfInBounds i u, rfl, hbg, heap_setCell_same w g i _ _ u hg, hnc, hcm, by simpa using hcs, by simp⟩⟩
      · exfalso
        obtain ⟨y, ys, e1⟩ := List.exists_cons_of_ne_nil (hn h0)
        have h1 := World.ownsRow.cells h (g := g) rfl 0 y (by rw [e1]; rfl)
        have h2 : w.cell? ⟨g, 0, none⟩ = some y := by rw [addr_add] at h1; exact h1
        rw [h3] at h2
        injection h2 with h2
        exact hx y (by rw [e1]; rfl) _ _ _ h2.symm
    · exact h.kept (row := some k) ⟨rfl, rfl, rfl, by simp, fun j _ hj => heap_setCell_far _ _ _ _ (fun e => hj (by rw [← e]))⟩ (Or.inr (fun e => hk (by simpa [Value.ownBlock] using e)))
theorem Copied.put {w : World} {k base : Nat} {v : Value} {R : List Ro} {o : Option Addr} {nn cc : Nat} (h3 : w.cell? ⟨k, 0, none⟩ = some (.slice o nn cc)) (h : Copied w v R base) (i : Nat) (u : Value) : Copied (w.setCell ⟨k, i, none⟩ u) v R base := by
  refine ⟨own_c3 h3 h.row (fun u hu o n c e => ?_) (fun hn e => ?_) i u, fun x hx => own_c3 h3 (h.over x hx) (fun u hu o n c e => ?_) (fun hn e => ?_) i u⟩
  · cases R with
    | nil => simp at hu
    | cons y R => subst e; simp [enM] at hu
  · cases R with
    | nil => exact hn rfl
    | cons y R => simp [enM] at e
  · cases hl : x.1.over with
    | nil => rw [hl] at hu; simp at hu
    | cons y R => rw [hl] at hu; subst e; simp [enS] at hu
  · cases hl : x.1.over with
    | nil => rw [hl] at hn; exact hn rfl
    | cons y R => rw [hl] at e; simp [enS] at e
theorem Fresh.put {w : World} {k base : Nat} {a b d : Value} {p0 p1 p2 q0 q1 q2 : Option Addr} {s0 s1 s2 t0 t1 t2 r0 r1 r2 v0 v1 v2 : Nat} (h : Fresh base w a b d) (h3 : C3 w k (.slice p0 s0 r0) (.slice p1 s1 r1) (.slice p2 s2 r2)) :
    Fresh base (((w.setCell ⟨k, 0, none⟩ (.slice q0 t0 v0)).setCell ⟨k, 1, none⟩ (.slice q1 t1 v1)).setCell ⟨k, 2, none⟩ (.slice q2 t2 v2)) a b d := by
  have c1 := h3.set0 (.slice q0 t0 v0)
  have c2 := c1.set1 (.slice q1 t1 v1)
  have key : ∀ {v : Value}, (∃ R, Copied w v R base) → ∃ R, Copied (((w.setCell ⟨k, 0, none⟩ (.slice q0 t0 v0)).setCell ⟨k, 1, none⟩ (.slice q1 t1 v1)).setCell ⟨k, 2, none⟩ (.slice q2 t2 v2)) v R base := fun ⟨R, h⟩ =>
    ⟨R, Copied.put c2.c0 (Copied.put c1.c0 (Copied.put h3.c0 h 0 _) 1 _) 2 _⟩
  exact ⟨key h.1, key h.2.1, key h.2.2⟩
theorem Reads.slice {w : World} {v : Value} {l : List Mu} (h : Reads w v l) : ∃ ao n cap, v = .slice ao n cap := by
  obtain ⟨ao, cap, e, -⟩ := h.form
  exact ⟨ao, _, cap, e⟩
/-- A content's variable is none of the rows: what is written there leaves them. -/
def Plain3 (w w' : World) : Prop := w.heap.size ≤ w'.heap.size ∧ ∀ p v, w.cell? p = some v → (3 ≤ p.off ∨ ∀ ao n c, v ≠ Value.slice ao n c) → w'.cell? p = some v
theorem plain3 {w : World} {k : Nat} {ao bo dd : Option Addr} {an ac bn bc dn dc : Nat} (h : C3 w k (.slice ao an ac) (.slice bo bn bc) (.slice dd dn dc)) (a' b' d' : Value) : Plain3 w (((w.setCell ⟨k, 0, none⟩ a').setCell ⟨k, 1, none⟩ b').setCell ⟨k, 2, none⟩ d') := by
  refine ⟨by simp, ?_⟩
  rintro p v hv hp
  have n0 : (⟨k, 0, none⟩ : Addr) ≠ p := fun e => by
    subst e
    rw [h.c0] at hv
    rcases hp with hp | hp
    · simp at hp
    · exact hp _ _ _ (by injection hv with hv; exact hv.symm)
  have n1 : (⟨k, 1, none⟩ : Addr) ≠ p := fun e => by
    subst e
    rw [h.c1] at hv
    rcases hp with hp | hp
    · simp at hp
    · exact hp _ _ _ (by injection hv with hv; exact hv.symm)
  have n2 : (⟨k, 2, none⟩ : Addr) ≠ p := fun e => by
    subst e
    rw [h.c2] at hv
    rcases hp with hp | hp
    · simp at hp
    · exact hp _ _ _ (by injection hv with hv; exact hv.symm)
  rw [World.cell?_setCell_other (h := n2), World.cell?_setCell_other (h := n1), World.cell?_setCell_other (h := n0)]
  exact hv
theorem Lst.plain3 {α : Type} {sz : Nat} {en : α → List Value} {w w' : World} {v : Value} {l : List α} (h : Lst sz en w v l) (hp : Plain3 w w') (hl : ∀ x, (en x).length = sz) (hn : ∀ x j u, (en x)[j]? = some u → 3 ≤ j ∨ ∀ ao n c, u ≠ Value.slice ao n c) : Lst sz en w' v l := by
  obtain ⟨ao, cap, e, h1, h2, h3⟩ := h
  refine ⟨ao, cap, e, h1, h2, h3.imp id ?_⟩
  rintro ⟨b, off, e1, hb, hc⟩
  refine ⟨b, off, e1, Nat.lt_of_lt_of_le hb hp.1, fun i x hi j hj => ?_⟩
  have h4 := hc i x hi j hj
  rw [List.getElem?_eq_getElem (by rw [hl]; exact hj)] at h4 ⊢
  refine hp.2 _ _ h4 ((hn x j _ (List.getElem?_eq_getElem (by rw [hl]; exact hj))).imp (fun h => ?_) id)
  show 3 ≤ off + i * sz + j
  omega
theorem Over.plain3 {w w' : World} {x : Ro} (h : Over w x) (hp : Plain3 w w') : Over w' x := ⟨Lst.plain3 h.lst hp enS_len (fun x j u hu => Or.inr fun ao n c e => by
  subst e
  unfold enS at hu
  rcases j with _ | _ | _ | j <;> simp at hu), h.zn⟩
theorem Reads.plain3 {w w' : World} {v : Value} {l : List Mu} (h : Reads w v l) (hp : Plain3 w w') : Reads w' v l := by
  obtain ⟨R, e, hR⟩ := h
  refine ⟨R, e, Lst.plain3 hR.row hp enM_len ?_, fun x hx => (hR.over x hx).plain3 hp⟩
  intro x j u hu
  by_cases hj : 3 ≤ j
  · exact Or.inl hj
  · refine Or.inr fun ao n c e => ?_
    subst e
    unfold enM at hu
    rcases j with _ | _ | _ | j
    · simp at hu
    · simp at hu
    · simp at hu
    · omega
theorem Lies.plain3 {w w' : World} {a b d : Value} {c : Con} (h : Lies w a b d c) (hp : Plain3 w w') : Lies w' a b d c := ⟨h.cells.plain3 hp, h.wipes.plain3 hp, h.sibs.plain3 hp⟩
theorem over_own {w : World} {base : Nat} {m : Mu} {v : Value} (h : w.ownsRow base 37 3 v m.over.length (m.over.flatMap enS)) : Over w (m, v) := Over.own (x := (m, v)) h

set_option maxHeartbeats 4000000 in
set_option maxRecDepth 100000 in
theorem add_anyF (a b d : Value) (c : Con) (S : Mu → Prop) (n : Nat) (x : Ro) (w : World) (hT : Tabs w) (hc : Lies w a b d c) (hR : Reps S c) (hO : Okc c n) (hn : n ≤ 100000) (hx : Over w x) (hs : Small x.1) :
    Calls Tryz.prog 19 #[.agg #[a, b, d], vM x] w (AddF a b d w S x.1 n) := by
  obtain ⟨ao, na, ac, rfl⟩ := hc.cells.slice
  obtain ⟨bo, nb, bc, rfl⟩ := hc.wipes.slice
  obtain ⟨dd, nd, dc, rfl⟩ := hc.sibs.slice
  obtain ⟨xo, xc, ex, -, -⟩ := Over.form hx
  obtain ⟨m, xv⟩ := x
  simp only [] at ex hs
  obtain ⟨xn, hxn⟩ : ∃ k, k = m.over.length := ⟨_, rfl⟩
  rw [← hxn] at ex
  subst ex
  clear hxn
  have HRt := Lib.hid (fun (W : World) (hW : RowKit.Below w.heap.size w W) => right_any (m, .slice xo xn xc) W (hT.below hW) (hx.below hW) hs.over hs.key hs.fin hs.val)
  have HCo := Lib.hid (fun (W : World) (hW : RowKit.Below w.heap.size w W) => copy_any (m, .slice xo xn xc) W (hx.below hW) hs.over)
  have HAd := Lib.hid (fun (W : World) (yo : Option Addr) (yn yc : Nat) (hW : RowKit.Below w.heap.size w W) (hv : Over W (m, .slice yo yn yc)) (hr : rightF m = true) (hk : isC m) => cell_at ao bo dd na ac nb bc nd dc c S n m yo yn yc W (hc.below hW) hR hO hn hv hr hk)
  have HAw := Lib.hid (fun (W : World) (yo : Option Addr) (yn yc : Nat) (hW : RowKit.Below w.heap.size w W) (hv : Over W (m, .slice yo yn yc)) (hr : rightF m = true) (hk : isW m) => wipe_at ao bo dd na ac nb bc nd dc c S n m yo yn yc W (hc.below hW) hR hO hn hv hr hk)
  have HAs := Lib.hid (fun (W : World) (yo : Option Addr) (yn yc : Nat) (hW : RowKit.Below w.heap.size w W) (hv : Over W (m, .slice yo yn yc)) (hr : rightF m = true) (hk : isS m) => sib_at ao bo dd na ac nb bc nd dc c S n m yo yn yc W (hc.below hW) hR hO hn hv hr hk)
  have hA := A0.of ((At.new (w.alloc (.cells #[.slice ao na ac, .slice bo nb bc, .slice dd nd dc] 26)) 40 (m, .slice xo xn xc)).below ((Below.refl _ _).alloc (by simp) (.cells #[.slice none 0 0, .slice none 0 0, .slice none 0 0] 26)))
  rw [World.size_alloc] at hA
  have hP := (((C3.new w (.slice ao na ac) (.slice bo nb bc) (.slice dd nd dc)).below ((Below.refl _ _).alloc (Nat.le_refl _) (.cells (enM (m, .slice xo xn xc)).toArray 40))).below ((Below.refl _ _).alloc (by simp) (.cells #[.slice none 0 0, .slice none 0 0, .slice none 0 0] 26)))
  have hT3 := C3.new ((w.alloc (.cells #[.slice ao na ac, .slice bo nb bc, .slice dd nd dc] 26)).alloc (.cells (enM (m, .slice xo xn xc)).toArray 40)) (.slice none 0 0) (.slice none 0 0) (.slice none 0 0)
  rw [World.size_alloc, World.size_alloc] at hT3
  have HP := Lib.hid hP
  have HT := Lib.hid hT3
  have HA := Lib.hid hA
  obtain ⟨Q, hQ⟩ : ∃ Q, Q = rightF m := ⟨_, rfl⟩
  rw [← hQ] at HRt
  have HQ := Lib.hid hQ
  have HL := Lib.hid hc
  have HR := Lib.hid hR
  have HO := Lib.hid hO
  clear hA hP hT3 hQ hc hR hO hx hs hT
  obtain ⟨at1, ak1, akey1, afin1, aval1, aex1, ⟨ap1, al1, aw1⟩, aov1⟩ := m
  unfold vM at HRt HCo HAd HAw HAs ⊢
  unfold enM at HA HP HT
  simp only [] at HA HP HT HRt HCo HAd HAw HAs ⊢
  go_enter Tryz.func19, Tryz.ntmps19
  go_wp2_with fail
  have hB := Lib.hid (((((Below.refl _ w).alloc (Nat.le_refl _) (.cells #[.slice ao na ac, .slice bo nb bc, .slice dd nd dc] 26)).alloc (by simp) (.cells #[.int .i64 at1, .int .i64 ak1, .string akey1, .string afin1, .string aval1, .int .i64 aex1, .int .i64 ap1, .int .i64 al1, .int .i64 aw1, .slice xo xn xc] 40))).alloc (by simp; omega) (.cells #[.slice none 0 0, .slice none 0 0, .slice none 0 0] 26))
  refine (HRt.out _ hB.out).mono ?_
  rintro e w1 ⟨rfl, hb⟩
  have HB1 := Lib.hid (below_then hB.out (Nat.le_refl _) hb)
  have HA1 := Lib.hid (HA.out.below hb)
  have HP1 := Lib.hid (HP.out.below hb)
  have HT1 := Lib.hid (HT.out.below hb)
  clear hb
  have hsz : w.heap.size + 1 + 1 < w1.heap.size := HT1.out.lt
  obtain ⟨-, p0, p1, p2, -⟩ := HP1.out
  cases Q
  · obtain ⟨tl, t0, t1, t2, f0, f1, f2⟩ := HT1.out
    go_wp2_with fail
    obtain ⟨-, e0, e1, e2, -⟩ := c3_put HT1.out (.slice ao na ac) (.slice bo nb bc) (.slice dd nd dc)
    refine bodyPost_ret (v := .agg #[.slice ao na ac, .slice bo nb bc, .slice dd nd dc]) (by simp [results, Tryz.f19, go_sem, e0, e1, e2]) rfl ?_
    have hb3 := c3_put_below HB1.out (k := w.heap.size + 1 + 1) (by omega) (.slice ao na ac) (.slice bo nb bc) (.slice dd nd dc)
    have hq := HQ.out
    exact ⟨_, _, _, c, rfl, HL.out.below hb3, HR.out.same (fun y => ⟨Or.inl, fun h => h.elim id fun h => by rw [← hq] at h; cases h.2⟩), HO.out.more (by omega), hb3, fun base hb hF => hF.below hb3⟩
  · obtain ⟨-, a0, a1, a2, a3, a4, a5, a6, a7, a8, a9⟩ := HA1.out
    simp only [] at a0 a1 a2 a3 a4 a5 a6 a7 a8 a9
    by_cases kt : at1 = 2
    · have HK := Lib.hid (show isS ⟨at1, ak1, akey1, afin1, aval1, aex1, ⟨ap1, al1, aw1⟩, aov1⟩ from kt)
      subst kt
      go_wp2_with fail
      go_region_law (first
        | (go_simp; go_at_call 18; (with_reducible refine (HCo.out _ (HB1.out.drew)).mono ?_); rintro e w2 ⟨v, he, ⟨yo, yc, rfl⟩, hown, hb2⟩; unfold vM at he; simp only [] at he; subst he; have B2 := below_then ((Below.refl w1.heap.size w1).drew) (Nat.le_refl _) hb2; obtain ⟨-, p0, p1, p2, -⟩ := HP1.out.below B2; have HV := Lib.hid (over_own hown); have HVO := Lib.hid (show ∀ base, base ≤ w.heap.size → OwnO base w2 (_, _) from fun base hb => own_base hown (Nat.le_trans hb HB1.out.size)); have HB2 := Lib.hid (below_then HB1.out (Nat.le_refl _) B2); have HT2 := Lib.hid (HT1.out.below B2); clear hown B2 hb2)
        | (go_simp; go_at_call 32; (with_reducible refine (HAs.out _ _ _ _ HB2.out HV.out HQ.out.symm HK.out).mono ?_); rintro e w3 ⟨va, vb, vd, c', rfl, hl, hr, ho, hb3, hfr⟩; obtain ⟨o1, m1, k1, hv1⟩ := hl.cells.slice; obtain ⟨o2, m2, k2, hv2⟩ := hl.wipes.slice; obtain ⟨o3, m3, k3, hv3⟩ := hl.sibs.slice; subst hv1 hv2 hv3; have HB3 := Lib.hid (below_then HB2.out (Nat.le_refl _) hb3); have HT3 := Lib.hid (HT2.out.below hb3); have HX := Lib.hid (And.intro hl (And.intro hr ho)); have HFR := Lib.hid (fun base (hb : base ≤ w.heap.size) (hF : Fresh base w (.slice ao na ac) (.slice bo nb bc) (.slice dd nd dc)) => hfr base (Nat.le_trans hb HB2.out.size) (hF.below HB2.out) (HVO.out base hb)); obtain ⟨tl, t0, t1, t2, f0, f1, f2⟩ := HT3.out; clear hl hr ho hb3 hfr))
      all_goals
        go_wp2_with fail
        obtain ⟨-, e0, e1, e2, -⟩ := c3_put HT3.out (.slice o1 m1 k1) (.slice o2 m2 k2) (.slice o3 m3 k3)
        refine bodyPost_ret (v := .agg #[.slice o1 m1 k1, .slice o2 m2 k2, .slice o3 m3 k3]) (by simp [results, Tryz.f19, go_sem, e0, e1, e2]) rfl ?_
        have hb3 := c3_put_below HB3.out (k := w.heap.size + 1 + 1) (by omega) (.slice o1 m1 k1) (.slice o2 m2 k2) (.slice o3 m3 k3)
        have hl := HX.out.1.plain3 (plain3 HT3.out (.slice o1 m1 k1) (.slice o2 m2 k2) (.slice o3 m3 k3))
        have hq := HQ.out.symm
        exact ⟨_, _, _, c', rfl, hl, HX.out.2.1.same (fun y => or_congr Iff.rfl ⟨fun h => ⟨h, hq⟩, fun h => h.1⟩), HX.out.2.2, hb3, fun base hb hF => (HFR.out base hb hF).put HT3.out⟩
    · by_cases kw : ak1 = 3
      · have HK := Lib.hid (show isW ⟨at1, ak1, akey1, afin1, aval1, aex1, ⟨ap1, al1, aw1⟩, aov1⟩ from ⟨kt, kw⟩)
        subst kw
        go_wp2_with fail
        go_region_law (first
          | (go_simp; go_at_call 18; (with_reducible refine (HCo.out _ (HB1.out.drew)).mono ?_); rintro e w2 ⟨v, he, ⟨yo, yc, rfl⟩, hown, hb2⟩; unfold vM at he; simp only [] at he; subst he; have B2 := below_then ((Below.refl w1.heap.size w1).drew) (Nat.le_refl _) hb2; obtain ⟨-, p0, p1, p2, -⟩ := HP1.out.below B2; have HV := Lib.hid (over_own hown); have HVO := Lib.hid (show ∀ base, base ≤ w.heap.size → OwnO base w2 (_, _) from fun base hb => own_base hown (Nat.le_trans hb HB1.out.size)); have HB2 := Lib.hid (below_then HB1.out (Nat.le_refl _) B2); have HT2 := Lib.hid (HT1.out.below B2); clear hown B2 hb2)
          | (go_simp; go_at_call 33; (with_reducible refine (HAw.out _ _ _ _ HB2.out HV.out HQ.out.symm HK.out).mono ?_); rintro e w3 ⟨va, vb, vd, c', rfl, hl, hr, ho, hb3, hfr⟩; obtain ⟨o1, m1, k1, hv1⟩ := hl.cells.slice; obtain ⟨o2, m2, k2, hv2⟩ := hl.wipes.slice; obtain ⟨o3, m3, k3, hv3⟩ := hl.sibs.slice; subst hv1 hv2 hv3; have HB3 := Lib.hid (below_then HB2.out (Nat.le_refl _) hb3); have HT3 := Lib.hid (HT2.out.below hb3); have HX := Lib.hid (And.intro hl (And.intro hr ho)); have HFR := Lib.hid (fun base (hb : base ≤ w.heap.size) (hF : Fresh base w (.slice ao na ac) (.slice bo nb bc) (.slice dd nd dc)) => hfr base (Nat.le_trans hb HB2.out.size) (hF.below HB2.out) (HVO.out base hb)); obtain ⟨tl, t0, t1, t2, f0, f1, f2⟩ := HT3.out; clear hl hr ho hb3 hfr))
        all_goals
          go_wp2_with fail
          obtain ⟨-, e0, e1, e2, -⟩ := c3_put HT3.out (.slice o1 m1 k1) (.slice o2 m2 k2) (.slice o3 m3 k3)
          refine bodyPost_ret (v := .agg #[.slice o1 m1 k1, .slice o2 m2 k2, .slice o3 m3 k3]) (by simp [results, Tryz.f19, go_sem, e0, e1, e2]) rfl ?_
          have hb3 := c3_put_below HB3.out (k := w.heap.size + 1 + 1) (by omega) (.slice o1 m1 k1) (.slice o2 m2 k2) (.slice o3 m3 k3)
          have hl := HX.out.1.plain3 (plain3 HT3.out (.slice o1 m1 k1) (.slice o2 m2 k2) (.slice o3 m3 k3))
          have hq := HQ.out.symm
          exact ⟨_, _, _, c', rfl, hl, HX.out.2.1.same (fun y => or_congr Iff.rfl ⟨fun h => ⟨h, hq⟩, fun h => h.1⟩), HX.out.2.2, hb3, fun base hb hF => (HFR.out base hb hF).put HT3.out⟩
      · have HK := Lib.hid (show isC ⟨at1, ak1, akey1, afin1, aval1, aex1, ⟨ap1, al1, aw1⟩, aov1⟩ from ⟨kt, kw⟩)
        go_wp2_with fail
        go_region_law (first
          | (go_simp; go_at_call 18; (with_reducible refine (HCo.out _ (HB1.out.drew)).mono ?_); rintro e w2 ⟨v, he, ⟨yo, yc, rfl⟩, hown, hb2⟩; unfold vM at he; simp only [] at he; subst he; have B2 := below_then ((Below.refl w1.heap.size w1).drew) (Nat.le_refl _) hb2; obtain ⟨-, p0, p1, p2, -⟩ := HP1.out.below B2; have HV := Lib.hid (over_own hown); have HVO := Lib.hid (show ∀ base, base ≤ w.heap.size → OwnO base w2 (_, _) from fun base hb => own_base hown (Nat.le_trans hb HB1.out.size)); have HB2 := Lib.hid (below_then HB1.out (Nat.le_refl _) B2); have HT2 := Lib.hid (HT1.out.below B2); clear hown B2 hb2)
          | (go_simp; go_at_call 34; (with_reducible refine (HAd.out _ _ _ _ HB2.out HV.out HQ.out.symm HK.out).mono ?_); rintro e w3 ⟨va, vb, vd, c', rfl, hl, hr, ho, hb3, hfr⟩; obtain ⟨o1, m1, k1, hv1⟩ := hl.cells.slice; obtain ⟨o2, m2, k2, hv2⟩ := hl.wipes.slice; obtain ⟨o3, m3, k3, hv3⟩ := hl.sibs.slice; subst hv1 hv2 hv3; have HB3 := Lib.hid (below_then HB2.out (Nat.le_refl _) hb3); have HT3 := Lib.hid (HT2.out.below hb3); have HX := Lib.hid (And.intro hl (And.intro hr ho)); have HFR := Lib.hid (fun base (hb : base ≤ w.heap.size) (hF : Fresh base w (.slice ao na ac) (.slice bo nb bc) (.slice dd nd dc)) => hfr base (Nat.le_trans hb HB2.out.size) (hF.below HB2.out) (HVO.out base hb)); obtain ⟨tl, t0, t1, t2, f0, f1, f2⟩ := HT3.out; clear hl hr ho hb3 hfr))
        all_goals
          go_wp2_with fail
          obtain ⟨-, e0, e1, e2, -⟩ := c3_put HT3.out (.slice o1 m1 k1) (.slice o2 m2 k2) (.slice o3 m3 k3)
          refine bodyPost_ret (v := .agg #[.slice o1 m1 k1, .slice o2 m2 k2, .slice o3 m3 k3]) (by simp [results, Tryz.f19, go_sem, e0, e1, e2]) rfl ?_
          have hb3 := c3_put_below HB3.out (k := w.heap.size + 1 + 1) (by omega) (.slice o1 m1 k1) (.slice o2 m2 k2) (.slice o3 m3 k3)
          have hl := HX.out.1.plain3 (plain3 HT3.out (.slice o1 m1 k1) (.slice o2 m2 k2) (.slice o3 m3 k3))
          have hq := HQ.out.symm
          exact ⟨_, _, _, c', rfl, hl, HX.out.2.1.same (fun y => or_congr Iff.rfl ⟨fun h => ⟨h, hq⟩, fun h => h.1⟩), HX.out.2.2, hb3, fun base hb hF => (HFR.out base hb hF).put HT3.out⟩
theorem add_any (a b d : Value) (c : Con) (S : Mu → Prop) (n : Nat) (x : Ro) (w : World) (hT : Tabs w) (hc : Lies w a b d c) (hR : Reps S c) (hO : Okc c n) (hn : n ≤ 100000) (hx : Over w x) (hs : Small x.1) :
    Calls Tryz.prog 19 #[.agg #[a, b, d], vM x] w (AddQ w S x.1 n) :=
  (add_anyF a b d c S n x w hT hc hR hO hn hx hs).mono fun e w' ⟨a, b, d, c, h1, h2, h3, h4, h5, _⟩ => ⟨a, b, d, c, h1, h2, h3, h4, h5⟩
end Go.Proofs.YtmjelcjdfamikaaGreatDoor.Mut

/- The walk of state.Of (layer 8). -/
namespace Go.Proofs.YtmjelcjdfamikaaGreatDoor.Mut
open Go.RowKit Go.Sort Go.Proofs.YtmjelcjdfamikaaGreatDoor.Ord
set_option linter.unusedSectionVars false
variable [Inhabited Lim]

/-- A content lies in a variable. -/
def Holds (w0 : World) (t : Nat) (S : Mu → Prop) (n : Nat) (w : World) : Prop :=
  ∃ (o1 : Option Addr) (m1 k1 : Nat) (o2 : Option Addr) (m2 k2 : Nat) (o3 : Option Addr) (m3 k3 : Nat) (c : Con), C3 w t (.slice o1 m1 k1) (.slice o2 m2 k2) (.slice o3 m3 k3) ∧ Lies w (.slice o1 m1 k1) (.slice o2 m2 k2) (.slice o3 m3 k3) c ∧ Reps S c ∧ Okc c n ∧ RowKit.Below w0.heap.size w0 w
/-- The same, in memory made since. -/
def HoldsF (FC : Nat → Prop) (w0 : World) (t : Nat) (S : Mu → Prop) (n : Nat) (w : World) : Prop :=
  ∃ (o1 : Option Addr) (m1 k1 : Nat) (o2 : Option Addr) (m2 k2 : Nat) (o3 : Option Addr) (m3 k3 : Nat) (c : Con), C3 w t (.slice o1 m1 k1) (.slice o2 m2 k2) (.slice o3 m3 k3) ∧ Lies w (.slice o1 m1 k1) (.slice o2 m2 k2) (.slice o3 m3 k3) c ∧ Reps S c ∧ Okc c n ∧ RowKit.Below w0.heap.size w0 w ∧ ∀ base, FC base → Fresh base w (.slice o1 m1 k1) (.slice o2 m2 k2) (.slice o3 m3 k3)
/-- A content comes back. -/
def ConP (w : World) (S : Mu → Prop) (n : Nat) (e : Ending) (w' : World) : Prop :=
  ∃ a b d c, e = .returned (.agg #[a, b, d]) ∧ Lies w' a b d c ∧ Reps S c ∧ Okc c n ∧ RowKit.Below w.heap.size w w'
/-- The same, in memory made since. -/
def ConF (FC : Nat → Prop) (w : World) (S : Mu → Prop) (n : Nat) (e : Ending) (w' : World) : Prop :=
  ∃ a b d c, e = .returned (.agg #[a, b, d]) ∧ Lies w' a b d c ∧ Reps S c ∧ Okc c n ∧ RowKit.Below w.heap.size w w' ∧ ∀ base, FC base → Fresh base w' a b d
/-- Those of a row that may be. -/
def Fits (l : List Mu) (m : Mu) : Prop := m ∈ l ∧ rightF m = true
theorem fits_snoc (l : List Mu) (x y : Mu) : Fits (l ++ [x]) y ↔ Fits l y ∨ (y = x ∧ rightF x = true) := by
  unfold Fits
  rw [List.mem_append, List.mem_singleton]
  constructor
  · rintro ⟨h | rfl, h2⟩
    · exact Or.inl ⟨h, h2⟩
    · exact Or.inr ⟨rfl, h2⟩
  · rintro (⟨h, h2⟩ | ⟨rfl, h2⟩)
    · exact ⟨Or.inl h, h2⟩
    · exact ⟨Or.inr rfl, h2⟩

set_option maxHeartbeats 4000000 in
set_option maxRecDepth 100000 in
theorem of_anyF (v : Value) (R : List Ro) (w : World) (hT : Tabs w) (hv : MRow w v R) (hn : R.length ≤ 10000) (hs : ∀ x ∈ R, Small x.1) :
    Calls Tryz.prog 7 #[v] w (ConF (fun base => base ≤ w.heap.size) w (Fits (R.map (·.1))) R.length) := by
  obtain ⟨ao, cap, rfl, -, -⟩ := hv.form
  obtain ⟨n, hN⟩ : ∃ n, n = R.length := ⟨_, rfl⟩
  rw [← hN]
  have HN := Lib.hid hN
  have HV := Lib.hid hv
  have HS := Lib.hid hs
  have HT := Lib.hid hT
  have hn' : n ≤ 10000 := by omega
  clear hv hN hs hT hn
  go_enter Tryz.func7, Tryz.ntmps7
  go_wp2_with fail
  have hC0 := (C3.new w (.slice none 0 0) (.slice none 0 0) (.slice none 0 0)).below ((Below.refl _ _).alloc (Nat.le_refl _) (.cells #[.slice none 0 0, .slice none 0 0, .slice none 0 0] 26))
  have hC1 := C3.new (w.alloc (.cells #[.slice none 0 0, .slice none 0 0, .slice none 0 0] 26)) (.slice none 0 0) (.slice none 0 0) (.slice none 0 0)
  have hB := ((Below.refl _ w).alloc (Nat.le_refl _) (.cells #[.slice none 0 0, .slice none 0 0, .slice none 0 0] 26)).alloc (by simp) (.cells #[.slice none 0 0, .slice none 0 0, .slice none 0 0] 26)
  rw [World.size_alloc] at hC1
  go_loopw [9] (fun iv wr => ∃ (k : Nat), k ≤ n ∧ iv = .int .i64 k ∧ Hid (C3 wr w.heap.size (.slice none 0 0) (.slice none 0 0) (.slice none 0 0)) ∧ Hid (HoldsF (fun base => base ≤ w.heap.size) w (w.heap.size + 1) (Fits ((R.map (·.1)).take k)) k wr)) (fun iv _ => n - (intOf iv).toNat)
  case atStart => exact ⟨0, by omega, rfl, Lib.hid hC0, Lib.hid ⟨_, _, _, _, _, _, _, _, _, ⟨[], [], []⟩, hC1, Lies.none _, Reps.none.same (fun m => by unfold Fits; simp), ⟨fun m hm => (by cases hm), Nat.le_refl _⟩, hB, fun base _ => Fresh.nil _ _⟩⟩
  case round =>
    obtain ⟨k, hk, rfl, hC, hH⟩ := hrel
    obtain ⟨o1, m1, k1, o2, m2, k2, o3, m3, k3, c, h3, hl, hr, ho, hb, hfr⟩ := hH.out
    have HFR := Lib.hid hfr
    have HB := Lib.hid hb
    have H3 := Lib.hid h3
    have HL := Lib.hid hl
    have HR := Lib.hid hr
    have HO := Lib.hid ho
    clear h3 hl hr ho hb hfr hC0 hC1 hB hH
    obtain ⟨hl3, p0, p1, p2, q0, q1, q2⟩ := H3.out
    by_cases hlt : k < n
    · have hkr : k < R.length := by have := HN.out; omega
      have hget : R[k]? = some R[k] := List.getElem?_eq_getElem hkr
      have hxs := HS.out _ (List.getElem_mem hkr)
      have hxo := (HV.out.below HB.out).over _ (List.getElem_mem hkr)
      obtain ⟨b, off, e1, hat⟩ := (HV.out.below HB.out).at_ hget
      have htk : (R.map (·.1)).take (k + 1) = (R.map (·.1)).take k ++ [R[k].1] := by rw [List.take_add_one, List.getElem?_map, hget]; rfl
      subst e1
      obtain ⟨x, hx⟩ : ∃ x, x = R[k] := ⟨_, rfl⟩
      rw [← hx] at hxs hxo hat htk
      clear hx hget
      have HTK := Lib.hid htk
      have HAD := Lib.hid (fun (W : World) (hW : RowKit.Below wr.heap.size wr W) => add_anyF _ _ _ c _ k x W ((HT.out.below HB.out).below hW) (HL.out.below hW) HR.out HO.out (by omega) (hxo.below hW) hxs)
      obtain ⟨xo, xc, ex, -, -⟩ := Over.form hxo
      obtain ⟨⟨at1, ak1, akey1, afin1, aval1, aex1, ⟨ap1, al1, aw1⟩, aov1⟩, av1⟩ := x
      simp only [] at ex
      obtain ⟨xn, hxn⟩ : ∃ k, k = aov1.length := ⟨_, rfl⟩
      rw [← hxn] at ex
      subst ex
      obtain ⟨hbl, z0, z1, z2, z3, z4, z5, z6, z7, z8, z9⟩ := hat
      clear hxn htk hxs hxo
      unfold vM at HAD
      simp only [] at HAD z0 z1 z2 z3 z4 z5 z6 z7 z8 z9
      go_wp2_with fail
      have hbm := (Below.refl wr.heap.size wr).alloc (Nat.le_refl _) (.cells #[.int .i64 at1, .int .i64 ak1, .string akey1, .string afin1, .string aval1, .int .i64 aex1, .int .i64 ap1, .int .i64 al1, .int .i64 aw1, .slice xo xn xc] 40)
      refine (HAD.out _ hbm).mono ?_
      rintro e w3 ⟨va, vb, vd, c', rfl, hl, hr, ho, hb3, hf3⟩
      have HF3 := Lib.hid (fun base (h : base ≤ w.heap.size) => hf3 base (Nat.le_trans h (Nat.le_trans HB.out.size hbm.size)) ((HFR.out base h).below hbm))
      obtain ⟨o4, m4, k4, hv1⟩ := hl.cells.slice
      obtain ⟨o5, m5, k5, hv2⟩ := hl.wipes.slice
      obtain ⟨o6, m6, k6, hv3⟩ := hl.sibs.slice
      subst hv1 hv2 hv3
      have hb4 := below_then hbm (Nat.le_refl _) hb3
      have H34 := Lib.hid (H3.out.below hb4)
      have HC4 := Lib.hid (hC.out.below hb4)
      have HB4 := Lib.hid (below_then HB.out (Nat.le_refl _) hb4)
      have HX := Lib.hid (And.intro hl (And.intro hr ho))
      clear hl hr ho hb3 hf3 hb4 p0 p1 p2 q0 q1 q2 z0 z1 z2 z3 z4 z5 z6 z7 z8 z9
      obtain ⟨-, p0, p1, p2, q0, q1, q2⟩ := H34.out
      go_wp2_with fail
      go_roundw
      case rel =>
        refine ⟨k + 1, by omega, by go_num, Lib.hid ?_, Lib.hid ⟨o4, m4, k4, o5, m5, k5, o6, m6, k6, c', c3_put H34.out _ _ _, HX.out.1.plain3 (plain3 H34.out _ _ _), HX.out.2.1.same (fun y => ?_), HX.out.2.2, c3_put_below HB4.out (by omega) _ _ _, fun base h => (HF3.out base h).put H34.out⟩⟩
        · exact ((HC4.out.other (by omega)).other (by omega)).other (by omega)
        · rw [HTK.out]; exact (fits_snoc _ _ _).symm
      case measure => simp [intOf]; omega
    · obtain rfl : k = n := by omega
      obtain ⟨-, t0, t1, t2, f0, f1, f2⟩ := hC.out
      go_wp2_with fail
      obtain ⟨-, e0, e1, e2, -⟩ := c3_put hC.out (.slice o1 m1 k1) (.slice o2 m2 k2) (.slice o3 m3 k3)
      refine bodyPost_ret (v := .agg #[.slice o1 m1 k1, .slice o2 m2 k2, .slice o3 m3 k3]) (by simp [results, Tryz.f7, go_sem, e0, e1, e2]) rfl ?_
      have hh := HR.out
      rw [HN.out, show (R.map (·.1)).take R.length = R.map (·.1) from by rw [List.take_of_length_le (by simp)]] at hh
      exact ⟨_, _, _, c, rfl, HL.out.plain3 (plain3 hC.out _ _ _), hh, HO.out, c3_put_below HB.out (Nat.le_refl _) _ _ _, fun base h => (HFR.out base h).put hC.out⟩
theorem of_any (v : Value) (R : List Ro) (w : World) (hT : Tabs w) (hv : MRow w v R) (hn : R.length ≤ 10000) (hs : ∀ x ∈ R, Small x.1) :
    Calls Tryz.prog 7 #[v] w (ConP w (Fits (R.map (·.1))) R.length) :=
  (of_anyF v R w hT hv hn hs).mono fun e w' ⟨a, b, d, c, h1, h2, h3, h4, h5, _⟩ => ⟨a, b, d, c, h1, h2, h3, h4, h5⟩
end Go.Proofs.YtmjelcjdfamikaaGreatDoor.Mut
