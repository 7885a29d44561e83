/- What is read beside a row that grows with spare zero cells stays readable: rows of mutations, contents (layers 25, 29). -/
import Derived.Test.YthdbilggnjjkhaaGreatDoorRepApp
set_option linter.unusedSimpArgs false
set_option linter.unusedVariables false
namespace Go.Proofs.YthdbilggnjjkhaaGreatDoor.Mut
open Go.RowKit Go.Sort Go.Proofs.YthdbilggnjjkhaaGreatDoor.Ord Go.Proofs.YthdbilggnjjkhaaGreatDoor.RegInv Go.Proofs.YthdbilggnjjkhaaGreatDoor.Spare
set_option linter.unusedSectionVars false
variable [Inhabited Lim]

/-- What is asked of a row's cells: no texts; one of the first three cells is no number. -/
structure Plainly (zs xs : List Value) (j : Nat) : Prop where
  lt : j < 3
  len : j < zs.length
  sz : ∀ s, Value.string s ∉ zs
  sx : ∀ s, Value.string s ∉ xs
  jz : ∀ i, zs[j]? ≠ some (.int .i64 i)
  jx : ∀ i, xs[j]? ≠ some (.int .i64 i)
section
variable {w w' : World} {base : Nat} {e : TypeId} {zs : List Value} {v : Value} {n j : Nat} {xs : List Value}
theorem cell_str (h : Spare w base e zs v n xs) (hp : Plainly zs xs j) {g o : Nat} (hg : v.ownBlock = some g) (s : ByteArray) : w.cell? ⟨g, o, none⟩ ≠ some (.string s) := by
  intro hc
  rcases h.own.2 with ⟨rfl, _⟩ | ⟨g', cap, cur, rfl, h1, h2, h3, h4, h5, h6⟩
  · cases hg
  · simp [Value.ownBlock] at hg
    subst hg
    by_cases ho : o < n * zs.length
    · rw [cell_of_row _ _ _ _ _ _ h2] at hc
      have h7 : xs[o]? = some (.string s) := by rw [← h6, List.getElem?_take, if_pos ho]; simpa using hc
      exact hp.sx s (List.mem_of_getElem? h7)
    · exact hp.sz s (List.mem_of_getElem? (h.rest g' n cap o _ rfl (by omega) hc))
theorem cell_j (h : Spare w base e zs v n xs) (hp : Plainly zs xs j) {g : Nat} (hg : v.ownBlock = some g) (i : Int) : w.cell? ⟨g, j, none⟩ ≠ some (.int .i64 i) := by
  intro hc
  rcases h.own.2 with ⟨rfl, _⟩ | ⟨g', cap, cur, rfl, h1, h2, h3, h4, h5, h6⟩
  · cases hg
  · simp [Value.ownBlock] at hg
    subst hg
    by_cases ho : j < n * zs.length
    · rw [cell_of_row _ _ _ _ _ _ h2] at hc
      have h7 : xs[j]? = some (.int .i64 i) := by rw [← h6, List.getElem?_take, if_pos ho]; simpa using hc
      exact hp.jx i h7
    · have h8 := h.rest g' n cap j _ rfl (by omega) hc
      rw [Nat.mod_eq_of_lt hp.len] at h8
      exact hp.jz i h8
theorem row_keptZ {u : Value} {l : List Ro} (h : Lst 10 enM w u l) (hs : Spare w base e zs v n xs) (hp : Plainly zs xs j) (hg : w.grownBy w' v.ownBlock) : Lst 10 enM w' u l := by
  obtain ⟨ao, cap, e1, h1, h2, h3⟩ := h
  refine ⟨ao, cap, e1, h1, h2, h3.imp id ?_⟩
  rintro ⟨b, off, e2, hb, hc⟩
  refine ⟨b, off, e2, Nat.lt_of_lt_of_le hb hg.size, fun i x hi j hj => ?_⟩
  have hj2 := hc i x hi 2 (by decide)
  rw [← hc i x hi j hj]
  exact World.cell?_of_block (a := ⟨b, off + i * 10 + j, none⟩) (hg.block b hb fun e => cell_str hs hp e.symm _ hj2)
theorem over_keptZ {x : Ro} (h : Over w x) (hN : (default : Lim).n ≤ base) (hs : Spare w base e zs v n xs) (hp : Plainly zs xs j) (hg : w.grownBy w' v.ownBlock) : Over w' x := by
  refine ⟨?_, h.zn⟩
  obtain ⟨ao, cap, e1, h1, h2, h3⟩ := h.lst
  refine ⟨ao, cap, e1, h1, h2, h3.imp id ?_⟩
  rintro ⟨b, off, e2, hb, hc⟩
  refine ⟨b, off, e2, Nat.lt_of_lt_of_le hb hg.size, fun i s hi k hk3 => ?_⟩
  rw [← hc i s hi k hk3]
  refine World.cell?_of_block (a := ⟨b, off + i * 3 + k, none⟩) (hg.block b hb fun h4 => ?_)
  have h4 := h4.symm
  have hlt := (hs.own.lt b h4).1
  have hpos : 0 < x.1.over.length := by have := (List.getElem?_eq_some_iff.1 hi).1; omega
  rcases h.zn _ _ _ (by rw [e1, e2]) with h5 | h5 | h5
  · omega
  · have h5 : off = 0 := h5
    subst h5
    have h6 := hc 0 _ (List.getElem?_eq_getElem hpos) j hp.lt
    rw [show 0 + 0 * 3 + j = j by omega] at h6
    generalize x.1.over[0] = y at h6
    obtain ⟨p, q, r⟩ := y
    have hjl := hp.lt
    have h7 : ∃ i, (enS ⟨p, q, r⟩)[j]? = some (.int .i64 i) := by
      rcases j with _ | _ | _ | j
      · exact ⟨p, rfl⟩
      · exact ⟨q, rfl⟩
      · exact ⟨r, rfl⟩
      · omega
    obtain ⟨i', h7⟩ := h7
    rw [h7] at h6
    exact cell_j hs hp h4 i' h6
  · have h5 : b < (default : Lim).n := h5
    omega
theorem mrow_keptZ {u : Value} {R : List Ro} (h : MRow w u R) (hN : (default : Lim).n ≤ base) (hs : Spare w base e zs v n xs) (hp : Plainly zs xs j) (hg : w.grownBy w' v.ownBlock) : MRow w' u R :=
  ⟨row_keptZ h.row hs hp hg, fun x hx => over_keptZ (h.over x hx) hN hs hp hg⟩
theorem reads_keptZ {u : Value} {l : List Mu} (h : Reads w u l) (hN : (default : Lim).n ≤ base) (hs : Spare w base e zs v n xs) (hp : Plainly zs xs j) (hg : w.grownBy w' v.ownBlock) : Reads w' u l := by
  obtain ⟨R, e1, hR⟩ := h
  exact ⟨R, e1, mrow_keptZ hR hN hs hp hg⟩
theorem lies_keptZ {a b d : Value} {c : Con} (h : Lies w a b d c) (hN : (default : Lim).n ≤ base) (hs : Spare w base e zs v n xs) (hp : Plainly zs xs j) (hg : w.grownBy w' v.ownBlock) : Lies w' a b d c :=
  ⟨reads_keptZ h.cells hN hs hp hg, reads_keptZ h.wipes hN hs hp hg, reads_keptZ h.sibs hN hs hp hg⟩
end
theorem flatR_j {R : List Rp} (h : ∀ x ∈ R, Forms x) (i : Int) : (R.flatMap enR)[0]? ≠ some (.int .i64 i) := by
  cases R with
  | nil => simp
  | cons x R =>
    obtain ⟨⟨_, _, _, e1⟩, -⟩ := h x (List.mem_cons_self ..)
    simp [enR, e1]
theorem plain_R {R : List Rp} (h : ∀ x ∈ R, Forms x) : Plainly zR (R.flatMap enR) 0 :=
  ⟨by decide, by decide, fun s hs => by simp [zR] at hs, flatR_str h, fun i => by simp [zR], flatR_j h⟩
/-- One report in a literal row. -/
theorem one_rep {w : World} {x : Rp} {t : TypeId} (h : Lies w x.a x.b x.d x.c) : RRow (w.alloc (.cells ⟨enR x⟩ t)) (.slice (some ⟨w.heap.size, 0, none⟩) 1 1) [x] := by
  refine ⟨⟨_, 1, rfl, by simp, by decide, Or.inr ⟨_, _, rfl, by simp, fun i y hi j hj => ?_⟩⟩, fun y hy => ?_⟩
  · rw [cells_at (heap_alloc_new w _), Nat.zero_add]
    have := flatMap_get enR_len [x] i y hi j hj
    simpa using this
  · rw [List.mem_singleton.1 hy]
    exact h.below ((Below.refl _ _).alloc (Nat.le_refl _) _)
/-- Reports in a row that grows. -/
structure Grow (w : World) (base : Nat) (e : TypeId) (v : Value) (n : Nat) (R : List Rp) : Prop where
  row : Spare w base e zR v n (R.flatMap enR)
  con : ∀ x ∈ R, Lies w x.a x.b x.d x.c
  len : n = R.length
theorem Grow.forms {w : World} {base : Nat} {e : TypeId} {v : Value} {n : Nat} {R : List Rp} (h : Grow w base e v n R) : ∀ x ∈ R, Forms x := fun x hx => (h.con x hx).forms
theorem Grow.nil (w : World) (base : Nat) (e : TypeId) : Grow w base e (.slice none 0 0) 0 [] := ⟨Spare.nil w base e zR, fun x hx => (by cases hx), rfl⟩
theorem Grow.below {w w' : World} {base : Nat} {e : TypeId} {v : Value} {n : Nat} {R : List Rp} (h : Grow w base e v n R) (hb : RowKit.Below w.heap.size w w') : Grow w' base e v n R := ⟨h.row.below hb, fun x hx => (h.con x hx).below hb, h.len⟩
theorem Grow.rrow {w : World} {base : Nat} {e : TypeId} {v : Value} {n : Nat} {R : List Rp} (h : Grow w base e v n R) : RRow w v R := ⟨Lst.owned enR_len (by decide) h.len h.row.own, h.con⟩
/-- Behind an append to this row: itself with one more, and what lies beside it. -/
theorem Grow.more {w w' : World} {base : Nat} {e : TypeId} {v v' : Value} {n : Nat} {R : List Rp} {x : Rp} (h : Grow w base e v n R) (hN : (default : Lim).n ≤ base) (hx : Lies w x.a x.b x.d x.c) (hsp : Spare w' base e zR v' (n + 1) (R.flatMap enR ++ [x].flatMap enR)) (hg : w.grownBy w' v.ownBlock) : Grow w' base e v' (n + 1) (R ++ [x]) := by
  refine ⟨by rw [List.flatMap_append]; exact hsp, fun y hy => ?_, by rw [List.length_append, ← h.len]; rfl⟩
  rcases List.mem_append.1 hy with g | g
  · exact lies_keptZ (h.con y g) hN h.row (plain_R h.forms) hg
  · rw [List.mem_singleton.1 g]
    exact lies_keptZ hx hN h.row (plain_R h.forms) hg
theorem Grow.beside {w w' : World} {base base2 : Nat} {e e2 : TypeId} {v v2 : Value} {n n2 : Nat} {R R2 : List Rp} (h2 : Grow w base2 e2 v2 n2 R2) (h : Grow w base e v n R) (hN : (default : Lim).n ≤ base) (hne : e ≠ e2) (hg : w.grownBy w' v.ownBlock) : Grow w' base2 e2 v2 n2 R2 :=
  ⟨h2.row.kept hg (rows_apart h2.row.own h.row.own (fun e => hne e.symm)), fun y hy => lies_keptZ (h2.con y hy) hN h.row (plain_R h.forms) hg, h2.len⟩
theorem Grow.belowB {w0 w w' : World} {base : Nat} {e : TypeId} {v : Value} {n : Nat} {R : List Rp} (h : Grow w base e v n R) (hb : RowKit.Below base w0 w) (hg : w.grownBy w' v.ownBlock) (hs : base ≤ w.heap.size) : RowKit.Below base w0 w' := hb.grown hg hs (fun k hk => (h.row.own.lt k hk).1)
end Go.Proofs.YthdbilggnjjkhaaGreatDoor.Mut
