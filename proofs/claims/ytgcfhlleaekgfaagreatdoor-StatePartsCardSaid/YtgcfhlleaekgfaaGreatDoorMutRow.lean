/- Mutations in memory: ten cells, the last of which is a slice of stamps; rows of them. -/
import Derived.Test.YtgcfhlleaekgfaaGreatDoorMutCmp
import Derived.Test.YtgcfhlleaekgfaaGreatDoorLstMore
namespace Go.Proofs.YtgcfhlleaekgfaaGreatDoor.Mut
open Go.RowKit Go.Sort Go.Proofs.YtgcfhlleaekgfaaGreatDoor.Ord

/-- A mutation and the value of its slice of stamps. -/
abbrev Ro := Mu × Value
def enM (x : Ro) : List Value := [.int .i64 x.1.table, .int .i64 x.1.kind, .string x.1.key, .string x.1.fin, .string x.1.val, .int .i64 x.1.expiry, .int .i64 x.1.at_.p, .int .i64 x.1.at_.l, .int .i64 x.1.at_.w, x.2]
theorem enM_len (x : Ro) : (enM x).length = 10 := rfl
def vM (x : Ro) : Value := .agg #[.int .i64 x.1.table, .int .i64 x.1.kind, .string x.1.key, .string x.1.fin, .string x.1.val, .int .i64 x.1.expiry, .int .i64 x.1.at_.p, .int .i64 x.1.at_.l, .int .i64 x.1.at_.w, x.2]
theorem vM_eq (x : Ro) : vM x = .agg (enM x).toArray := rfl
/-- Its stamps are read there. -/
def Over (w : World) (x : Ro) : Prop := SRow w x.2 x.1.over
theorem Over.below {w w' : World} {x : Ro} (h : Over w x) (hb : Below w.heap.size w w') : Over w' x := Lst.below h hb
theorem Over.form {w : World} {x : Ro} (h : Over w x) : ∃ ao cap, x.2 = .slice ao x.1.over.length cap ∧ x.1.over.length ≤ cap ∧ cap ≤ maxLen := Lst.form h
/-- A row of mutations. -/
structure MRow (w : World) (v : Value) (R : List Ro) : Prop where
  row : Lst 10 enM w v R
  over : ∀ x ∈ R, Over w x
theorem MRow.below {w w' : World} {v : Value} {R : List Ro} (h : MRow w v R) (hb : Below w.heap.size w w') : MRow w' v R := ⟨h.row.below hb, fun x hx => (h.over x hx).below hb⟩
theorem MRow.nil (w : World) : MRow w (.slice none 0 0) [] := ⟨Lst.nil w, fun _ h => by cases h⟩
theorem MRow.form {w : World} {v : Value} {R : List Ro} (h : MRow w v R) : ∃ ao cap, v = .slice ao R.length cap ∧ R.length ≤ cap ∧ cap ≤ maxLen := Lst.form h.row

theorem push2 {α : Type} (H : Array α) (x0 x1 : α) : ((H.push x0).push x1)[H.size]? = some x0 ∧ ((H.push x0).push x1)[H.size + 1]? = some x1 := by
  refine ⟨?_, ?_⟩ <;> simp only [Array.getElem?_push, Array.size_push] <;> (repeat' split) <;> (first | rfl | (exfalso; omega) | exact absurd trivial (by assumption))
/-- The ten cells of a mutation that lies at a place. -/
structure At (w : World) (b o : Nat) (x : Ro) : Prop where
  lt : b < w.heap.size
  c0 : w.cell? ⟨b, o, none⟩ = some (.int .i64 x.1.table)
  c1 : w.cell? ⟨b, o + 1, none⟩ = some (.int .i64 x.1.kind)
  c2 : w.cell? ⟨b, o + 2, none⟩ = some (.string x.1.key)
  c3 : w.cell? ⟨b, o + 3, none⟩ = some (.string x.1.fin)
  c4 : w.cell? ⟨b, o + 4, none⟩ = some (.string x.1.val)
  c5 : w.cell? ⟨b, o + 5, none⟩ = some (.int .i64 x.1.expiry)
  c6 : w.cell? ⟨b, o + 6, none⟩ = some (.int .i64 x.1.at_.p)
  c7 : w.cell? ⟨b, o + 7, none⟩ = some (.int .i64 x.1.at_.l)
  c8 : w.cell? ⟨b, o + 8, none⟩ = some (.int .i64 x.1.at_.w)
  c9 : w.cell? ⟨b, o + 9, none⟩ = some x.2
theorem At.of {w : World} {b o : Nat} {x : Ro} (hb : b < w.heap.size) (h : ∀ j, j < 10 → w.cell? ⟨b, o + j, none⟩ = (enM x)[j]?) : At w b o x :=
  ⟨hb, h 0 (by decide), h 1 (by decide), h 2 (by decide), h 3 (by decide), h 4 (by decide), h 5 (by decide), h 6 (by decide), h 7 (by decide), h 8 (by decide), h 9 (by decide)⟩
theorem At.below {w w' : World} {b o : Nat} {x : Ro} (h : At w b o x) (hb : Below w.heap.size w w') : At w' b o x := by
  have e : ∀ k, w'.cell? ⟨b, k, none⟩ = w.cell? ⟨b, k, none⟩ := fun k => hb.cell (p := ⟨b, k, none⟩) h.lt
  obtain ⟨h0, h1, h2, h3, h4, h5, h6, h7, h8, h9, h10⟩ := h
  exact ⟨Nat.lt_of_lt_of_le h0 hb.size, (e _).trans h1, (e _).trans h2, (e _).trans h3, (e _).trans h4, (e _).trans h5, (e _).trans h6, (e _).trans h7, (e _).trans h8, (e _).trans h9, (e _).trans h10⟩
theorem MRow.at_ {w : World} {ao : Option Addr} {n cap : Nat} {R : List Ro} {k : Nat} {x : Ro} (h : MRow w (.slice ao n cap) R) (hk : R[k]? = some x) : ∃ b off, ao = some ⟨b, off, none⟩ ∧ At w b (off + k * 10) x := by
  obtain ⟨hlt, he⟩ := List.getElem?_eq_some_iff.1 hk
  obtain ⟨b, off, ha, hb, hc⟩ := Lst.get h.row hlt
  rw [he] at hc
  exact ⟨b, off, ha, At.of hb hc⟩
/-- A mutation in a variable of its own, just laid. -/
theorem At.new (w : World) (t : TypeId) (x : Ro) : At (w.alloc (.cells (enM x).toArray t)) w.heap.size 0 x :=
  At.of (by simp) fun j hj => by
    have h := new_cells w (enM x) t j ((enM x)[j]'(by rw [enM_len]; exact hj)) (List.getElem?_eq_getElem _)
    rw [addr_add] at h
    rw [h, List.getElem?_eq_getElem]
end Go.Proofs.YtgcfhlleaekgfaaGreatDoor.Mut
