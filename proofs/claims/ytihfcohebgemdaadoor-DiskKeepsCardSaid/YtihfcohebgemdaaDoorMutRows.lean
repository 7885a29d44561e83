/- MutCmp, MutRow, MutCompare, MutSmall: in one text. -/
import Derived.Test.YtihfcohebgemdaaDoorMuts
import Derived.Test.YtihfcohebgemdaaDoorLays
import Derived.Test.YtihfcohebgemdaaDoorLst
import Derived.Test.YtihfcohebgemdaaDoorLstMore
set_option linter.unusedSimpArgs false
set_option linter.unusedVariables false
/- The walks of the comparisons (layers 4, 7): cmp.Compare, cmp.Or, stamp.Compare, slices.CompareFunc at stamps, mut.Compare. -/
namespace Go.Proofs.YtihfcohebgemdaaDoor.Mut
open Go.RowKit Go.Sort Go.Proofs.YtihfcohebgemdaaDoor.Ord

abbrev enS (s : Stp) : List Value := [.int .i64 s.p, .int .i64 s.l, .int .i64 s.w]
theorem enS_len (s : Stp) : (enS s).length = 3 := rfl
abbrev vS (s : Stp) : Value := .agg #[.int .i64 s.p, .int .i64 s.l, .int .i64 s.w]
abbrev SRow (w : World) (v : Value) (l : List Stp) : Prop := Lst 3 enS w v l
theorem stamp_at {w : World} {ao : Option Addr} {n cap : Nat} {l : List Stp} {k : Nat} {x : Stp} (h : SRow w (.slice ao n cap) l) (hk : l[k]? = some x) :
    ∃ b off, ao = some ⟨b, off, none⟩ ∧ b < w.heap.size ∧ w.cell? ⟨b, off + k * 3, none⟩ = some (.int .i64 x.p) ∧ w.cell? ⟨b, off + k * 3 + 1, none⟩ = some (.int .i64 x.l) ∧ w.cell? ⟨b, off + k * 3 + 2, none⟩ = some (.int .i64 x.w) := by
  obtain ⟨hlt, he⟩ := List.getElem?_eq_some_iff.1 hk
  obtain ⟨b, off, ha, hb, hc⟩ := Lst.get h hlt
  rw [he] at hc
  exact ⟨b, off, ha, hb, hc 0 (by decide), hc 1 (by decide), hc 2 (by decide)⟩

theorem ints_new (w : World) (t : TypeId) (l : List Int) : ∀ i (h : i < l.length), (w.alloc (.cells ⟨l.map (Value.int .i64)⟩ t)).cell? ⟨w.heap.size, 0 + i, none⟩ = some (.int .i64 l[i]) := by
  intro i h
  have := new_cells w (l.map (Value.int .i64)) t i (.int .i64 l[i]) (by simp [h])
  rw [← this, Nat.zero_add]
  unfold Addr.add
  split
  · rename_i h0; rw [h0]
  · simp

end Go.Proofs.YtihfcohebgemdaaDoor.Mut

/- Mutations in memory: ten cells, the last of which is a slice of stamps; rows of them. -/
namespace Go.Proofs.YtihfcohebgemdaaDoor.Mut
open Go.RowKit Go.Sort Go.Proofs.YtihfcohebgemdaaDoor.Ord

/-- A mutation and the value of its slice of stamps. -/
abbrev Ro := Mu × Value
def enM (x : Ro) : List Value := [.int .i64 x.1.table, .int .i64 x.1.kind, .string x.1.key, .string x.1.fin, .string x.1.val, .int .i64 x.1.expiry, .int .i64 x.1.at_.p, .int .i64 x.1.at_.l, .int .i64 x.1.at_.w, x.2]
theorem enM_len (x : Ro) : (enM x).length = 10 := rfl
def vM (x : Ro) : Value := .agg #[.int .i64 x.1.table, .int .i64 x.1.kind, .string x.1.key, .string x.1.fin, .string x.1.val, .int .i64 x.1.expiry, .int .i64 x.1.at_.p, .int .i64 x.1.at_.l, .int .i64 x.1.at_.w, x.2]
theorem vM_eq (x : Ro) : vM x = .agg (enM x).toArray := rfl
/-- Where a law begins: what lies in the blocks ahead of it came with the call (each law gives its own number, as an instance). -/
structure Lim where
  n : Nat
set_option linter.unusedSectionVars false
variable [Inhabited Lim]
/-- A slice that begins a block, or came with the call. -/
def ZN (v : Value) : Prop := ∀ (a : Addr) (n c : Nat), v = .slice (some a) n c → n = 0 ∨ a.off = 0 ∨ a.block < (default : Lim).n
theorem ZN.none (n c : Nat) : ZN (.slice Option.none n c) := fun _ _ _ h => by cases h
theorem ZN.own {w : World} {base : Nat} {e : TypeId} {sz n : Nat} {v : Value} {xs : List Value} (h : w.ownsRow base e sz v n xs) : ZN v := by
  rcases h.2 with ⟨rfl, _⟩ | ⟨g, cap, cur, rfl, _⟩
  · exact ZN.none _ _
  · intro a n c h
    cases h
    exact Or.inr (Or.inl rfl)
theorem ZN.came {α : Type} {sz : Nat} {en : α → List Value} {w : World} {v : Value} {l : List α} (h : Lst sz en w v l) (hN : w.heap.size ≤ (default : Lim).n) : ZN v := by
  obtain ⟨ao, cap, rfl, -, -, h3⟩ := h
  intro a n c e
  cases e
  rcases h3 with h3 | ⟨b, off, e, hb, -⟩
  · exact Or.inl h3
  · cases e
    exact Or.inr (Or.inr (Nat.lt_of_lt_of_le hb hN))
/-- Its stamps are read there. -/
structure Over (w : World) (x : Ro) : Prop where
  lst : SRow w x.2 x.1.over
  zn : ZN x.2
theorem Over.below {w w' : World} {x : Ro} (h : Over w x) (hb : Below w.heap.size w w') : Over w' x := ⟨Lst.below h.lst hb, h.zn⟩
theorem Over.form {w : World} {x : Ro} (h : Over w x) : ∃ ao cap, x.2 = .slice ao x.1.over.length cap ∧ x.1.over.length ≤ cap ∧ cap ≤ maxLen := Lst.form h.lst
/-- A row of mutations. -/
structure MRow (w : World) (v : Value) (R : List Ro) : Prop where
  row : Lst 10 enM w v R
  over : ∀ x ∈ R, Over w x
theorem MRow.below {w w' : World} {v : Value} {R : List Ro} (h : MRow w v R) (hb : Below w.heap.size w w') : MRow w' v R := ⟨h.row.below hb, fun x hx => (h.over x hx).below hb⟩
theorem MRow.nil (w : World) : MRow w (.slice none 0 0) [] := ⟨Lst.nil w, fun _ h => by cases h⟩
theorem MRow.form {w : World} {v : Value} {R : List Ro} (h : MRow w v R) : ∃ ao cap, v = .slice ao R.length cap ∧ R.length ≤ cap ∧ cap ≤ maxLen := Lst.form h.row

theorem push2 {α : Type} (H : Array α) (x0 x1 : α) : ((H.push x0).push x1)[H.size]? = some x0 ∧ ((H.push x0).push x1)[H.size + 1]? = some x1 := by
  refine ⟨?_, ?_⟩ <;> simp only [Array.getElem?_push, Array.size_push] <;> (repeat' split) <;> (first | rfl | (exfalso; omega) | exact absurd trivial (by assumption))
/-- The ten cells of a mutation that lies at a place. -/
structure At (w : World) (b o : Nat) (x : Ro) : Prop where
  lt : b < w.heap.size
  c0 : w.cell? ⟨b, o, none⟩ = some (.int .i64 x.1.table)
  c1 : w.cell? ⟨b, o + 1, none⟩ = some (.int .i64 x.1.kind)
  c2 : w.cell? ⟨b, o + 2, none⟩ = some (.string x.1.key)
  c3 : w.cell? ⟨b, o + 3, none⟩ = some (.string x.1.fin)
  c4 : w.cell? ⟨b, o + 4, none⟩ = some (.string x.1.val)
  c5 : w.cell? ⟨b, o + 5, none⟩ = some (.int .i64 x.1.expiry)
  c6 : w.cell? ⟨b, o + 6, none⟩ = some (.int .i64 x.1.at_.p)
  c7 : w.cell? ⟨b, o + 7, none⟩ = some (.int .i64 x.1.at_.l)
  c8 : w.cell? ⟨b, o + 8, none⟩ = some (.int .i64 x.1.at_.w)
  c9 : w.cell? ⟨b, o + 9, none⟩ = some x.2
theorem At.of {w : World} {b o : Nat} {x : Ro} (hb : b < w.heap.size) (h : ∀ j, j < 10 → w.cell? ⟨b, o + j, none⟩ = (enM x)[j]?) : At w b o x :=
  ⟨hb, h 0 (by decide), h 1 (by decide), h 2 (by decide), h 3 (by decide), h 4 (by decide), h 5 (by decide), h 6 (by decide), h 7 (by decide), h 8 (by decide), h 9 (by decide)⟩
theorem At.below {w w' : World} {b o : Nat} {x : Ro} (h : At w b o x) (hb : Below w.heap.size w w') : At w' b o x := by
  have e : ∀ k, w'.cell? ⟨b, k, none⟩ = w.cell? ⟨b, k, none⟩ := fun k => hb.cell (p := ⟨b, k, none⟩) h.lt
  obtain ⟨h0, h1, h2, h3, h4, h5, h6, h7, h8, h9, h10⟩ := h
  exact ⟨Nat.lt_of_lt_of_le h0 hb.size, (e _).trans h1, (e _).trans h2, (e _).trans h3, (e _).trans h4, (e _).trans h5, (e _).trans h6, (e _).trans h7, (e _).trans h8, (e _).trans h9, (e _).trans h10⟩
theorem MRow.at_ {w : World} {ao : Option Addr} {n cap : Nat} {R : List Ro} {k : Nat} {x : Ro} (h : MRow w (.slice ao n cap) R) (hk : R[k]? = some x) : ∃ b off, ao = some ⟨b, off, none⟩ ∧ At w b (off + k * 10) x := by
  obtain ⟨hlt, he⟩ := List.getElem?_eq_some_iff.1 hk
  obtain ⟨b, off, ha, hb, hc⟩ := Lst.get h.row hlt
  rw [he] at hc
  exact ⟨b, off, ha, At.of hb hc⟩
/-- A mutation in a variable of its own, just laid. -/
theorem At.new (w : World) (t : TypeId) (x : Ro) : At (w.alloc (.cells (enM x).toArray t)) w.heap.size 0 x :=
  At.of (by simp) fun j hj => by
    have h := new_cells w (enM x) t j ((enM x)[j]'(by rw [enM_len]; exact hj)) (List.getElem?_eq_getElem _)
    rw [addr_add] at h
    rw [h, List.getElem?_eq_getElem]
end Go.Proofs.YtihfcohebgemdaaDoor.Mut

/- The walks of slices.CompareFunc at stamps, mut.Compare, mut.Same, siblings (layers 7, 8). -/
namespace Go.Proofs.YtihfcohebgemdaaDoor.Mut
open Go.RowKit Go.Sort Go.Proofs.YtihfcohebgemdaaDoor.Ord
set_option linter.unusedSectionVars false
variable [Inhabited Lim]

end Go.Proofs.YtihfcohebgemdaaDoor.Mut

/- The walks of mut.Same, siblings, mut.Covers, within (layers 7, 8). -/
namespace Go.Proofs.YtihfcohebgemdaaDoor.Mut
open Go.RowKit Go.Sort Go.Proofs.YtihfcohebgemdaaDoor.Ord
set_option linter.unusedSectionVars false
variable [Inhabited Lim]

def coversB (w : Mu) (key : ByteArray) : Bool := decide (w.kind = 3) && (!lessS key w.key && lessS key w.fin)
def withinB (a b : Mu) : Bool := !lessS b.key a.key && (!lessS a.fin b.fin && !decide (stC a.at_ b.at_ < 0))
theorem le_less (a b : ByteArray) : cmpS a b ≤ 0 ↔ lessS b a = false := by
  have := cmpS_gt a b
  unfold lessS
  cases h : Op.bytesLess b.toList a.toList
  · rw [h] at this; simp at this ⊢; omega
  · rw [h] at this; simp at this ⊢; omega
theorem le_or (a b : ByteArray) : (Op.bytesLess a.toList b.toList || a.toList == b.toList) = !lessS b a := by
  unfold lessS
  rcases less_total a.toList b.toList with h | h | h
  · rw [h, less_asymm h]; rfl
  · rw [h, less_irrefl]; simp
  · rw [h, less_asymm h]; simpa using (less_ne h).symm
theorem lt_less (a b : ByteArray) : cmpS a b < 0 ↔ lessS a b = true := cmpS_lt a b
theorem covers_iff (w : Mu) (key : ByteArray) : covers w key ↔ coversB w key = true := by
  unfold covers coversB
  rw [Bool.and_eq_true, Bool.and_eq_true, decide_eq_true_iff, le_less, lt_less, Bool.not_eq_true']
theorem within_iff (a b : Mu) : within a b ↔ withinB a b = true := by
  unfold within withinB
  rw [Bool.and_eq_true, Bool.and_eq_true, Bool.not_eq_true', Bool.not_eq_true', Bool.not_eq_true', decide_eq_false_iff_not, le_less, le_less]

end Go.Proofs.YtihfcohebgemdaaDoor.Mut
