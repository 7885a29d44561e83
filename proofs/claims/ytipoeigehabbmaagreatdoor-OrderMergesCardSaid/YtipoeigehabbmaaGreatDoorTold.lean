/- What reports were made of (layer 25): rows of Told, as arguments. -/
import Derived.Test.YtipoeigehabbmaaGreatDoorConArg
import Derived.Test.YtipoeigehabbmaaGreatDoorRepRow
set_option linter.unusedSimpArgs false
set_option linter.unusedVariables false
namespace Go.Proofs.YtipoeigehabbmaaGreatDoor.Mut
open Go.ChangeShapes Go.WideShapes Go.ChangeAt Go.RowKit Go.Deep Go.Proofs.YtipoeigehabbmaaGreatDoor.Kit Go.Proofs.YtipoeigehabbmaaGreatDoor.Ord
set_option linter.unusedSectionVars false
variable [Inhabited Lim]

structure Td where
  v : Value
  l : List Ro
  f : Stp
  q : Bool
instance : Inhabited Td := ⟨⟨.slice none 0 0, [], ⟨0, 0, 0⟩, false⟩⟩
def enT (x : Td) : List Value := [x.v, .int .i64 x.f.p, .int .i64 x.f.l, .int .i64 x.f.w, .bool x.q]
theorem enT_len (x : Td) : (enT x).length = 5 := rfl
structure TRow (w : World) (v : Value) (T : List Td) : Prop where
  row : Lst 5 enT w v T
  ro : ∀ x ∈ T, MRow w x.v x.l
def TSizes (T : List Td) : Prop := ∀ x ∈ T, ∀ y ∈ x.l, Sizes y.1
theorem TRow.below {w w' : World} {v : Value} {T : List Td} (h : TRow w v T) (hb : RowKit.Below w.heap.size w w') : TRow w' v T := ⟨Lst.below h.row hb, fun x hx => MRow.below (h.ro x hx) hb⟩
theorem TRow.form {w : World} {v : Value} {T : List Td} (h : TRow w v T) : ∃ ao cap, v = .slice ao T.length cap ∧ T.length ≤ cap ∧ cap ≤ maxLen := Lst.form h.row
theorem TRow.get {w : World} {ao : Option Addr} {n cap : Nat} {T : List Td} (h : TRow w (.slice ao n cap) T) {k : Nat} (hk : k < T.length) :
    ∃ b off, ao = some ⟨b, off, none⟩ ∧ b < w.heap.size ∧ w.cell? ⟨b, off + k * 5, none⟩ = some T[k].v ∧
      w.cell? ⟨b, off + k * 5 + 1, none⟩ = some (.int .i64 T[k].f.p) ∧ w.cell? ⟨b, off + k * 5 + 2, none⟩ = some (.int .i64 T[k].f.l) ∧ w.cell? ⟨b, off + k * 5 + 3, none⟩ = some (.int .i64 T[k].f.w) ∧ w.cell? ⟨b, off + k * 5 + 4, none⟩ = some (.bool T[k].q) := by
  obtain ⟨b, off, e, h1, h2⟩ := Lst.get h.row hk
  exact ⟨b, off, e, h1, h2 0 (by omega), h2 1 (by omega), h2 2 (by omega), h2 3 (by omega), h2 4 (by omega)⟩

set_option maxRecDepth 100000 in
theorem rd_told {H : Type} {enc : TypeId × Value → H} {W : World} {cs : List Value} (h : Rd enc Tryz.prog W 78 cs) (hN : W.heap.size ≤ (default : Lim).n) : ∃ x : Td, cs = enT x ∧ (MRow W x.v x.l ∧ ∀ y ∈ x.l, Sizes y.1) := by
  obtain ⟨hl, hf⟩ := rd_struct Tryz.underlying78 h
  rw [show Tryz.prog.cellsOf 78 = 5 by kernel_rfl] at hl
  match cs, hl with
  | [c0, c1, c2, c3, c4], _ =>
    have h0 : Rd enc Tryz.prog W 22 (List.take (Tryz.prog.cellsOf 22) (List.drop 0 [c0, c1, c2, c3, c4])) := hf 0 _ rfl
    have h1 : Rd enc Tryz.prog W 32 (List.take (Tryz.prog.cellsOf 32) (List.drop 1 [c0, c1, c2, c3, c4])) := hf 1 _ rfl
    have h2 : Rd enc Tryz.prog W 4 (List.take (Tryz.prog.cellsOf 4) (List.drop 4 [c0, c1, c2, c3, c4])) := hf 2 _ rfl
    simp only [show Tryz.prog.cellsOf 22 = 1 by kernel_rfl, show Tryz.prog.cellsOf 32 = 3 by kernel_rfl, show Tryz.prog.cellsOf 4 = 1 by kernel_rfl,
      List.drop_succ_cons, List.drop_zero, List.take_succ_cons, List.take_zero] at h0 h1 h2
    obtain ⟨ao, cap, l, e0, hlst, hg⟩ := rd_lst (α := Ro) (sz := 10) (en := enM) (good := fun x => Over W x ∧ Sizes x.1) Tryz.underlying22 (by kernel_rfl) (by decide) (fun cs h => rd_mut h hN) h0
    obtain ⟨s, e1, _⟩ := rd_stp h1
    obtain ⟨q, e2⟩ := rd_bool Tryz.underlying4 h2
    unfold enS at e1
    cases e0; cases e1; cases e2
    exact ⟨⟨.slice ao l.length cap, l, s, q⟩, rfl, ⟨hlst, fun x hx => (hg x hx).1⟩, fun x hx => (hg x hx).2⟩
theorem arg_tolds {H : Type} {enc : TypeId × Value → H} {W : World} {v : Value} (h : Arg enc Tryz.prog W 41 v) (hN : W.heap.size ≤ (default : Lim).n := by exact Nat.le_refl _) : ∃ T : List Td, TRow W v T ∧ TSizes T := by
  obtain ⟨ao, cap, l, rfl, h2, -, h4⟩ := arg_lst (α := Td) (en := enT) (good := fun x => MRow W x.v x.l ∧ ∀ y ∈ x.l, Sizes y.1) Tryz.underlying41 (show Tryz.prog.cellsOf 78 = 5 by kernel_rfl) (by decide) (fun cs hr => rd_told hr hN) h
  exact ⟨l, ⟨h2, fun x hx => (h4 x hx).1⟩, fun x hx => (h4 x hx).2⟩
def great25 (T : List Td) : Bool := decide (6 < T.length) || T.any fun x => greatF (x.l.map (·.1)) 15
theorem great25_small {T : List Td} (h : great25 T = false) : T.length ≤ 6 ∧ ∀ x ∈ T, (x.l.map (·.1)).length ≤ 15 ∧ ∀ m ∈ x.l.map (·.1), Small m := by
  unfold great25 at h
  simp only [Bool.or_eq_false_iff, decide_eq_false_iff_not, List.any_eq_false] at h
  exact ⟨by omega, fun x hx => great_small (by simpa using h.2 x hx)⟩
end Go.Proofs.YtipoeigehabbmaaGreatDoor.Mut
