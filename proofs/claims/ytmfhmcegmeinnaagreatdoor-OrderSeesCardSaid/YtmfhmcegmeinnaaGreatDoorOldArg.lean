/- What replicas took (layer 29): Old, rows of Q, as arguments. -/
import Derived.Test.YtmfhmcegmeinnaaGreatDoorConArg
set_option linter.unusedSimpArgs false
set_option linter.unusedVariables false
namespace Go.Proofs.YtmfhmcegmeinnaaGreatDoor.Mut
open Go.ChangeShapes Go.WideShapes Go.ChangeAt Go.RowKit Go.Deep Go.Proofs.YtmfhmcegmeinnaaGreatDoor.Kit Go.Proofs.YtmfhmcegmeinnaaGreatDoor.Ord
set_option linter.unusedSectionVars false
variable [Inhabited Lim]

/-- A replica: has it swept, and what it took above the floor. -/
structure Qa where
  s : Bool
  v : Value
  l : List Ro
instance : Inhabited Qa := ⟨⟨false, .slice none 0 0, []⟩⟩
def enQ (x : Qa) : List Value := [.bool x.s, x.v]
theorem enQ_len (x : Qa) : (enQ x).length = 2 := rfl
structure QRow (w : World) (v : Value) (T : List Qa) : Prop where
  row : Lst 2 enQ w v T
  ro : ∀ x ∈ T, MRow w x.v x.l
def QSizes (T : List Qa) : Prop := ∀ x ∈ T, ∀ y ∈ x.l, Sizes y.1
theorem QRow.below {w w' : World} {v : Value} {T : List Qa} (h : QRow w v T) (hb : RowKit.Below w.heap.size w w') : QRow w' v T := ⟨Lst.below h.row hb, fun x hx => MRow.below (h.ro x hx) hb⟩
theorem QRow.form {w : World} {v : Value} {T : List Qa} (h : QRow w v T) : ∃ ao cap, v = .slice ao T.length cap ∧ T.length ≤ cap ∧ cap ≤ maxLen := Lst.form h.row
theorem QRow.get {w : World} {ao : Option Addr} {n cap : Nat} {T : List Qa} (h : QRow w (.slice ao n cap) T) {k : Nat} (hk : k < T.length) :
    ∃ b off, ao = some ⟨b, off, none⟩ ∧ b < w.heap.size ∧ w.cell? ⟨b, off + k * 2, none⟩ = some (.bool T[k].s) ∧ w.cell? ⟨b, off + k * 2 + 1, none⟩ = some T[k].v := by
  obtain ⟨b, off, e, h1, h2⟩ := Lst.get h.row hk
  exact ⟨b, off, e, h1, h2 0 (by omega), h2 1 (by omega)⟩

set_option maxRecDepth 100000 in
theorem rd_qa {H : Type} {enc : TypeId × Value → H} {W : World} {cs : List Value} (h : Rd enc Tryz.prog W 59 cs) (hN : W.heap.size ≤ (default : Lim).n) : ∃ x : Qa, cs = enQ x ∧ (MRow W x.v x.l ∧ ∀ y ∈ x.l, Sizes y.1) := by
  obtain ⟨hl, hf⟩ := rd_struct Tryz.underlying59 h
  rw [show Tryz.prog.cellsOf 59 = 2 by kernel_rfl] at hl
  match cs, hl with
  | [c0, c1], _ =>
    have h0 : Rd enc Tryz.prog W 4 (List.take (Tryz.prog.cellsOf 4) (List.drop 0 [c0, c1])) := hf 0 _ rfl
    have h1 : Rd enc Tryz.prog W 22 (List.take (Tryz.prog.cellsOf 22) (List.drop 1 [c0, c1])) := hf 1 _ rfl
    simp only [show Tryz.prog.cellsOf 22 = 1 by kernel_rfl, show Tryz.prog.cellsOf 4 = 1 by kernel_rfl,
      List.drop_succ_cons, List.drop_zero, List.take_succ_cons, List.take_zero] at h0 h1
    obtain ⟨ao, cap, l, e0, hlst, hg⟩ := rd_lst (α := Ro) (sz := 10) (en := enM) (good := fun x => Over W x ∧ Sizes x.1) Tryz.underlying22 (by kernel_rfl) (by decide) (fun cs h => rd_mut h hN) h1
    obtain ⟨q, e2⟩ := rd_bool Tryz.underlying4 h0
    cases e0; cases e2
    exact ⟨⟨q, .slice ao l.length cap, l⟩, rfl, ⟨hlst, fun x hx => (hg x hx).1⟩, fun x hx => (hg x hx).2⟩
theorem arg_qas {H : Type} {enc : TypeId × Value → H} {W : World} {v : Value} (h : Arg enc Tryz.prog W 56 v) (hN : W.heap.size ≤ (default : Lim).n := by exact Nat.le_refl _) : ∃ T : List Qa, QRow W v T ∧ QSizes T := by
  obtain ⟨ao, cap, l, rfl, h2, -, h4⟩ := arg_lst (α := Qa) (en := enQ) (good := fun x => MRow W x.v x.l ∧ ∀ y ∈ x.l, Sizes y.1) Tryz.underlying56 (show Tryz.prog.cellsOf 59 = 2 by kernel_rfl) (by decide) (fun cs hr => rd_qa hr hN) h
  exact ⟨l, ⟨h2, fun x hx => (h4 x hx).1⟩, fun x hx => (h4 x hx).2⟩
set_option maxRecDepth 100000 in
theorem arg_old {H : Type} {enc : TypeId × Value → H} {W : World} {v : Value} (h : Arg enc Tryz.prog W 55 v) (hN : W.heap.size ≤ (default : Lim).n := by exact Nat.le_refl _) : ∃ (u : Value) (l : List Ro) (f g : Stp) (phys : Int), v = .agg #[u, .int .i64 f.p, .int .i64 f.l, .int .i64 f.w, .int .i64 g.p, .int .i64 g.l, .int .i64 g.w, .int .i64 phys] ∧ MRow W u l ∧ ∀ y ∈ l, Sizes y.1 := by
  obtain ⟨cs, rfl, hr⟩ := arg_agg Tryz.underlying55 h
  obtain ⟨hl, hf⟩ := rd_struct Tryz.underlying55 hr
  rw [show Tryz.prog.cellsOf 55 = 8 by kernel_rfl] at hl
  match cs, hl with
  | [c0, c1, c2, c3, c4, c5, c6, c7], _ =>
    have h0 : Rd enc Tryz.prog W 22 (List.take (Tryz.prog.cellsOf 22) (List.drop 0 [c0, c1, c2, c3, c4, c5, c6, c7])) := hf 0 _ rfl
    have h1 : Rd enc Tryz.prog W 43 (List.take (Tryz.prog.cellsOf 43) (List.drop 1 [c0, c1, c2, c3, c4, c5, c6, c7])) := hf 1 _ rfl
    have h2 : Rd enc Tryz.prog W 43 (List.take (Tryz.prog.cellsOf 43) (List.drop 4 [c0, c1, c2, c3, c4, c5, c6, c7])) := hf 2 _ rfl
    have h3 : Rd enc Tryz.prog W 3 (List.take (Tryz.prog.cellsOf 3) (List.drop 7 [c0, c1, c2, c3, c4, c5, c6, c7])) := hf 3 _ rfl
    simp only [show Tryz.prog.cellsOf 22 = 1 by kernel_rfl, show Tryz.prog.cellsOf 43 = 3 by kernel_rfl, show Tryz.prog.cellsOf 3 = 1 by kernel_rfl,
      List.drop_succ_cons, List.drop_zero, List.take_succ_cons, List.take_zero] at h0 h1 h2 h3
    obtain ⟨ao, cap, l, e0, hlst, hg⟩ := rd_lst (α := Ro) (sz := 10) (en := enM) (good := fun x => Over W x ∧ Sizes x.1) Tryz.underlying22 (by kernel_rfl) (by decide) (fun cs h => rd_mut h hN) h0
    obtain ⟨f, e1, _⟩ := rd_stp h1
    obtain ⟨g, e2, _⟩ := rd_stp h2
    obtain ⟨p, e3, _, _⟩ := rd_i64 Tryz.underlying3 h3
    unfold enS at e1 e2
    cases e0; cases e1; cases e2; cases e3
    exact ⟨.slice ao l.length cap, l, f, g, p, rfl, ⟨hlst, fun x hx => (hg x hx).1⟩, fun x hx => (hg x hx).2⟩
end Go.Proofs.YtmfhmcegmeinnaaGreatDoor.Mut
