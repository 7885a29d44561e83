/- A slice as an argument, at elements of any kind: it reads as a list. · Rows of mutations as arguments. · What reports were made of (layer 25): rows of Told, as arguments. · The calls that a repair hears (layer 26): rows of Op, and how it starts, as arguments. · How a repair starts, as an argument (layer 26). -/
import Derived.Test.YthdbilggnjjkhaaGreatDoorKit
import Derived.Test.YthdbilggnjjkhaaGreatDoorLst
import Derived.Test.YthdbilggnjjkhaaGreatDoorKitLaid
import Derived.Test.YthdbilggnjjkhaaGreatDoorConMore
import Derived.Test.YthdbilggnjjkhaaGreatDoorRepRow
import Derived.Test.YthdbilggnjjkhaaGreatDoorInts
set_option linter.unusedSimpArgs false
set_option linter.unusedVariables false
namespace Go.Proofs.YthdbilggnjjkhaaGreatDoor
open Go.ChangeShapes Go.WideShapes Go.ChangeAt Go.RowKit Go.Deep Go.Proofs.YthdbilggnjjkhaaGreatDoor.Kit

theorem choose_lt' {α : Type} [Inhabited α] {n : Nat} {p : Nat → α → Prop} (h : ∀ i, i < n → ∃ x, p i x) : ∃ f : Nat → α, ∀ i, i < n → p i (f i) := by
  refine ⟨fun i => if hi : i < n then Classical.choose (h i hi) else default, fun i hi => ?_⟩
  simp only [hi, dif_pos]
  exact Classical.choose_spec (h i hi)

theorem arg_lst {H : Type} {enc : TypeId × Value → H} {P : Program} {W : World} {α : Type} [Inhabited α] {t e : TypeId} {sz : Nat} {en : α → List Value} {good : α → Prop} {v : Value} (ht : P.underlying t = some (.slice e)) (hC : P.cellsOf e = sz) (hsz : 0 < sz)
    (hrd : ∀ cs, Rd enc P W e cs → ∃ x, cs = en x ∧ good x) (h : Arg enc P W t v) : ∃ ao cap l, v = .slice ao (List.length l) cap ∧ Lst sz en W v l ∧ (ao = none → cap = 0) ∧ ∀ x ∈ l, good x := by
  rcases arg_slice ht h with rfl | ⟨a, len, cap, rfl, hl, hc, hel⟩
  · exact ⟨none, 0, [], rfl, Lst.nil _, fun _ => rfl, by simp⟩
  rcases cells_slice (by rw [hC]; omega) hl hc (Or.inr ⟨a, rfl, hel⟩) with h0 | ⟨b, off, F, h1, h2, h3, h4, h5, h6⟩
  · subst h0
    exact ⟨some a, cap, [], rfl, ⟨some a, cap, rfl, by simp, hc, Or.inl rfl⟩, (fun h => by cases h), by simp⟩
  · cases h1
    rw [hC] at h6
    obtain ⟨q, hq⟩ := choose_lt' (α := α) (n := len) (p := fun i x => F i = en x ∧ good x) (fun i hi => hrd _ (h6 i (by omega)).2.1)
    have hn : ((List.range len).map q).length = len := by simp
    refine ⟨_, cap, (List.range len).map q, by rw [hn], ⟨_, cap, by rw [hn], by rw [hn]; exact hl, hc, Or.inr ⟨b, off, rfl, h5, fun i x hi j hj => ?_⟩⟩, (fun h => by cases h), fun x hx => ?_⟩
    · have hlt : i < len := by have := (List.getElem?_eq_some_iff.1 hi).1; simpa using this
      have hx : q i = x := by simpa [hlt] using hi
      rw [(h6 i (by omega)).2.2 j hj, (hq i hlt).1, hx]
    · obtain ⟨i, hi, rfl⟩ := List.mem_map.1 hx
      exact (hq i (List.mem_range.1 hi)).2
end Go.Proofs.YthdbilggnjjkhaaGreatDoor

namespace Go.Proofs.YthdbilggnjjkhaaGreatDoor.Mut
open Go.ChangeShapes Go.WideShapes Go.ChangeAt Go.RowKit Go.Deep Go.Proofs.YthdbilggnjjkhaaGreatDoor.Kit Go.Proofs.YthdbilggnjjkhaaGreatDoor.Ord
set_option linter.unusedSectionVars false
variable [Inhabited Lim]

theorem rd_lst {H : Type} {enc : TypeId × Value → H} {P : Program} {W : World} {α : Type} [Inhabited α] {t e : TypeId} {sz : Nat} {en : α → List Value} {good : α → Prop} {cs : List Value} (ht : P.underlying t = some (.slice e)) (hC : P.cellsOf e = sz) (hsz : 0 < sz)
    (hrd : ∀ cs, Rd enc P W e cs → ∃ x, cs = en x ∧ good x) (h : Rd enc P W t cs) : ∃ ao cap l, cs = [.slice ao (List.length l) cap] ∧ Lst sz en W (.slice ao (List.length l) cap) l ∧ ∀ x ∈ l, good x := by
  rcases rd_slice ht h with rfl | ⟨a, len, cap, rfl, hl, hc, hel⟩
  · exact ⟨none, 0, [], rfl, Lst.nil _, by simp⟩
  rcases cells_slice (by rw [hC]; omega) hl hc (Or.inr ⟨a, rfl, hel⟩) with h0 | ⟨b, off, F, h1, h2, h3, h4, h5, h6⟩
  · subst h0
    exact ⟨some a, cap, [], rfl, ⟨some a, cap, rfl, by simp, hc, Or.inl rfl⟩, by simp⟩
  · cases h1
    rw [hC] at h6
    obtain ⟨q, hq⟩ := choose_lt' (α := α) (n := len) (p := fun i x => F i = en x ∧ good x) (fun i hi => hrd _ (h6 i (by omega)).2.1)
    have hn : ((List.range len).map q).length = len := by simp
    refine ⟨_, cap, (List.range len).map q, by rw [hn], ⟨_, cap, rfl, by rw [hn]; exact hl, hc, Or.inr ⟨b, off, rfl, h5, fun i x hi j hj => ?_⟩⟩, fun x hx => ?_⟩
    · have hlt : i < len := by have := (List.getElem?_eq_some_iff.1 hi).1; simpa using this
      have hx : q i = x := by simpa [hlt] using hi
      rw [(h6 i (by omega)).2.2 j hj, (hq i hlt).1, hx]
    · obtain ⟨i, hi, rfl⟩ := List.mem_map.1 hx
      exact (hq i (List.mem_range.1 hi)).2

instance : Inhabited Stp := ⟨⟨0, 0, 0⟩⟩
instance : Inhabited Mu := ⟨⟨0, 0, ByteArray.empty, ByteArray.empty, ByteArray.empty, 0, ⟨0, 0, 0⟩, []⟩⟩
instance : Inhabited Ro := ⟨default, .slice none 0 0⟩
structure Sizes (m : Mu) : Prop where
  key : m.key.size ≤ maxLen
  fin : m.fin.size ≤ maxLen
  val : m.val.size ≤ maxLen
theorem rd_stp {H : Type} {enc : TypeId × Value → H} {W : World} {cs : List Value} (h : Rd enc Tryz.prog W 23 cs) : ∃ s : Stp, cs = enS s ∧ True := by
  obtain ⟨v0, v1, v2, rfl, r0, r1, r2⟩ := rd_struct3 Tryz.underlying23 (by kernel_rfl) (by kernel_rfl) h
  obtain ⟨a, rfl, _, _⟩ := rd_i64 Tryz.underlying3 r0
  obtain ⟨b, rfl, _, _⟩ := rd_i64 Tryz.underlying3 r1
  obtain ⟨c, rfl, _, _⟩ := rd_i64 Tryz.underlying3 r2
  exact ⟨⟨a, b, c⟩, rfl, trivial⟩
theorem fields_M : Tryz.prog.underlying 81 = some (.struct (Tryz.prog.fieldsOf 81)) := by unfold Program.fieldsOf; rw [Tryz.underlying81]
set_option maxRecDepth 100000 in
set_option maxHeartbeats 1000000 in
theorem rd_mut {H : Type} {enc : TypeId × Value → H} {W : World} {cs : List Value} (h : Rd enc Tryz.prog W 81 cs) (hN : W.heap.size ≤ (default : Lim).n) : ∃ x : Ro, cs = enM x ∧ (Over W x ∧ Sizes x.1) := by
  obtain ⟨hl, hf⟩ := rd_struct Tryz.underlying81 h
  rw [show Tryz.prog.cellsOf 81 = 10 by kernel_rfl] at hl
  match cs, hl with
  | [c0, c1, c2, c3, c4, c5, c6, c7, c8, c9], _ =>
    have h0 : Rd enc Tryz.prog W 77 (List.take (Tryz.prog.cellsOf 77) (List.drop 0 [c0, c1, c2, c3, c4, c5, c6, c7, c8, c9])) := hf 0 _ rfl
    have h1 : Rd enc Tryz.prog W 78 (List.take (Tryz.prog.cellsOf 78) (List.drop 1 [c0, c1, c2, c3, c4, c5, c6, c7, c8, c9])) := hf 1 _ rfl
    have h2 : Rd enc Tryz.prog W 9 (List.take (Tryz.prog.cellsOf 9) (List.drop 2 [c0, c1, c2, c3, c4, c5, c6, c7, c8, c9])) := hf 2 _ rfl
    have h3 : Rd enc Tryz.prog W 9 (List.take (Tryz.prog.cellsOf 9) (List.drop 3 [c0, c1, c2, c3, c4, c5, c6, c7, c8, c9])) := hf 3 _ rfl
    have h4 : Rd enc Tryz.prog W 9 (List.take (Tryz.prog.cellsOf 9) (List.drop 4 [c0, c1, c2, c3, c4, c5, c6, c7, c8, c9])) := hf 4 _ rfl
    have h5 : Rd enc Tryz.prog W 3 (List.take (Tryz.prog.cellsOf 3) (List.drop 5 [c0, c1, c2, c3, c4, c5, c6, c7, c8, c9])) := hf 5 _ rfl
    have h6 : Rd enc Tryz.prog W 23 (List.take (Tryz.prog.cellsOf 23) (List.drop 6 [c0, c1, c2, c3, c4, c5, c6, c7, c8, c9])) := hf 6 _ rfl
    have h7 : Rd enc Tryz.prog W 79 (List.take (Tryz.prog.cellsOf 79) (List.drop 9 [c0, c1, c2, c3, c4, c5, c6, c7, c8, c9])) := hf 7 _ rfl
    simp only [show Tryz.prog.cellsOf 77 = 1 by kernel_rfl, show Tryz.prog.cellsOf 78 = 1 by kernel_rfl, show Tryz.prog.cellsOf 9 = 1 by kernel_rfl, show Tryz.prog.cellsOf 3 = 1 by kernel_rfl, show Tryz.prog.cellsOf 23 = 3 by kernel_rfl, show Tryz.prog.cellsOf 79 = 1 by kernel_rfl,
      List.drop_succ_cons, List.drop_zero, List.take_succ_cons, List.take_zero] at h0 h1 h2 h3 h4 h5 h6 h7
    obtain ⟨tb, rfl, _, _⟩ := rd_i64 Tryz.underlying77 h0
    obtain ⟨kd, rfl, _, _⟩ := rd_i64 Tryz.underlying78 h1
    obtain ⟨key, e2, k2⟩ := rd_string Tryz.underlying9 h2
    obtain ⟨fin, e3, k3⟩ := rd_string Tryz.underlying9 h3
    obtain ⟨val, e4, k4⟩ := rd_string Tryz.underlying9 h4
    obtain ⟨ex, rfl, _, _⟩ := rd_i64 Tryz.underlying3 h5
    obtain ⟨s, e6, _⟩ := rd_stp h6
    obtain ⟨ao, cap, l, e7, hlst, _⟩ := rd_lst (α := Stp) (sz := 3) (en := enS) (good := fun _ => True) Tryz.underlying79 (by kernel_rfl) (by decide) (fun cs h => rd_stp h) h7
    unfold enS at e6
    cases e2; cases e3; cases e4; cases e6; cases e7
    exact ⟨(⟨tb, kd, key, fin, val, ex, s, l⟩, .slice ao l.length cap), rfl, ⟨hlst, ZN.came hlst hN⟩, ⟨k2, k3, k4⟩⟩
theorem arg_muts {H : Type} {enc : TypeId × Value → H} {W : World} {v : Value} (h : Arg enc Tryz.prog W 32 v) (hN : W.heap.size ≤ (default : Lim).n := by exact Nat.le_refl _) : ∃ R : List Ro, MRow W v R ∧ ∀ x ∈ R, Sizes x.1 := by
  obtain ⟨ao, cap, l, rfl, h2, -, h4⟩ := arg_lst (α := Ro) (en := enM) (good := fun x => Over W x ∧ Sizes x.1) Tryz.underlying32 (show Tryz.prog.cellsOf 81 = 10 by kernel_rfl) (by decide) (fun cs hr => rd_mut hr hN) h
  exact ⟨l, ⟨h2, fun x hx => (h4 x hx).1⟩, fun x hx => (h4 x hx).2⟩
theorem arg_mut {H : Type} {enc : TypeId × Value → H} {W : World} {v : Value} (h : Arg enc Tryz.prog W 81 v) (hN : W.heap.size ≤ (default : Lim).n := by exact Nat.le_refl _) : ∃ x : Ro, v = vM x ∧ Over W x ∧ Sizes x.1 := by
  obtain ⟨cs, rfl, hr⟩ := arg_agg Tryz.underlying81 h
  obtain ⟨x, rfl, hx⟩ := rd_mut hr hN
  exact ⟨x, by rw [vM_eq], hx⟩
theorem arg_stp {H : Type} {enc : TypeId × Value → H} {W : World} {v : Value} (h : Arg enc Tryz.prog W 23 v) : ∃ s : Stp, v = .agg #[.int .i64 s.p, .int .i64 s.l, .int .i64 s.w] := by
  obtain ⟨cs, rfl, hr⟩ := arg_agg Tryz.underlying23 h
  obtain ⟨s, rfl, -⟩ := rd_stp hr
  exact ⟨s, rfl⟩
end Go.Proofs.YthdbilggnjjkhaaGreatDoor.Mut

namespace Go.Proofs.YthdbilggnjjkhaaGreatDoor.Mut
open Go.ChangeShapes Go.WideShapes Go.ChangeAt Go.RowKit Go.Deep Go.Proofs.YthdbilggnjjkhaaGreatDoor.Kit Go.Proofs.YthdbilggnjjkhaaGreatDoor.Ord
set_option linter.unusedSectionVars false
variable [Inhabited Lim]

structure Td where
  v : Value
  l : List Ro
  f : Stp
  q : Bool
instance : Inhabited Td := ⟨⟨.slice none 0 0, [], ⟨0, 0, 0⟩, false⟩⟩
def enT (x : Td) : List Value := [x.v, .int .i64 x.f.p, .int .i64 x.f.l, .int .i64 x.f.w, .bool x.q]
theorem enT_len (x : Td) : (enT x).length = 5 := rfl
structure TRow (w : World) (v : Value) (T : List Td) : Prop where
  row : Lst 5 enT w v T
  ro : ∀ x ∈ T, MRow w x.v x.l
def TSizes (T : List Td) : Prop := ∀ x ∈ T, ∀ y ∈ x.l, Sizes y.1
theorem TRow.below {w w' : World} {v : Value} {T : List Td} (h : TRow w v T) (hb : RowKit.Below w.heap.size w w') : TRow w' v T := ⟨Lst.below h.row hb, fun x hx => MRow.below (h.ro x hx) hb⟩
theorem TRow.form {w : World} {v : Value} {T : List Td} (h : TRow w v T) : ∃ ao cap, v = .slice ao T.length cap ∧ T.length ≤ cap ∧ cap ≤ maxLen := Lst.form h.row
theorem TRow.get {w : World} {ao : Option Addr} {n cap : Nat} {T : List Td} (h : TRow w (.slice ao n cap) T) {k : Nat} (hk : k < T.length) :
    ∃ b off, ao = some ⟨b, off, none⟩ ∧ b < w.heap.size ∧ w.cell? ⟨b, off + k * 5, none⟩ = some T[k].v ∧
      w.cell? ⟨b, off + k * 5 + 1, none⟩ = some (.int .i64 T[k].f.p) ∧ w.cell? ⟨b, off + k * 5 + 2, none⟩ = some (.int .i64 T[k].f.l) ∧ w.cell? ⟨b, off + k * 5 + 3, none⟩ = some (.int .i64 T[k].f.w) ∧ w.cell? ⟨b, off + k * 5 + 4, none⟩ = some (.bool T[k].q) := by
  obtain ⟨b, off, e, h1, h2⟩ := Lst.get h.row hk
  exact ⟨b, off, e, h1, h2 0 (by omega), h2 1 (by omega), h2 2 (by omega), h2 3 (by omega), h2 4 (by omega)⟩

set_option maxRecDepth 100000 in
theorem rd_told {H : Type} {enc : TypeId × Value → H} {W : World} {cs : List Value} (h : Rd enc Tryz.prog W 34 cs) (hN : W.heap.size ≤ (default : Lim).n) : ∃ x : Td, cs = enT x ∧ (MRow W x.v x.l ∧ ∀ y ∈ x.l, Sizes y.1) := by
  obtain ⟨hl, hf⟩ := rd_struct Tryz.underlying34 h
  rw [show Tryz.prog.cellsOf 34 = 5 by kernel_rfl] at hl
  match cs, hl with
  | [c0, c1, c2, c3, c4], _ =>
    have h0 : Rd enc Tryz.prog W 32 (List.take (Tryz.prog.cellsOf 32) (List.drop 0 [c0, c1, c2, c3, c4])) := hf 0 _ rfl
    have h1 : Rd enc Tryz.prog W 23 (List.take (Tryz.prog.cellsOf 23) (List.drop 1 [c0, c1, c2, c3, c4])) := hf 1 _ rfl
    have h2 : Rd enc Tryz.prog W 4 (List.take (Tryz.prog.cellsOf 4) (List.drop 4 [c0, c1, c2, c3, c4])) := hf 2 _ rfl
    simp only [show Tryz.prog.cellsOf 32 = 1 by kernel_rfl, show Tryz.prog.cellsOf 23 = 3 by kernel_rfl, show Tryz.prog.cellsOf 4 = 1 by kernel_rfl,
      List.drop_succ_cons, List.drop_zero, List.take_succ_cons, List.take_zero] at h0 h1 h2
    obtain ⟨ao, cap, l, e0, hlst, hg⟩ := rd_lst (α := Ro) (sz := 10) (en := enM) (good := fun x => Over W x ∧ Sizes x.1) Tryz.underlying32 (by kernel_rfl) (by decide) (fun cs h => rd_mut h hN) h0
    obtain ⟨s, e1, _⟩ := rd_stp h1
    obtain ⟨q, e2⟩ := rd_bool Tryz.underlying4 h2
    unfold enS at e1
    cases e0; cases e1; cases e2
    exact ⟨⟨.slice ao l.length cap, l, s, q⟩, rfl, ⟨hlst, fun x hx => (hg x hx).1⟩, fun x hx => (hg x hx).2⟩
theorem arg_tolds {H : Type} {enc : TypeId × Value → H} {W : World} {v : Value} (h : Arg enc Tryz.prog W 38 v) (hN : W.heap.size ≤ (default : Lim).n := by exact Nat.le_refl _) : ∃ T : List Td, TRow W v T ∧ TSizes T := by
  obtain ⟨ao, cap, l, rfl, h2, -, h4⟩ := arg_lst (α := Td) (en := enT) (good := fun x => MRow W x.v x.l ∧ ∀ y ∈ x.l, Sizes y.1) Tryz.underlying38 (show Tryz.prog.cellsOf 34 = 5 by kernel_rfl) (by decide) (fun cs hr => rd_told hr hN) h
  exact ⟨l, ⟨h2, fun x hx => (h4 x hx).1⟩, fun x hx => (h4 x hx).2⟩
def great25 (T : List Td) : Bool := decide (6 < T.length) || T.any fun x => greatF (x.l.map (·.1)) 15
theorem great25_small {T : List Td} (h : great25 T = false) : T.length ≤ 6 ∧ ∀ x ∈ T, (x.l.map (·.1)).length ≤ 15 ∧ ∀ m ∈ x.l.map (·.1), Small m := by
  unfold great25 at h
  simp only [Bool.or_eq_false_iff, decide_eq_false_iff_not, List.any_eq_false] at h
  exact ⟨by omega, fun x hx => great_small (by simpa using h.2 x hx)⟩
end Go.Proofs.YthdbilggnjjkhaaGreatDoor.Mut

namespace Go.Proofs.YthdbilggnjjkhaaGreatDoor.Mut
open Go.ChangeShapes Go.WideShapes Go.ChangeAt Go.RowKit Go.Deep Go.Proofs.YthdbilggnjjkhaaGreatDoor.Kit Go.Proofs.YthdbilggnjjkhaaGreatDoor.Ord
set_option linter.unusedSectionVars false
variable [Inhabited Lim]

/-- A call: its kind, the node, the tick, an error, a report's Told. -/
structure RpOp where
  k : Int
  n : Int
  t : Int
  y : Int
  r : Td
instance : Inhabited RpOp := ⟨⟨0, 0, 0, 0, default⟩⟩
def enRO (x : RpOp) : List Value := [.int .i64 x.k, .int .i64 x.n, .int .i64 x.t, .int .i64 x.y, x.r.v, .int .i64 x.r.f.p, .int .i64 x.r.f.l, .int .i64 x.r.f.w, .bool x.r.q]
theorem enRO_len (x : RpOp) : (enRO x).length = 9 := rfl
structure RORow (w : World) (v : Value) (T : List RpOp) : Prop where
  row : Lst 9 enRO w v T
  ro : ∀ x ∈ T, MRow w x.r.v x.r.l
theorem RORow.below {w w' : World} {v : Value} {T : List RpOp} (h : RORow w v T) (hb : RowKit.Below w.heap.size w w') : RORow w' v T := ⟨Lst.below h.row hb, fun x hx => MRow.below (h.ro x hx) hb⟩
theorem RORow.form {w : World} {v : Value} {T : List RpOp} (h : RORow w v T) : ∃ ao cap, v = .slice ao T.length cap ∧ T.length ≤ cap ∧ cap ≤ maxLen := Lst.form h.row
def Nd (x : Int) : Prop := -9223372036854775808 ≤ x ∧ x ≤ 9223372036854775807
def ROSizes (T : List RpOp) : Prop := ∀ x ∈ T, (∀ y ∈ x.r.l, Sizes y.1) ∧ Nd x.n

set_option maxRecDepth 100000 in
theorem rd_rpop {H : Type} {enc : TypeId × Value → H} {W : World} {cs : List Value} (h : Rd enc Tryz.prog W 36 cs) (hN : W.heap.size ≤ (default : Lim).n) : ∃ x : RpOp, cs = enRO x ∧ (MRow W x.r.v x.r.l ∧ (∀ y ∈ x.r.l, Sizes y.1) ∧ Nd x.n) := by
  obtain ⟨hl, hf⟩ := rd_struct Tryz.underlying36 h
  rw [show Tryz.prog.cellsOf 36 = 9 by kernel_rfl] at hl
  match cs, hl with
  | [c0, c1, c2, c3, c4, c5, c6, c7, c8], _ =>
    have h0 : Rd enc Tryz.prog W 3 (List.take (Tryz.prog.cellsOf 3) (List.drop 0 [c0, c1, c2, c3, c4, c5, c6, c7, c8])) := hf 0 _ rfl
    have h1 : Rd enc Tryz.prog W 3 (List.take (Tryz.prog.cellsOf 3) (List.drop 1 [c0, c1, c2, c3, c4, c5, c6, c7, c8])) := hf 1 _ rfl
    have h2 : Rd enc Tryz.prog W 3 (List.take (Tryz.prog.cellsOf 3) (List.drop 2 [c0, c1, c2, c3, c4, c5, c6, c7, c8])) := hf 2 _ rfl
    have h3 : Rd enc Tryz.prog W 31 (List.take (Tryz.prog.cellsOf 31) (List.drop 3 [c0, c1, c2, c3, c4, c5, c6, c7, c8])) := hf 3 _ rfl
    have h4 : Rd enc Tryz.prog W 34 (List.take (Tryz.prog.cellsOf 34) (List.drop 4 [c0, c1, c2, c3, c4, c5, c6, c7, c8])) := hf 4 _ rfl
    simp only [show Tryz.prog.cellsOf 3 = 1 by kernel_rfl, show Tryz.prog.cellsOf 31 = 1 by kernel_rfl, show Tryz.prog.cellsOf 34 = 5 by kernel_rfl,
      List.drop_succ_cons, List.drop_zero, List.take_succ_cons, List.take_zero] at h0 h1 h2 h3 h4
    obtain ⟨k, e0, _⟩ := rd_i64 Tryz.underlying3 h0
    obtain ⟨n, e1, hn1, hn2⟩ := rd_i64 Tryz.underlying3 h1
    obtain ⟨t, e2, _⟩ := rd_i64 Tryz.underlying3 h2
    obtain ⟨y, e3, _⟩ := rd_i64 Tryz.underlying31 h3
    obtain ⟨r, e4, hr⟩ := rd_told h4 hN
    unfold enT at e4
    cases e0; cases e1; cases e2; cases e3; cases e4
    exact ⟨⟨k, n, t, y, r⟩, rfl, hr.1, hr.2, hn1, hn2⟩
theorem arg_rpops {H : Type} {enc : TypeId × Value → H} {W : World} {v : Value} (h : Arg enc Tryz.prog W 27 v) (hN : W.heap.size ≤ (default : Lim).n := by exact Nat.le_refl _) : ∃ T : List RpOp, RORow W v T ∧ ROSizes T := by
  obtain ⟨ao, cap, l, rfl, h2, -, h4⟩ := arg_lst (α := RpOp) (en := enRO) (good := fun x => MRow W x.r.v x.r.l ∧ (∀ y ∈ x.r.l, Sizes y.1) ∧ Nd x.n) Tryz.underlying27 (show Tryz.prog.cellsOf 36 = 9 by kernel_rfl) (by decide) (fun cs hr => rd_rpop hr hN) h
  exact ⟨l, ⟨h2, fun x hx => (h4 x hx).1⟩, fun x hx => (h4 x hx).2⟩
end Go.Proofs.YthdbilggnjjkhaaGreatDoor.Mut

namespace Go.Proofs.YthdbilggnjjkhaaGreatDoor.Rpr
open Go.ChangeShapes Go.WideShapes Go.ChangeAt Go.RowKit Go.Deep Go.Proofs.YthdbilggnjjkhaaGreatDoor.Kit Go.Proofs.YthdbilggnjjkhaaGreatDoor.Ints Go.Proofs.YthdbilggnjjkhaaGreatDoor.Mut
set_option linter.unusedSectionVars false
variable [Inhabited Lim]

set_option maxRecDepth 100000 in
theorem arg_start {H : Type} {enc : TypeId × Value → H} {W : World} {v : Value} (h : Arg enc Tryz.prog W 26 v) :
    ∃ (se : Stp) (now : Int) (no : Option Addr) (nc : Nat) (L : List Int), v = .agg #[.int .i64 se.p, .int .i64 se.l, .int .i64 se.w, .int .i64 now, .slice no (List.length L) nc] ∧ IRow W (.slice no (List.length L) nc) L ∧ ∀ x ∈ L, Nd x := by
  obtain ⟨cs, rfl, hr⟩ := arg_agg Tryz.underlying26 h
  obtain ⟨hl, hf⟩ := rd_struct Tryz.underlying26 hr
  rw [show Tryz.prog.cellsOf 26 = 5 by kernel_rfl] at hl
  match cs, hl with
  | [c0, c1, c2, c3, c4], _ =>
    have h0 : Rd enc Tryz.prog W 23 (List.take (Tryz.prog.cellsOf 23) (List.drop 0 [c0, c1, c2, c3, c4])) := hf 0 _ rfl
    have h1 : Rd enc Tryz.prog W 3 (List.take (Tryz.prog.cellsOf 3) (List.drop 3 [c0, c1, c2, c3, c4])) := hf 1 _ rfl
    have h2 : Rd enc Tryz.prog W 24 (List.take (Tryz.prog.cellsOf 24) (List.drop 4 [c0, c1, c2, c3, c4])) := hf 2 _ rfl
    simp only [show Tryz.prog.cellsOf 24 = 1 by kernel_rfl, show Tryz.prog.cellsOf 23 = 3 by kernel_rfl, show Tryz.prog.cellsOf 3 = 1 by kernel_rfl,
      List.drop_succ_cons, List.drop_zero, List.take_succ_cons, List.take_zero] at h0 h1 h2
    obtain ⟨s, e0, _⟩ := rd_stp h0
    obtain ⟨now, e1, _⟩ := rd_i64 Tryz.underlying3 h1
    obtain ⟨no, nc, L, e2, hL, hg⟩ := rd_lst (α := Int) (sz := 1) (en := enI) (good := Nd) Tryz.underlying24 (by kernel_rfl) (by decide) (fun cs h => by
      obtain ⟨a, hc, hw⟩ := rd_int Tryz.underlying3 h
      exact ⟨a, hc, bounds_i64 hw⟩) h2
    unfold enS at e0
    cases e0; cases e1; cases e2
    exact ⟨s, now, no, nc, L, rfl, hL, hg⟩
end Go.Proofs.YthdbilggnjjkhaaGreatDoor.Rpr
