/- Rows of mutations as arguments. -/
import Derived.Test.YtmjelcjdfamikaaGreatDoorKitLaid
import Derived.Test.YtmjelcjdfamikaaGreatDoorArgLst
import Derived.Test.YtmjelcjdfamikaaGreatDoorConMore
set_option linter.unusedSimpArgs false
set_option linter.unusedVariables false
namespace Go.Proofs.YtmjelcjdfamikaaGreatDoor.Mut
open Go.ChangeShapes Go.WideShapes Go.ChangeAt Go.RowKit Go.Deep Go.Proofs.YtmjelcjdfamikaaGreatDoor.Kit Go.Proofs.YtmjelcjdfamikaaGreatDoor.Ord
set_option linter.unusedSectionVars false
variable [Inhabited Lim]

theorem rd_lst {H : Type} {enc : TypeId × Value → H} {P : Program} {W : World} {α : Type} [Inhabited α] {t e : TypeId} {sz : Nat} {en : α → List Value} {good : α → Prop} {cs : List Value} (ht : P.underlying t = some (.slice e)) (hC : P.cellsOf e = sz) (hsz : 0 < sz)
    (hrd : ∀ cs, Rd enc P W e cs → ∃ x, cs = en x ∧ good x) (h : Rd enc P W t cs) : ∃ ao cap l, cs = [.slice ao (List.length l) cap] ∧ Lst sz en W (.slice ao (List.length l) cap) l ∧ ∀ x ∈ l, good x := by
  rcases rd_slice ht h with rfl | ⟨a, len, cap, rfl, hl, hc, hel⟩
  · exact ⟨none, 0, [], rfl, Lst.nil _, by simp⟩
  rcases cells_slice (by rw [hC]; omega) hl hc (Or.inr ⟨a, rfl, hel⟩) with h0 | ⟨b, off, F, h1, h2, h3, h4, h5, h6⟩
  · subst h0
    exact ⟨some a, cap, [], rfl, ⟨some a, cap, rfl, by simp, hc, Or.inl rfl⟩, by simp⟩
  · cases h1
    rw [hC] at h6
    obtain ⟨q, hq⟩ := choose_lt' (α := α) (n := len) (p := fun i x => F i = en x ∧ good x) (fun i hi => hrd _ (h6 i (by omega)).2.1)
    have hn : ((List.range len).map q).length = len := by simp
    refine ⟨_, cap, (List.range len).map q, by rw [hn], ⟨_, cap, rfl, by rw [hn]; exact hl, hc, Or.inr ⟨b, off, rfl, h5, fun i x hi j hj => ?_⟩⟩, fun x hx => ?_⟩
    · have hlt : i < len := by have := (List.getElem?_eq_some_iff.1 hi).1; simpa using this
      have hx : q i = x := by simpa [hlt] using hi
      rw [(h6 i (by omega)).2.2 j hj, (hq i hlt).1, hx]
    · obtain ⟨i, hi, rfl⟩ := List.mem_map.1 hx
      exact (hq i (List.mem_range.1 hi)).2

instance : Inhabited Stp := ⟨⟨0, 0, 0⟩⟩
instance : Inhabited Mu := ⟨⟨0, 0, ByteArray.empty, ByteArray.empty, ByteArray.empty, 0, ⟨0, 0, 0⟩, []⟩⟩
instance : Inhabited Ro := ⟨default, .slice none 0 0⟩
structure Sizes (m : Mu) : Prop where
  key : m.key.size ≤ maxLen
  fin : m.fin.size ≤ maxLen
  val : m.val.size ≤ maxLen
theorem rd_stp {H : Type} {enc : TypeId × Value → H} {W : World} {cs : List Value} (h : Rd enc Tryz.prog W 37 cs) : ∃ s : Stp, cs = enS s ∧ True := by
  obtain ⟨v0, v1, v2, rfl, r0, r1, r2⟩ := rd_struct3 Tryz.underlying37 (by kernel_rfl) (by kernel_rfl) h
  obtain ⟨a, rfl, _, _⟩ := rd_i64 Tryz.underlying3 r0
  obtain ⟨b, rfl, _, _⟩ := rd_i64 Tryz.underlying3 r1
  obtain ⟨c, rfl, _, _⟩ := rd_i64 Tryz.underlying3 r2
  exact ⟨⟨a, b, c⟩, rfl, trivial⟩
theorem fields_M : Tryz.prog.underlying 40 = some (.struct (Tryz.prog.fieldsOf 40)) := by unfold Program.fieldsOf; rw [Tryz.underlying40]
set_option maxRecDepth 100000 in
set_option maxHeartbeats 1000000 in
theorem rd_mut {H : Type} {enc : TypeId × Value → H} {W : World} {cs : List Value} (h : Rd enc Tryz.prog W 40 cs) (hN : W.heap.size ≤ (default : Lim).n) : ∃ x : Ro, cs = enM x ∧ (Over W x ∧ Sizes x.1) := by
  obtain ⟨hl, hf⟩ := rd_struct Tryz.underlying40 h
  rw [show Tryz.prog.cellsOf 40 = 10 by kernel_rfl] at hl
  match cs, hl with
  | [c0, c1, c2, c3, c4, c5, c6, c7, c8, c9], _ =>
    have h0 : Rd enc Tryz.prog W 34 (List.take (Tryz.prog.cellsOf 34) (List.drop 0 [c0, c1, c2, c3, c4, c5, c6, c7, c8, c9])) := hf 0 _ rfl
    have h1 : Rd enc Tryz.prog W 35 (List.take (Tryz.prog.cellsOf 35) (List.drop 1 [c0, c1, c2, c3, c4, c5, c6, c7, c8, c9])) := hf 1 _ rfl
    have h2 : Rd enc Tryz.prog W 9 (List.take (Tryz.prog.cellsOf 9) (List.drop 2 [c0, c1, c2, c3, c4, c5, c6, c7, c8, c9])) := hf 2 _ rfl
    have h3 : Rd enc Tryz.prog W 9 (List.take (Tryz.prog.cellsOf 9) (List.drop 3 [c0, c1, c2, c3, c4, c5, c6, c7, c8, c9])) := hf 3 _ rfl
    have h4 : Rd enc Tryz.prog W 9 (List.take (Tryz.prog.cellsOf 9) (List.drop 4 [c0, c1, c2, c3, c4, c5, c6, c7, c8, c9])) := hf 4 _ rfl
    have h5 : Rd enc Tryz.prog W 3 (List.take (Tryz.prog.cellsOf 3) (List.drop 5 [c0, c1, c2, c3, c4, c5, c6, c7, c8, c9])) := hf 5 _ rfl
    have h6 : Rd enc Tryz.prog W 37 (List.take (Tryz.prog.cellsOf 37) (List.drop 6 [c0, c1, c2, c3, c4, c5, c6, c7, c8, c9])) := hf 6 _ rfl
    have h7 : Rd enc Tryz.prog W 38 (List.take (Tryz.prog.cellsOf 38) (List.drop 9 [c0, c1, c2, c3, c4, c5, c6, c7, c8, c9])) := hf 7 _ rfl
    simp only [show Tryz.prog.cellsOf 34 = 1 by kernel_rfl, show Tryz.prog.cellsOf 35 = 1 by kernel_rfl, show Tryz.prog.cellsOf 9 = 1 by kernel_rfl, show Tryz.prog.cellsOf 3 = 1 by kernel_rfl, show Tryz.prog.cellsOf 37 = 3 by kernel_rfl, show Tryz.prog.cellsOf 38 = 1 by kernel_rfl,
      List.drop_succ_cons, List.drop_zero, List.take_succ_cons, List.take_zero] at h0 h1 h2 h3 h4 h5 h6 h7
    obtain ⟨tb, rfl, _, _⟩ := rd_i64 Tryz.underlying34 h0
    obtain ⟨kd, rfl, _, _⟩ := rd_i64 Tryz.underlying35 h1
    obtain ⟨key, e2, k2⟩ := rd_string Tryz.underlying9 h2
    obtain ⟨fin, e3, k3⟩ := rd_string Tryz.underlying9 h3
    obtain ⟨val, e4, k4⟩ := rd_string Tryz.underlying9 h4
    obtain ⟨ex, rfl, _, _⟩ := rd_i64 Tryz.underlying3 h5
    obtain ⟨s, e6, _⟩ := rd_stp h6
    obtain ⟨ao, cap, l, e7, hlst, _⟩ := rd_lst (α := Stp) (sz := 3) (en := enS) (good := fun _ => True) Tryz.underlying38 (by kernel_rfl) (by decide) (fun cs h => rd_stp h) h7
    unfold enS at e6
    cases e2; cases e3; cases e4; cases e6; cases e7
    exact ⟨(⟨tb, kd, key, fin, val, ex, s, l⟩, .slice ao l.length cap), rfl, ⟨hlst, ZN.came hlst hN⟩, ⟨k2, k3, k4⟩⟩
theorem arg_muts {H : Type} {enc : TypeId × Value → H} {W : World} {v : Value} (h : Arg enc Tryz.prog W 22 v) (hN : W.heap.size ≤ (default : Lim).n := by exact Nat.le_refl _) : ∃ R : List Ro, MRow W v R ∧ ∀ x ∈ R, Sizes x.1 := by
  obtain ⟨ao, cap, l, rfl, h2, -, h4⟩ := arg_lst (α := Ro) (en := enM) (good := fun x => Over W x ∧ Sizes x.1) Tryz.underlying22 (show Tryz.prog.cellsOf 40 = 10 by kernel_rfl) (by decide) (fun cs hr => rd_mut hr hN) h
  exact ⟨l, ⟨h2, fun x hx => (h4 x hx).1⟩, fun x hx => (h4 x hx).2⟩
theorem arg_mut {H : Type} {enc : TypeId × Value → H} {W : World} {v : Value} (h : Arg enc Tryz.prog W 40 v) (hN : W.heap.size ≤ (default : Lim).n := by exact Nat.le_refl _) : ∃ x : Ro, v = vM x ∧ Over W x ∧ Sizes x.1 := by
  obtain ⟨cs, rfl, hr⟩ := arg_agg Tryz.underlying40 h
  obtain ⟨x, rfl, hx⟩ := rd_mut hr hN
  exact ⟨x, by rw [vM_eq], hx⟩
theorem arg_stp {H : Type} {enc : TypeId × Value → H} {W : World} {v : Value} (h : Arg enc Tryz.prog W 37 v) : ∃ s : Stp, v = .agg #[.int .i64 s.p, .int .i64 s.l, .int .i64 s.w] := by
  obtain ⟨cs, rfl, hr⟩ := arg_agg Tryz.underlying37 h
  obtain ⟨s, rfl, -⟩ := rd_stp hr
  exact ⟨s, rfl⟩
end Go.Proofs.YtmjelcjdfamikaaGreatDoor.Mut
