/- A row of entries as an argument; the law for all rows. -/
import Derived.Test.YtehcndjpckolmaaKit
import Derived.Test.YtehcndjpckolmaaEntJoin
namespace Go.Proofs.Ytehcndjpckolmaa.Diffs
open Go.ChangeShapes Go.WideShapes Go.ChangeAt Go.RowKit Go.Deep Go.Proofs.Ytehcndjpckolmaa.Kit

instance : Inhabited Ent := ⟨⟨.empty, 0, 0, 0⟩⟩
section
variable {H : Type} {enc : TypeId × Value → H} {W : World}
set_option maxRecDepth 100000 in
theorem rd_ent {cs : List Value} (h : Rd enc Try.prog W 27 cs) : ∃ e : Ent, cs = enE e := by
  obtain ⟨hl, hf⟩ := rd_struct Try.underlying27 h
  rw [show Try.prog.cellsOf 27 = 4 from by kernel_rfl] at hl
  match cs, hl with
  | [v0, v1, v2, v3], _ =>
    have h0 : Rd enc Try.prog W 9 (([v0, v1, v2, v3].drop 0).take (Try.prog.cellsOf 9)) := hf 0 _ rfl
    have h1 : Rd enc Try.prog W 25 (([v0, v1, v2, v3].drop 1).take (Try.prog.cellsOf 25)) := hf 1 _ rfl
    have c0 : Try.prog.cellsOf 9 = 1 := by kernel_rfl
    have c1 : Try.prog.cellsOf 25 = 3 := by kernel_rfl
    rw [c0] at h0
    rw [c1] at h1
    replace h0 : Rd enc Try.prog W 9 [v0] := h0
    replace h1 : Rd enc Try.prog W 25 [v1, v2, v3] := h1
    obtain ⟨k, e0, -⟩ := rd_string Try.underlying9 h0
    obtain ⟨u0, u1, u2, e1, r0, r1, r2⟩ := rd_struct3 Try.underlying25 (by kernel_rfl) c1 h1
    obtain ⟨p, rfl, _, _⟩ := rd_i64 Try.underlying3 r0
    obtain ⟨l, rfl, _, _⟩ := rd_i64 Try.underlying3 r1
    obtain ⟨q, rfl, _, _⟩ := rd_i64 Try.underlying3 r2
    cases e0
    cases e1
    exact ⟨⟨k, p, l, q⟩, rfl⟩

theorem arg_row {v : Value} (h : Arg enc Try.prog W 22 v) : ∃ ao cap l, v = .slice ao (List.length l) cap ∧ ERow W v l := by
  have hC : Try.prog.cellsOf 27 = 4 := by kernel_rfl
  rcases arg_slice Try.underlying22 h with rfl | ⟨a, len, cap, rfl, hl, hc, hel⟩
  · exact ⟨none, 0, [], rfl, Lst.nil _⟩
  rcases cells_slice (by rw [hC]; omega) hl hc (Or.inr ⟨a, rfl, hel⟩) with h0 | ⟨b, off, F, h1, h2, h3, h4, h5, h6⟩
  · subst h0
    exact ⟨some a, cap, [], rfl, ⟨some a, cap, rfl, by simp, hc, Or.inl rfl⟩⟩
  · cases h1
    rw [hC] at h6
    obtain ⟨q, hq⟩ := choose_lt (α := Ent) (n := len) (p := fun i e => F i = enE e) (fun i hi => rd_ent (h6 i (by omega)).2.1)
    have hn : ((List.range len).map q).length = len := by simp
    refine ⟨_, cap, (List.range len).map q, by rw [hn], ⟨_, cap, by rw [hn], by rw [hn]; exact hl, hc, Or.inr ⟨b, off, rfl, h5, fun i x hi j hj => ?_⟩⟩⟩
    have hlt : i < len := by have := (List.getElem?_eq_some_iff.1 hi).1; simpa using this
    have hx : q i = x := by simpa [hlt] using hi
    rw [(h6 i (by omega)).2.2 j hj, hq i hlt, hx]
end

theorem diffsRows_any (ao bo : Option Addr) (ac bc : Nat) (a b : List Ent) (w : World) (ha : ERow w (.slice ao a.length ac) a) (hb : ERow w (.slice bo b.length bc) b) :
    Calls Try.prog 3 #[.slice ao a.length ac, .slice bo b.length bc] w fun e w' => e = .returned (.bool true) ∧ Below w.heap.size w w' := by
  by_cases h : 60 < a.length ∨ 60 < b.length
  · exact long_any ao bo ac bc _ _ w h
  · exact short_any ao bo ac bc a b w ha hb (by omega) (by omega)
end Go.Proofs.Ytehcndjpckolmaa.Diffs
