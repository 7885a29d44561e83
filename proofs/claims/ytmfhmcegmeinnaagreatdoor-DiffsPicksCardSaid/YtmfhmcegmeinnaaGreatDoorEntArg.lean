/- A row of entries as an argument; the law for all rows. -/
import Derived.Test.YtmfhmcegmeinnaaGreatDoorKit
import Derived.Test.YtmfhmcegmeinnaaGreatDoorEntJoin
set_option linter.unusedSimpArgs false
set_option linter.unusedVariables false
namespace Go.Proofs.YtmfhmcegmeinnaaGreatDoor.Diffs
open Go.ChangeShapes Go.WideShapes Go.ChangeAt Go.RowKit Go.Deep Go.Proofs.YtmfhmcegmeinnaaGreatDoor.Kit

instance : Inhabited Ent := ⟨⟨.empty, 0, 0, 0⟩⟩
section
variable {H : Type} {enc : TypeId × Value → H} {W : World}
set_option maxRecDepth 100000 in
theorem rd_ent {cs : List Value} (h : Rd enc Tryz.prog W 72 cs) : ∃ e : Ent, cs = enE e := by
  obtain ⟨hl, hf⟩ := rd_struct Tryz.underlying72 h
  rw [show Tryz.prog.cellsOf 72 = 4 from by kernel_rfl] at hl
  match cs, hl with
  | [v0, v1, v2, v3], _ =>
    have h0 : Rd enc Tryz.prog W 9 (([v0, v1, v2, v3].drop 0).take (Tryz.prog.cellsOf 9)) := hf 0 _ rfl
    have h1 : Rd enc Tryz.prog W 43 (([v0, v1, v2, v3].drop 1).take (Tryz.prog.cellsOf 43)) := hf 1 _ rfl
    have c0 : Tryz.prog.cellsOf 9 = 1 := by kernel_rfl
    have c1 : Tryz.prog.cellsOf 43 = 3 := by kernel_rfl
    rw [c0] at h0
    rw [c1] at h1
    replace h0 : Rd enc Tryz.prog W 9 [v0] := h0
    replace h1 : Rd enc Tryz.prog W 43 [v1, v2, v3] := h1
    obtain ⟨k, e0, -⟩ := rd_string Tryz.underlying9 h0
    obtain ⟨u0, u1, u2, e1, r0, r1, r2⟩ := rd_struct3 Tryz.underlying43 (by kernel_rfl) c1 h1
    obtain ⟨p, rfl, _, _⟩ := rd_i64 Tryz.underlying3 r0
    obtain ⟨l, rfl, _, _⟩ := rd_i64 Tryz.underlying3 r1
    obtain ⟨q, rfl, _, _⟩ := rd_i64 Tryz.underlying3 r2
    cases e0
    cases e1
    exact ⟨⟨k, p, l, q⟩, rfl⟩

theorem arg_row {v : Value} (h : Arg enc Tryz.prog W 65 v) : ∃ ao cap l, v = .slice ao (List.length l) cap ∧ ERow W v l := by
  have hC : Tryz.prog.cellsOf 72 = 4 := by kernel_rfl
  rcases arg_slice Tryz.underlying65 h with rfl | ⟨a, len, cap, rfl, hl, hc, hel⟩
  · exact ⟨none, 0, [], rfl, Lst.nil _⟩
  rcases cells_slice (by rw [hC]; omega) hl hc (Or.inr ⟨a, rfl, hel⟩) with h0 | ⟨b, off, F, h1, h2, h3, h4, h5, h6⟩
  · subst h0
    exact ⟨some a, cap, [], rfl, ⟨some a, cap, rfl, by simp, hc, Or.inl rfl⟩⟩
  · cases h1
    rw [hC] at h6
    obtain ⟨q, hq⟩ := choose_lt (α := Ent) (n := len) (p := fun i e => F i = enE e) (fun i hi => rd_ent (h6 i (by omega)).2.1)
    have hn : ((List.range len).map q).length = len := by simp
    refine ⟨_, cap, (List.range len).map q, by rw [hn], ⟨_, cap, by rw [hn], by rw [hn]; exact hl, hc, Or.inr ⟨b, off, rfl, h5, fun i x hi j hj => ?_⟩⟩⟩
    have hlt : i < len := by have := (List.getElem?_eq_some_iff.1 hi).1; simpa using this
    have hx : q i = x := by simpa [hlt] using hi
    rw [(h6 i (by omega)).2.2 j hj, hq i hlt, hx]
end

end Go.Proofs.YtmfhmcegmeinnaaGreatDoor.Diffs
