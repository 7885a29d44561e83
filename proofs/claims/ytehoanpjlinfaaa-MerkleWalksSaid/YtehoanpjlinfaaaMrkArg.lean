/- An array of 32 sums that came in (layer 24). -/
import Derived.Test.YtehoanpjlinfaaaKit
import Derived.Test.YtehoanpjlinfaaaArgLst
import Derived.Test.YtehoanpjlinfaaaMrkLaw
import Derived.Lib.LaidTab
namespace Go.Proofs.Ytehoanpjlinfaaa.Mrk
open Go.ChangeShapes Go.WideShapes Go.ChangeAt Go.RowKit Go.Deep Go.Proofs.Ytehoanpjlinfaaa.Kit

theorem rd_array {H : Type} {enc : TypeId × Value → H} {P : Program} {w : World} {t e : TypeId} {n : Nat} {cs : List Value} (ht : P.underlying t = some (.array n e)) (h : Rd enc P w t cs) :
    ∀ i, i < n → Rd enc P w e ((cs.drop (i * P.cellsOf e)).take (P.cellsOf e)) := by
  obtain ⟨fuel, x, h⟩ := h
  intro i hi
  cases fuel with
  | zero => simp [DataW.trod] at h
  | succ fuel =>
    simp only [DataW.trod, ht] at h
    split at h
    · obtain ⟨xs, hm, hx⟩ := Option.map_eq_some_iff.1 h
      obtain ⟨b, hb, hf⟩ := Lib.mapM_at hm i i (by simp [hi])
      exact ⟨fuel, b, hf⟩
    · cases h

theorem arg_tree {H : Type} {enc : TypeId × Value → H} {P : Program} {w : World} {t e : TypeId} {v : Value} (ht : P.underlying t = some (.array 32 e)) (he : P.underlying e = some (.int .u64)) (hc : P.cellsOf e = 1) (hct : P.cellsOf t = 32)
    (h : Arg enc P w t v) : ∃ a, v = .agg (vT a) ∧ Wide a := by
  obtain ⟨⟨r, b0, hv⟩, hr⟩ := h
  simp only [Value.okWide, ht] at hv
  obtain ⟨cs, rfl, hsz, _⟩ := hv
  rw [hct] at hsz
  have hel := rd_array ht hr
  rw [hc] at hel
  obtain ⟨f, hf⟩ := choose_lt' (α := Int) (n := 32) (p := fun i x => ((Value.agg cs).cells.toList.drop (i * 1)).take 1 = [.int .u64 x] ∧ 0 ≤ x ∧ x < 18446744073709551616) (fun i hi => by
    obtain ⟨x, h1, h2⟩ := rd_int he (hel i hi)
    refine ⟨x, h1, ?_⟩
    simp [Lit.wf, IntKind.min, IntKind.max, IntKind.bits, IntKind.signed] at h2
    omega)
  refine ⟨fun i => (f i).toNat, ?_, fun i hi => by have := (hf i hi).2; show (f i).toNat < _; omega⟩
  congr 1
  apply Array.ext_getElem?
  intro i
  by_cases hi : i < 32
  · obtain ⟨h1, h2, h3⟩ := hf i hi
    have h4 : (Value.agg cs).cells.toList[i]? = some (.int .u64 (f i)) := by
      have := congrArg (·[0]?) h1
      simpa [List.getElem?_take, List.getElem?_drop] using this
    have h5 : cs[i]? = some (.int .u64 (f i)) := by simpa [Value.cells] using h4
    rw [h5]
    simp [vT, lT, hi]
    omega
  · rw [Array.getElem?_eq_none (by omega), Array.getElem?_eq_none (by rw [vT_size]; omega)]
end Go.Proofs.Ytehoanpjlinfaaa.Mrk
