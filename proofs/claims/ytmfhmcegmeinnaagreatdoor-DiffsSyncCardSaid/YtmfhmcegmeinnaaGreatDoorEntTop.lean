/- The walks of rows of entries (layer 36): the law's alive, and the law. -/
import Derived.Test.YtmfhmcegmeinnaaGreatDoorEntPlain
set_option linter.unusedSimpArgs false
set_option linter.unusedVariables false
namespace Go.Proofs.YtmfhmcegmeinnaaGreatDoor.Diffs
open Go.RowKit Go.Proofs.YtmfhmcegmeinnaaGreatDoor.Cmp

theorem row_new (w : World) (t : TypeId) (l : List Ent) (vs : Array Value) (hv : vs = ⟨l.flatMap enE⟩) (hl : l.length ≤ maxLen) (H : Nat) (hH : w.heap.size = H) : ERow (w.alloc (.cells vs t)) (.slice (some ⟨H, 0, none⟩) l.length l.length) l := by
  subst hv
  subst hH
  refine ⟨_, _, rfl, Nat.le_refl _, hl, Or.inr ⟨w.heap.size, 0, rfl, by simp, fun i x hi j hj => ?_⟩⟩
  rw [← flatMap_get enE_len l i x hi j hj]
  have hlt : j < (enE x).length := by rw [enE_len]; exact hj
  have hu : (l.flatMap enE)[i * 4 + j]? = some (enE x)[j] := by rw [flatMap_get enE_len l i x hi j hj, List.getElem?_eq_getElem hlt]
  rw [hu]
  have := new_cells w (l.flatMap enE) t (i * 4 + j) _ hu
  have hadd : ∀ n k : Nat, (⟨n, 0, none⟩ : Addr).add k = ⟨n, k, none⟩ := fun n k => by unfold Addr.add; split <;> simp_all
  rw [hadd] at this
  rw [Nat.zero_add]
  exact this.trans (by rfl)

theorem equal_lit (q : Bool) (ao bo : Option Addr) (ac bc : Nat) (a b : List Ent) (w : World) (hq : eqR a b = q) (ha : ERow w (.slice ao a.length ac) a) (hb : ERow w (.slice bo b.length bc) b) (h1 : a.length ≤ 100000) (h2 : b.length ≤ 100000) :
    Calls Tryz.prog 32 #[.slice ao a.length ac, .slice bo b.length bc] w fun e w' => e = .returned (.bool q) ∧ Below w.heap.size w w' := by
  rw [← hq]; exact equal_any ao bo ac bc a b w ha hb h1 h2

def eA : Ent := ⟨⟨#[97]⟩, 1, 0, 0⟩
def eB : Ent := ⟨⟨#[98]⟩, 1, 0, 0⟩
def eC : Ent := ⟨⟨#[99]⟩, 1, 0, 0⟩
theorem alive_plain : walkF [eA, eB] [eB, eC] = ([eA], [eC], [eB]) := by
  have h : ∀ a b : List Ent, sortF a = true → sortF b = true → walkF a b = (lessF a b false, lessF b a false, lessF a b true) := fun a b h1 h2 => walkF_eq a b ((sortF_iff a).1 h1) ((sortF_iff b).1 h2)
  exact (h _ _ (by kernel_rfl) (by kernel_rfl)).trans (by kernel_rfl)

set_option maxRecDepth 100000 in
set_option maxHeartbeats 1000000 in
theorem alive_any (w : World) : Calls Tryz.prog 37 #[] w fun e w' => e = .returned (.bool true) ∧ Below w.heap.size w w' := by
  go_enter Tryz.func37, Tryz.ntmps37
  go_wp2_with fail
  refine (diff_any _ _ 2 2 [eA, eB] [eB, eC] _ ?ra ?rb (by decide) (by decide)).mono ?_
  case ra => exact (row_new _ 72 [eA, eB] #[.string ⟨#[97]⟩, .int .i64 1, .int .i64 0, .int .i64 0, .string ⟨#[98]⟩, .int .i64 1, .int .i64 0, .int .i64 0] rfl (by decide) _ (by simp)).alloc _
  case rb => exact row_new _ 72 [eB, eC] #[.string ⟨#[98]⟩, .int .i64 1, .int .i64 0, .int .i64 0, .string ⟨#[99]⟩, .int .i64 1, .int .i64 0, .int .i64 0] rfl (by decide) _ (by simp)
  rintro e w2 ⟨v1, v2, v3, rfl, r1, r2, r3, hb2⟩
  rw [alive_plain] at r1 r2 r3
  have hW : Below w.heap.size w w2 := below_then ((((((Below.refl _ _).alloc (Nat.le_refl _) _).alloc (by simp) _).alloc (by simp; omega) _).alloc (by simp; omega) _).alloc (by simp; omega) _) (Nat.le_refl _) hb2
  have hs : w.heap.size + 3 ≤ w2.heap.size := by have := hb2.size; simp at this; omega
  have x0 : w2.cell? ⟨w.heap.size, 0, none⟩ = some (.string ⟨#[97]⟩) := (hb2.cell (p := ⟨w.heap.size, 0, none⟩) (by simp <;> omega)).trans (by go_simp)
  have x1 : w2.cell? ⟨w.heap.size, 1, none⟩ = some (.int .i64 1) := (hb2.cell (p := ⟨w.heap.size, 1, none⟩) (by simp <;> omega)).trans (by go_simp)
  have x2 : w2.cell? ⟨w.heap.size, 2, none⟩ = some (.int .i64 0) := (hb2.cell (p := ⟨w.heap.size, 2, none⟩) (by simp <;> omega)).trans (by go_simp)
  have x3 : w2.cell? ⟨w.heap.size, 3, none⟩ = some (.int .i64 0) := (hb2.cell (p := ⟨w.heap.size, 3, none⟩) (by simp <;> omega)).trans (by go_simp)
  have y0 : w2.cell? ⟨w.heap.size + 1, 0, none⟩ = some (.string ⟨#[98]⟩) := (hb2.cell (p := ⟨w.heap.size + 1, 0, none⟩) (by simp <;> omega)).trans (by go_simp)
  have y1 : w2.cell? ⟨w.heap.size + 1, 1, none⟩ = some (.int .i64 1) := (hb2.cell (p := ⟨w.heap.size + 1, 1, none⟩) (by simp <;> omega)).trans (by go_simp)
  have y2 : w2.cell? ⟨w.heap.size + 1, 2, none⟩ = some (.int .i64 0) := (hb2.cell (p := ⟨w.heap.size + 1, 2, none⟩) (by simp <;> omega)).trans (by go_simp)
  have y3 : w2.cell? ⟨w.heap.size + 1, 3, none⟩ = some (.int .i64 0) := (hb2.cell (p := ⟨w.heap.size + 1, 3, none⟩) (by simp <;> omega)).trans (by go_simp)
  have z0 : w2.cell? ⟨w.heap.size + 1 + 1, 0, none⟩ = some (.string ⟨#[99]⟩) := (hb2.cell (p := ⟨w.heap.size + 1 + 1, 0, none⟩) (by simp <;> omega)).trans (by go_simp)
  have z1 : w2.cell? ⟨w.heap.size + 1 + 1, 1, none⟩ = some (.int .i64 1) := (hb2.cell (p := ⟨w.heap.size + 1 + 1, 1, none⟩) (by simp <;> omega)).trans (by go_simp)
  have z2 : w2.cell? ⟨w.heap.size + 1 + 1, 2, none⟩ = some (.int .i64 0) := (hb2.cell (p := ⟨w.heap.size + 1 + 1, 2, none⟩) (by simp <;> omega)).trans (by go_simp)
  have z3 : w2.cell? ⟨w.heap.size + 1 + 1, 3, none⟩ = some (.int .i64 0) := (hb2.cell (p := ⟨w.heap.size + 1 + 1, 3, none⟩) (by simp <;> omega)).trans (by go_simp)
  obtain ⟨q1, c1, rfl, -, -⟩ := Lst.form r1
  obtain ⟨q2, c2, rfl, -, -⟩ := Lst.form r2
  obtain ⟨q3, c3, rfl, -, -⟩ := Lst.form r3
  have R := Lib.hid (And.intro r1 (And.intro r2 r3))
  have HW := Lib.hid hW
  clear r1 r2 r3 hW hb2
  go_wp2_with fail
  refine (equal_lit true _ _ c1 1 [eA] [eA] _ (by kernel_rfl) (R.out.1.alloc _) (row_new _ 72 [eA] #[.string ⟨#[97]⟩, .int .i64 1, .int .i64 0, .int .i64 0] rfl (by decide) _ rfl) (by decide) (by decide)).mono ?_
  rintro e w3 ⟨rfl, hb3⟩
  have hs3 := hb3.size
  have hc3 := below_then ((Below.refl w2.heap.size w2).alloc (Nat.le_refl _) _) (Nat.le_refl _) hb3
  have z0' : w3.cell? ⟨w.heap.size + 1 + 1, 0, none⟩ = some (.string ⟨#[99]⟩) := (hc3.cell (p := ⟨w.heap.size + 1 + 1, 0, none⟩) (by simp <;> omega)).trans z0
  have z1' : w3.cell? ⟨w.heap.size + 1 + 1, 1, none⟩ = some (.int .i64 1) := (hc3.cell (p := ⟨w.heap.size + 1 + 1, 1, none⟩) (by simp <;> omega)).trans z1
  have z2' : w3.cell? ⟨w.heap.size + 1 + 1, 2, none⟩ = some (.int .i64 0) := (hc3.cell (p := ⟨w.heap.size + 1 + 1, 2, none⟩) (by simp <;> omega)).trans z2
  have z3' : w3.cell? ⟨w.heap.size + 1 + 1, 3, none⟩ = some (.int .i64 0) := (hc3.cell (p := ⟨w.heap.size + 1 + 1, 3, none⟩) (by simp <;> omega)).trans z3
  have y0' : w3.cell? ⟨w.heap.size + 1, 0, none⟩ = some (.string ⟨#[98]⟩) := (hc3.cell (p := ⟨w.heap.size + 1, 0, none⟩) (by simp <;> omega)).trans y0
  have y1' : w3.cell? ⟨w.heap.size + 1, 1, none⟩ = some (.int .i64 1) := (hc3.cell (p := ⟨w.heap.size + 1, 1, none⟩) (by simp <;> omega)).trans y1
  have y2' : w3.cell? ⟨w.heap.size + 1, 2, none⟩ = some (.int .i64 0) := (hc3.cell (p := ⟨w.heap.size + 1, 2, none⟩) (by simp <;> omega)).trans y2
  have y3' : w3.cell? ⟨w.heap.size + 1, 3, none⟩ = some (.int .i64 0) := (hc3.cell (p := ⟨w.heap.size + 1, 3, none⟩) (by simp <;> omega)).trans y3
  have HW3 := Lib.hid (below_then (HW.out.alloc (by omega) _) (Nat.le_refl _) hb3)
  have R2 := Lib.hid (Lst.below (R.out.2.1.alloc _) hb3)
  have R3 := Lib.hid (Lst.below (R.out.2.2.alloc _) hb3)
  simp at hs3
  have hs3' : w.heap.size + 3 ≤ w3.heap.size := by omega
  clear R hb3 hc3 x0 x1 x2 x3 y0 y1 y2 y3 z0 z1 z2 z3 HW hs3 hs
  go_wp2_with fail
  refine (equal_lit true _ _ c2 1 [eC] [eC] _ (by kernel_rfl) (R2.out.alloc _) (row_new _ 72 [eC] #[.string ⟨#[99]⟩, .int .i64 1, .int .i64 0, .int .i64 0] rfl (by decide) _ rfl) (by decide) (by decide)).mono ?_
  rintro e w4 ⟨rfl, hb4⟩
  have hs4 := hb4.size
  have hc4 := below_then ((Below.refl w3.heap.size w3).alloc (Nat.le_refl _) _) (Nat.le_refl _) hb4
  have x0' : w4.cell? ⟨w.heap.size + 1, 0, none⟩ = some (.string ⟨#[98]⟩) := (hc4.cell (p := ⟨w.heap.size + 1, 0, none⟩) (by simp <;> omega)).trans y0'
  have x1' : w4.cell? ⟨w.heap.size + 1, 1, none⟩ = some (.int .i64 1) := (hc4.cell (p := ⟨w.heap.size + 1, 1, none⟩) (by simp <;> omega)).trans y1'
  have x2' : w4.cell? ⟨w.heap.size + 1, 2, none⟩ = some (.int .i64 0) := (hc4.cell (p := ⟨w.heap.size + 1, 2, none⟩) (by simp <;> omega)).trans y2'
  have x3' : w4.cell? ⟨w.heap.size + 1, 3, none⟩ = some (.int .i64 0) := (hc4.cell (p := ⟨w.heap.size + 1, 3, none⟩) (by simp <;> omega)).trans y3'
  have HW4 := Lib.hid (below_then (HW3.out.alloc (by omega) _) (Nat.le_refl _) hb4)
  have R4 := Lib.hid (Lst.below (R3.out.alloc _) hb4)
  simp at hs4
  have hs4' : w.heap.size + 3 ≤ w4.heap.size := by omega
  clear R2 R3 hb4 hc4 z0' z1' z2' z3' y0' y1' y2' y3' HW3 hs4 hs3'
  go_wp2_with fail
  refine (equal_lit true _ _ c3 1 [eB] [eB] _ (by kernel_rfl) (R4.out.alloc _) (row_new _ 72 [eB] #[.string ⟨#[98]⟩, .int .i64 1, .int .i64 0, .int .i64 0] rfl (by decide) _ rfl) (by decide) (by decide)).mono ?_
  rintro e w5 ⟨rfl, hb5⟩
  have HW5 := Lib.hid (below_then (HW4.out.alloc (by omega) _) (Nat.le_refl _) hb5)
  clear hb5
  go_wp2_with fail
  go_ret
  exact ⟨rfl, HW5.out⟩
end Go.Proofs.YtmfhmcegmeinnaaGreatDoor.Diffs
