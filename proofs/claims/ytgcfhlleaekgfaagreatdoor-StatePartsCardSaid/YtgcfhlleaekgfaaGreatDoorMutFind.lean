/- The walks of slices.IndexFunc, slices.ContainsFunc at mutations. -/
import Derived.Test.YtgcfhlleaekgfaaGreatDoorMutCopy
namespace Go.Proofs.YtgcfhlleaekgfaaGreatDoor.Mut
open Go.RowKit Go.Sort Go.Proofs.YtgcfhlleaekgfaaGreatDoor.Ord

/-- A function value answers whether something is so of a mutation, in each world that came of w₀ but for one block; it leaves what is there. -/
def Asks (w₀ : World) (row : Option Nat) (g : FuncId) (cb : Array Value) (p : Mu → Bool) : Prop :=
  ∀ (x : Ro) (w : World), w₀.grownBy w row → (∃ ao n cap, x.2 = .slice ao n cap) → Calls Tryz.prog g (#[vM x] ++ cb) w fun e w' => e = .returned (.bool (p x.1)) ∧ RowKit.Below w.heap.size w w'
theorem grown_below {w w' : World} (hb : RowKit.Below w.heap.size w w') (row : Option Nat) : w.grownBy w' row := ⟨hb.os, hb.tape, hb.output, hb.size, fun i hi _ => hb.block i hi⟩
theorem grown_then {a b c : World} {row : Option Nat} (h : a.grownBy b row) (hb : RowKit.Below b.heap.size b c) : a.grownBy c row :=
  ⟨hb.os.trans h.os, hb.tape.trans h.tape, hb.output.trans h.output, Nat.le_trans h.size hb.size, fun i hi hne => (hb.block i (Nat.lt_of_lt_of_le hi h.size)).trans (h.block i hi hne)⟩
theorem Asks.later {w w' : World} {row : Option Nat} {g : FuncId} {cb : Array Value} {p : Mu → Bool} (h : Asks w row g cb p) (hg : w.grownBy w' row) : Asks w' row g cb p := fun x z hz hx =>
  h x z ⟨hz.os.trans hg.os, hz.tape.trans hg.tape, hz.output.trans hg.output, Nat.le_trans hg.size hz.size, fun i hi hne => (hz.block i (Nat.lt_of_lt_of_le hi hg.size) hne).trans (hg.block i hi hne)⟩ hx

/-- The place of the first of which something is so, counted from i; below 0: none. -/
def idxF (p : Mu → Bool) : List Mu → Nat → Int
  | [], _ => -1
  | x :: l, i => if p x then i else idxF p l (i + 1)
theorem idxF_none {p : Mu → Bool} : ∀ (l : List Mu) (i : Nat), idxF p l i = -1 ↔ ∀ x ∈ l, p x = false
  | [], i => by simp [idxF]
  | x :: l, i => by
    rw [idxF]
    cases h : p x
    · simp only [Bool.false_eq_true, if_false]
      rw [idxF_none l (i + 1)]; simp [h]
    · simp [h]
theorem idxF_some {p : Mu → Bool} : ∀ (l : List Mu) (i : Nat), ¬ idxF p l i = -1 → ∃ a x b, l = a ++ x :: b ∧ p x = true ∧ (∀ y ∈ a, p y = false) ∧ idxF p l i = (i + a.length : Nat)
  | [], i, h => absurd rfl h
  | x :: l, i, h => by
    rw [idxF] at h ⊢
    cases hp : p x
    · rw [hp] at h
      obtain ⟨a, y, b, e1, e2, e3, e4⟩ := idxF_some l (i + 1) h
      exact ⟨x :: a, y, b, by rw [e1]; rfl, e2, fun z hz => (by
        rcases List.mem_cons.1 hz with rfl | hz
        · exact hp
        · exact e3 z hz), (by simp only [Bool.false_eq_true, if_false, e4, List.length_cons]; omega)⟩
    · exact ⟨[], x, l, rfl, hp, fun _ h => (by cases h), by simp⟩
theorem idxF_any {p : Mu → Bool} (l : List Mu) : decide (0 ≤ idxF p l 0) = l.any p := by
  by_cases h : idxF p l 0 = -1
  · have h2 := (idxF_none l 0).1 h
    rw [h]
    have : l.any p = false := by rw [List.any_eq_false]; intro x hx; rw [h2 x hx]; decide
    rw [this]; rfl
  · obtain ⟨a, x, b, e1, e2, -, e4⟩ := idxF_some l 0 h
    rw [e4, e1]
    simp [e2]

set_option maxHeartbeats 2000000 in
set_option maxRecDepth 100000 in
theorem index_any (v : Value) (R : List Ro) (g : FuncId) (cb : Array Value) (p : Mu → Bool) (row : Option Nat) (w : World) (hv : Lst 10 enM w v R) (hf : ∀ x ∈ R, ∃ ao n cap, x.2 = .slice ao n cap) (hn : R.length ≤ 1000000) (hp : Asks w row g cb p)
    (he : ∀ args w, (callFunc g args).run Tryz.prog w = .ok (.enter g args) w) :
    Calls Tryz.prog 113 #[v, .func (.func g) #[] cb] w fun e w' => e = .returned (.int .i64 (idxF p (R.map (·.1)) 0)) ∧ RowKit.Below w.heap.size w w' := by
  obtain ⟨ao, cap, rfl, -, -⟩ := Lst.form hv
  obtain ⟨n, hnn⟩ : ∃ n, n = R.length := ⟨_, rfl⟩
  rw [← hnn] at hv hn ⊢
  obtain ⟨Q, hQ⟩ : ∃ Q, Q = idxF p (R.map (·.1)) 0 := ⟨_, rfl⟩
  rw [← hQ]
  have HV := Lib.hid hv
  have HF := Lib.hid hf
  have HP := Lib.hid hp
  have HN := Lib.hid hnn
  have HQ := Lib.hid hQ
  clear hv hf hp hnn hQ
  go_enter Tryz.func113, Tryz.ntmps113
  go_wp2_with fail
  go_loopw [8] (fun iv wr => ∃ k : Nat, k ≤ n ∧ iv = .int .i64 k ∧ Hid (idxF p ((R.drop k).map (·.1)) k = Q) ∧ RowKit.Below w.heap.size w wr) (fun iv _ => n - (intOf iv).toNat)
  case atStart => exact ⟨0, by omega, rfl, Lib.hid (by rw [HQ.out]; rfl), Below.refl _ _⟩
  case round =>
    obtain ⟨k, hk, rfl, hi, hb⟩ := hrel
    by_cases hlt : k < n
    · have hkl : k < R.length := by have := HN.out; omega
      obtain ⟨x, hx⟩ : ∃ x, R[k]? = some x := ⟨_, List.getElem?_eq_getElem hkl⟩
      have hxe : R[k] = x := (List.getElem?_eq_some_iff.1 hx).2
      have hmr := HV.out.below hb
      obtain ⟨xb, xoff, hao, hblt, hcell⟩ := Lst.get hmr hkl
      subst hao
      rw [hxe] at hcell
      obtain ⟨hlt0, a0, a1, a2, a3, a4, a5, a6, a7, a8, a9⟩ := At.of (x := x) hblt hcell
      have hcall := HP.out x wr (grown_below hb row) (HF.out x (List.mem_of_getElem? hx))
      have hi' : (if p x.1 then (k : Int) else idxF p ((R.drop (k + 1)).map (·.1)) (k + 1)) = Q := by rw [← hi.out, List.drop_eq_getElem_cons hkl, hxe]; rfl
      obtain ⟨q, hq⟩ : ∃ q, q = p x.1 := ⟨_, rfl⟩
      rw [← hq] at hcall hi'
      unfold vM at hcall
      have HC := Lib.hid hcall
      have HI := Lib.hid hi'
      clear hmr hcell hcall hi' hq hx hxe hi
      cases q
      · go_wp2_with fail
        refine HC.out.mono ?_
        rintro e w1 ⟨rfl, hb1⟩
        go_wp2_with fail
        go_roundw
        case rel => exact ⟨k + 1, by omega, by go_num, HI, hb.trans (hb1.mono hb.size)⟩
        case measure => simp [intOf]; omega
      · go_wp2_with fail
        refine HC.out.mono ?_
        rintro e w1 ⟨rfl, hb1⟩
        go_wp2_with fail
        go_ret
        exact ⟨ret_int HI.out, hb.trans (hb1.mono hb.size)⟩
    · obtain rfl : k = n := by omega
      have he : (-1 : Int) = Q := by rw [← hi.out, List.drop_of_length_le (by have := HN.out; omega)]; rfl
      have HE := Lib.hid he
      clear he
      go_wp2_with fail
      go_ret
      exact ⟨ret_int HE.out, hb⟩

theorem contains_any (v : Value) (R : List Ro) (g : FuncId) (cb : Array Value) (p : Mu → Bool) (row : Option Nat) (w : World) (hv : Lst 10 enM w v R) (hf : ∀ x ∈ R, ∃ ao n cap, x.2 = .slice ao n cap) (hn : R.length ≤ 1000000) (hp : Asks w row g cb p)
    (he : ∀ args w, (callFunc g args).run Tryz.prog w = .ok (.enter g args) w) :
    Calls Tryz.prog 64 #[v, .func (.func g) #[] cb] w fun e w' => e = .returned (.bool ((R.map (·.1)).any p)) ∧ RowKit.Below w.heap.size w w' := by
  have h := index_any v R g cb p row w hv hf hn hp he
  rw [← idxF_any]
  obtain ⟨Q, hQ⟩ : ∃ Q, Q = idxF p (R.map (·.1)) 0 := ⟨_, rfl⟩
  rw [← hQ] at h ⊢
  obtain ⟨ao, cap, rfl, -, -⟩ := Lst.form hv
  generalize R.length = n at *
  have H := Lib.hid h
  clear h hv hf hn hp he hQ
  go_enter Tryz.func64, Tryz.ntmps64
  go_wp2_with fail
  refine H.out.mono ?_
  rintro e w1 ⟨rfl, hb1⟩
  go_wp2_with fail
  go_ret
  exact ⟨rfl, hb1⟩
end Go.Proofs.YtgcfhlleaekgfaaGreatDoor.Mut
