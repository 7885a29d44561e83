/-
  What all laws of a seat share: from a walk ('the call returns true and leaves all old memory as it was') to the given statement. Nothing of the program is in here; every lemma speaks of any program P.
-/
import Derived.Test.YtmjelcjdfamikaaGreatDoorRows
import Derived.WalkKit
import Derived.ProofKit
import Derived.Deep.Slices
import Derived.OpenShut
import Derived.Deep.Fields
set_option linter.unusedSimpArgs false
set_option linter.unusedVariables false
namespace Go.Proofs.YtmjelcjdfamikaaGreatDoor.Kit
open Go.ChangeShapes Go.WideShapes Go.ChangeAt Go.RowKit Go.Deep

section
variable {H : Type} {enc : TypeId × Value → H} {P : Program}

/-- The arguments read, behind the call, as they did before it: nothing that was there has turned. -/
theorem trodAll_below (hl : laidOutB P = true) {W W' : World} (hb : Below W.heap.size W W') :
    ∀ (ts : List TypeId) (vs : List Value) (ds : List (DataW H)) (ps : List MemPlace), (∀ t ∈ ts, P.readableRec t = true ∧ t < P.types.size) → (∀ x ∈ ps, x.block < W.heap.size) →
      DataW.TrodAll enc P W 0 (fun _ => true) true ts vs ds ps → DataW.TrodAll enc P W' 0 (fun b => decide (b < W.heap.size)) true ts vs ds ps
  | [], [], [], _, _, _, h => h
  | t :: ts, v :: vs, d :: ds, ps, hr, hp, h => by
    obtain ⟨p, q, h1, h2, rfl⟩ := h
    exact ⟨p, q, Below.trod hl (hr t (by simp)).1 (hr t (by simp)).2 h1 hb (fun x hx => hp x (by simp [hx])),
      trodAll_below hl hb ts vs ds q (fun t ht => hr t (by simp [ht])) (fun x hx => hp x (by simp [hx])) h2, rfl⟩
  | [], _ :: _, _, _, _, _, h => by cases h
  | [], [], _ :: _, _, _, _, h => by cases h
  | _ :: _, [], _, _, _, _, h => by cases h
  | _ :: _, _ :: _, [], _, _, _, h => by cases h

/-- The outcome that a law's statement asks for, out of 'true, and old memory as it was'. -/
theorem law_post {f : Func} {s : ChangeSpec} {W W' : World} {args : Array Value} {ds gs : List (DataW H)} {before : List MemPlace} {tb : TypeId} (hl : laidOutB P = true)
    (hp : ∀ t ∈ f.params.toList, P.readableRec t = true ∧ t < P.types.size) (hv : s.vars = []) (hres : f.resultTypes = #[tb]) (ht : P.underlying tb = some .bool)
    (hspec : s.fn H ds = { results := [.lit (.bool true)], args := ds }) (hW : DataW.Whole enc P f.params.toList s.vars false W args.toList ds gs before) (hb : Below W.heap.size W W') :
    s.post enc P f false true false false W args (.bool true) W' := by
  have hlt : ∀ x ∈ before, x.block < W.heap.size := fun x hx => by simpa using hW.lt x hx
  have hW' := hW
  obtain ⟨p, q, hA, hV, rfl, hfz, hnd⟩ := hW'
  rw [hv] at hV
  match gs, hV with
  | [], hq =>
    have hq : q = [] := hq
    subst hq
    have e : s.fn H (ds ++ []) = { results := [.lit (.bool true)], args := ds } := by rw [List.append_nil]; exact hspec
    refine ⟨ds, [], p ++ [], [], p, [], hW, ?_, ?_, ?_, ?_, fun h => by cases h⟩
    · rw [e, hres]
      exact trodAll_mk1 (shut_bool ht true)
    · rw [e]
      exact trodAll_below hl hb _ _ _ _ hp (fun x hx => hlt x (by simp [hx])) hA
    · rw [e, hv]; rfl
    · exact hb.frame _

end

section
variable {H : Type} {enc : TypeId × Value → H} {P : Program} {w : World}

/-- A row of cells reads as data of a type (which data, and through which places, is forgotten). -/
def Rd (enc : TypeId × Value → H) (P : Program) (w : World) (t : TypeId) (cs : List Value) : Prop :=
  ∃ n x, DataW.trod enc P w 0 (fun _ => true) true n t cs = some x

theorem rd_of_trod {t : TypeId} {v : Value} {d : DataW H} {ps : List MemPlace} (h : DataW.Trod enc P w 0 (fun _ => true) true t v d ps) : Rd enc P w t v.cells.toList :=
  let ⟨n, h⟩ := h; ⟨n, _, h⟩

theorem rd_int {t : TypeId} {k : IntKind} {cs : List Value} (ht : P.underlying t = some (.int k)) (h : Rd enc P w t cs) : ∃ n, cs = [.int k n] ∧ (Lit.int k n).wf = true := by
  obtain ⟨n, x, h⟩ := h
  obtain ⟨a, hc, hx, hw⟩ := DataW.trod_int ht h
  exact ⟨a, hc, hw⟩

theorem rd_bool {t : TypeId} {cs : List Value} (ht : P.underlying t = some .bool) (h : Rd enc P w t cs) : ∃ b, cs = [.bool b] := by
  obtain ⟨n, x, h⟩ := h
  obtain ⟨a, hc, hx⟩ := DataW.trod_bool ht h
  exact ⟨a, hc⟩

theorem rd_string {t : TypeId} {cs : List Value} (ht : P.underlying t = some .string) (h : Rd enc P w t cs) : ∃ s : ByteArray, cs = [.string s] ∧ s.size ≤ maxLen := by
  obtain ⟨n, x, h⟩ := h
  obtain ⟨a, hc, hx, hw⟩ := DataW.trod_string ht h
  exact ⟨a, hc, hw⟩

theorem rd_struct {t : TypeId} {fs : Array Field} {cs : List Value} (ht : P.underlying t = some (.struct fs)) (h : Rd enc P w t cs) :
    cs.length = P.cellsOf t ∧ ∀ (i : Nat) (f : Field), fs[i]? = some f → Rd enc P w f.type ((cs.drop f.offset).take (P.cellsOf f.type)) := by
  obtain ⟨n, x, h⟩ := h
  obtain ⟨xs, k, hk, hxy, hl, hxl, hf⟩ := DataW.trod_struct ht h
  refine ⟨hl, fun i f hi => ?_⟩
  have hi' : i < xs.length := by
    have := (Array.getElem?_eq_some_iff.1 hi).1
    omega
  exact ⟨k, _, (hf i f hi).trans (List.getElem?_eq_getElem hi')⟩

theorem rd_slice {t e : TypeId} {cs : List Value} (ht : P.underlying t = some (.slice e)) (h : Rd enc P w t cs) :
    cs = [.slice none 0 0] ∨ ∃ (a : Addr) (len cap : Nat), cs = [.slice (some a) len cap] ∧ len ≤ cap ∧ cap ≤ maxLen ∧
      ∀ i, i < cap → ∃ cs', w.cells? 0 (a.add (i * P.cellsOf e)) (P.cellsOf e) = some cs' ∧ Rd enc P w e cs' := by
  obtain ⟨n, x, h⟩ := h
  rcases open_slice ht h with ⟨h0, _⟩ | ⟨a, len, cap, m, n', D, Pl, hc, hb, hl, hm, hmm, hx, hel⟩
  · exact Or.inl h0
  right
  refine ⟨a, len, cap, hc, hl, hm, fun i hi => ?_⟩
  obtain ⟨cs', h1, h2⟩ := hel i (by rw [hmm]; simpa using hi)
  exact ⟨cs', h1, n', _, h2⟩

/-- An argument: it has its type's outer form, and reads as data. -/
def Arg (enc : TypeId × Value → H) (P : Program) (w : World) (t : TypeId) (v : Value) : Prop :=
  (∃ r b0, Value.okWide P w r b0 t v) ∧ Rd enc P w t v.cells.toList

def Args (enc : TypeId × Value → H) (P : Program) (w : World) : List TypeId → List Value → Prop
  | [], [] => True
  | t :: ts, v :: vs => Arg enc P w t v ∧ Args enc P w ts vs
  | _, _ => False

theorem arg_int {t : TypeId} {k : IntKind} {v : Value} (ht : P.underlying t = some (.int k)) (h : Arg enc P w t v) : ∃ n, v = .int k n ∧ (Lit.int k n).wf = true := by
  obtain ⟨⟨r, b0, hv⟩, hr⟩ := h
  obtain ⟨n, rfl⟩ := okWide_int ht hv
  obtain ⟨n', h, hw⟩ := rd_int ht hr
  simp [Value.cells] at h
  subst h
  exact ⟨n, rfl, hw⟩

theorem arg_bool {t : TypeId} {v : Value} (ht : P.underlying t = some .bool) (h : Arg enc P w t v) : ∃ b, v = .bool b := by
  obtain ⟨⟨r, b0, hv⟩, hr⟩ := h
  obtain ⟨b, h⟩ := rd_bool ht hr
  simp only [Value.okWide, ht, Cell.okWide] at hv
  cases v <;> simp_all [Cell.ok, Value.cells]

theorem arg_string {t : TypeId} {v : Value} (ht : P.underlying t = some .string) (h : Arg enc P w t v) : ∃ s : ByteArray, v = .string s ∧ s.size ≤ maxLen := by
  obtain ⟨⟨r, b0, hv⟩, hr⟩ := h
  obtain ⟨s, rfl⟩ := okWide_string ht hv
  obtain ⟨s', h, hl⟩ := rd_string ht hr
  simp [Value.cells] at h
  subst h
  exact ⟨s, rfl, hl⟩

theorem arg_slice {t e : TypeId} {v : Value} (ht : P.underlying t = some (.slice e)) (h : Arg enc P w t v) : v = .slice none 0 0 ∨ ∃ (a : Addr) (len cap : Nat), v = .slice (some a) len cap ∧ len ≤ cap ∧ cap ≤ maxLen ∧
      ∀ i, i < cap → ∃ cs', w.cells? 0 (a.add (i * P.cellsOf e)) (P.cellsOf e) = some cs' ∧ Rd enc P w e cs' := by
  obtain ⟨⟨r, b0, hv⟩, hr⟩ := h
  obtain ⟨a, len, cap, rfl⟩ := okWide_slice ht hv
  rcases rd_slice ht hr with h | ⟨a', len', cap', h, hl, hc, hel⟩
  · simp [Value.cells] at h
    obtain ⟨rfl, rfl, rfl⟩ := h
    exact Or.inl rfl
  · simp [Value.cells] at h
    obtain ⟨rfl, rfl, rfl⟩ := h
    exact Or.inr ⟨a', len, cap, rfl, hl, hc, hel⟩

theorem arg_struct {t : TypeId} {fs : Array Field} {v : Value} (ht : P.underlying t = some (.struct fs)) (h : Arg enc P w t v) :
    ∃ cs, v = .agg cs ∧ cs.size = P.cellsOf t ∧ ∀ (i : Nat) (f : Field), fs[i]? = some f → Rd enc P w f.type ((cs.toList.drop f.offset).take (P.cellsOf f.type)) := by
  obtain ⟨⟨r, b0, hv⟩, hr⟩ := h
  obtain ⟨cs, rfl, hsz⟩ := okWide_struct ht hv
  exact ⟨cs, rfl, hsz, (rd_struct ht hr).2⟩

theorem args1 {t0 : TypeId} {args : Array Value} (h : Args enc P w [t0] args.toList) : ∃ v0, args = #[v0] ∧ Arg enc P w t0 v0 := by
  match args, h with
  | ⟨[v0]⟩, h => exact ⟨v0, rfl, h.1⟩
theorem args2 {t0 t1 : TypeId} {args : Array Value} (h : Args enc P w [t0, t1] args.toList) : ∃ v0 v1, args = #[v0, v1] ∧ Arg enc P w t0 v0 ∧ Arg enc P w t1 v1 := by
  match args, h with
  | ⟨[v0, v1]⟩, h => exact ⟨v0, v1, rfl, h.1, h.2.1⟩
theorem args3 {t0 t1 t2 : TypeId} {args : Array Value} (h : Args enc P w [t0, t1, t2] args.toList) : ∃ v0 v1 v2, args = #[v0, v1, v2] ∧ Arg enc P w t0 v0 ∧ Arg enc P w t1 v1 ∧ Arg enc P w t2 v2 := by
  match args, h with
  | ⟨[v0, v1, v2]⟩, h => exact ⟨v0, v1, v2, rfl, h.1, h.2.1, h.2.2.1⟩
theorem args4 {t0 t1 t2 t3 : TypeId} {args : Array Value} (h : Args enc P w [t0, t1, t2, t3] args.toList) : ∃ v0 v1 v2 v3, args = #[v0, v1, v2, v3] ∧ Arg enc P w t0 v0 ∧ Arg enc P w t1 v1 ∧ Arg enc P w t2 v2 ∧ Arg enc P w t3 v3 := by
  match args, h with
  | ⟨[v0, v1, v2, v3]⟩, h => exact ⟨v0, v1, v2, v3, rfl, h.1, h.2.1, h.2.2.1, h.2.2.2.1⟩

theorem args_of {ts : List TypeId} : ∀ {vs : List Value} {ds : List (DataW H)} {ps : List MemPlace}, (∀ (j : Nat) t v, ts[j]? = some t → vs[j]? = some v → ∃ r b0, Value.okWide P w r b0 t v) →
    DataW.TrodAll enc P w 0 (fun _ => true) true ts vs ds ps → Args enc P w ts vs ∧ ds.length = ts.length := by
  induction ts with
  | nil =>
    intro vs ds ps _ h
    match vs, ds, h with
    | [], [], _ => exact ⟨trivial, rfl⟩
  | cons t ts ih =>
    intro vs ds ps hv h
    match vs, ds, h with
    | v :: vs, d :: ds, h =>
      obtain ⟨p, q, h1, h2, _⟩ := h
      have hi := ih (fun j t' v' h3 h4 => hv (j + 1) t' v' (by simpa using h3) (by simpa using h4)) h2
      exact ⟨⟨⟨hv 0 t v rfl rfl, rd_of_trod h1⟩, hi.1⟩, by simp [hi.2]⟩

theorem rd_fields {t : TypeId} {fs : Array Field} {cs : List Value} (ht : P.underlying t = some (.struct fs)) (hone : oneCellFields P fs = true) (h : Rd enc P w t cs) :
    cs.length = P.cellsOf t ∧ ∀ (i : Nat) (f : Field), fs[i]? = some f → i < cs.length → ∃ v, cs[i]? = some v ∧ Rd enc P w f.type [v] := by
  obtain ⟨hl, hf⟩ := rd_struct ht h
  refine ⟨hl, fun i f hi hlt => ?_⟩
  obtain ⟨o0, k0⟩ := hone_of hone i f hi
  have := hf i f hi
  rw [o0, k0, List.drop_eq_getElem_cons hlt] at this
  exact ⟨cs[i], List.getElem?_eq_getElem hlt, this⟩

theorem rd_struct1 {t : TypeId} {f0 : Field} {cs : List Value} (ht : P.underlying t = some (.struct #[f0])) (hone : oneCellFields P #[f0] = true) (hC : P.cellsOf t = 1) (h : Rd enc P w t cs) :
    ∃ v0, cs = [v0] ∧ Rd enc P w f0.type [v0] := by
  obtain ⟨hl, hf⟩ := rd_fields ht hone h
  rw [hC] at hl
  match cs, hl with
  | [v0], _ =>
    obtain ⟨_, e0, r0⟩ := hf 0 f0 rfl (by simp)
    cases e0
    exact ⟨v0, rfl, r0⟩
theorem rd_struct2 {t : TypeId} {f0 f1 : Field} {cs : List Value} (ht : P.underlying t = some (.struct #[f0, f1])) (hone : oneCellFields P #[f0, f1] = true) (hC : P.cellsOf t = 2) (h : Rd enc P w t cs) :
    ∃ v0 v1, cs = [v0, v1] ∧ Rd enc P w f0.type [v0] ∧ Rd enc P w f1.type [v1] := by
  obtain ⟨hl, hf⟩ := rd_fields ht hone h
  rw [hC] at hl
  match cs, hl with
  | [v0, v1], _ =>
    obtain ⟨_, e0, r0⟩ := hf 0 f0 rfl (by simp)
    obtain ⟨_, e1, r1⟩ := hf 1 f1 rfl (by simp)
    cases e0; cases e1
    exact ⟨v0, v1, rfl, r0, r1⟩
theorem rd_struct3 {t : TypeId} {f0 f1 f2 : Field} {cs : List Value} (ht : P.underlying t = some (.struct #[f0, f1, f2])) (hone : oneCellFields P #[f0, f1, f2] = true) (hC : P.cellsOf t = 3) (h : Rd enc P w t cs) :
    ∃ v0 v1 v2, cs = [v0, v1, v2] ∧ Rd enc P w f0.type [v0] ∧ Rd enc P w f1.type [v1] ∧ Rd enc P w f2.type [v2] := by
  obtain ⟨hl, hf⟩ := rd_fields ht hone h
  rw [hC] at hl
  match cs, hl with
  | [v0, v1, v2], _ =>
    obtain ⟨_, e0, r0⟩ := hf 0 f0 rfl (by simp)
    obtain ⟨_, e1, r1⟩ := hf 1 f1 rfl (by simp)
    obtain ⟨_, e2, r2⟩ := hf 2 f2 rfl (by simp)
    cases e0; cases e1; cases e2
    exact ⟨v0, v1, v2, rfl, r0, r1, r2⟩
theorem rd_struct4 {t : TypeId} {f0 f1 f2 f3 : Field} {cs : List Value} (ht : P.underlying t = some (.struct #[f0, f1, f2, f3])) (hone : oneCellFields P #[f0, f1, f2, f3] = true) (hC : P.cellsOf t = 4) (h : Rd enc P w t cs) :
    ∃ v0 v1 v2 v3, cs = [v0, v1, v2, v3] ∧ Rd enc P w f0.type [v0] ∧ Rd enc P w f1.type [v1] ∧ Rd enc P w f2.type [v2] ∧ Rd enc P w f3.type [v3] := by
  obtain ⟨hl, hf⟩ := rd_fields ht hone h
  rw [hC] at hl
  match cs, hl with
  | [v0, v1, v2, v3], _ =>
    obtain ⟨_, e0, r0⟩ := hf 0 f0 rfl (by simp)
    obtain ⟨_, e1, r1⟩ := hf 1 f1 rfl (by simp)
    obtain ⟨_, e2, r2⟩ := hf 2 f2 rfl (by simp)
    obtain ⟨_, e3, r3⟩ := hf 3 f3 rfl (by simp)
    cases e0; cases e1; cases e2; cases e3
    exact ⟨v0, v1, v2, v3, rfl, r0, r1, r2, r3⟩

/-- A struct by value. -/
theorem arg_agg {t : TypeId} {fs : Array Field} {v : Value} (ht : P.underlying t = some (.struct fs)) (h : Arg enc P w t v) : ∃ cs : List Value, v = .agg ⟨cs⟩ ∧ Rd enc P w t cs := by
  obtain ⟨⟨r, b0, hv⟩, hr⟩ := h
  obtain ⟨cs, rfl, hsz⟩ := okWide_struct ht hv
  exact ⟨cs.toList, rfl, hr⟩

theorem bd_i64 {n : Int} (h : (Lit.int .i64 n).wf = true) : -9223372036854775808 ≤ n ∧ n ≤ 9223372036854775807 := bounds_i64 h

theorem rd_i64 {t : TypeId} {v : Value} (ht : P.underlying t = some (.int .i64)) (h : Rd enc P w t [v]) : ∃ n, v = .int .i64 n ∧ -9223372036854775808 ≤ n ∧ n ≤ 9223372036854775807 := by
  obtain ⟨n, hc, hw⟩ := rd_int ht h
  cases hc
  exact ⟨n, rfl, bounds_i64 hw⟩

theorem arg_i64 {t : TypeId} {v : Value} (ht : P.underlying t = some (.int .i64)) (h : Arg enc P w t v) : ∃ n, v = .int .i64 n ∧ -9223372036854775808 ≤ n ∧ n ≤ 9223372036854775807 := by
  obtain ⟨n, rfl, hw⟩ := arg_int ht h
  exact ⟨n, rfl, bounds_i64 hw⟩

/-- A slice's value, opened: it has no elements; or it begins at a cell, and element i's cells are F i. -/
theorem cells_slice {e : TypeId} {ao : Option Addr} {len cap : Nat} (hpos : 0 < P.cellsOf e) (hl : len ≤ cap) (hc : cap ≤ maxLen)
    (h : ao = none ∧ cap = 0 ∨ ∃ a, ao = some a ∧ ∀ i, i < cap → ∃ cs', w.cells? 0 (a.add (i * P.cellsOf e)) (P.cellsOf e) = some cs' ∧ Rd enc P w e cs') :
    len = 0 ∨ ∃ (b off : Nat) (F : Nat → List Value), ao = some ⟨b, off, none⟩ ∧ 0 < len ∧ len ≤ cap ∧ cap ≤ maxLen ∧ b < w.heap.size ∧
      ∀ i, i < cap → (F i).length = P.cellsOf e ∧ Rd enc P w e (F i) ∧ ∀ j, j < P.cellsOf e → w.cell? ⟨b, off + i * P.cellsOf e + j, none⟩ = (F i)[j]? := by
  by_cases h0 : len = 0
  · exact Or.inl h0
  right
  rcases h with ⟨_, h1⟩ | ⟨a, rfl, hel⟩
  · omega
  obtain ⟨F, hF⟩ := choose_lt (α := List Value) (p := fun i cs' => w.cells? 0 (a.add (i * P.cellsOf e)) (P.cellsOf e) = some cs' ∧ Rd enc P w e cs') hel
  obtain ⟨_, g1, g2⟩ := World.cells?_some (hF 0 (by omega)).1
  have g := g2 0 hpos
  have hs : a.spot = none ∧ a.block < w.heap.size := by
    have e1 : (a.add (0 * P.cellsOf e)).add 0 = a := by simp [Addr.add]
    rw [e1] at g
    have : (F 0)[0]? ≠ none := by rw [Ne, List.getElem?_eq_none_iff]; omega
    rw [← g] at this
    unfold World.cell? at this
    split at this
    · rename_i c t fr hb
      have hb' := (Array.getElem?_eq_some_iff.1 hb).1
      refine ⟨?_, hb'⟩
      cases hsp : a.spot with
      | none => rfl
      | some _ => simp [hsp] at this
    · exact absurd rfl this
  obtain ⟨b, off, sp⟩ := a
  obtain ⟨rfl, hb⟩ := hs
  refine ⟨b, off, F, rfl, by omega, hl, hc, hb, fun i hi => ?_⟩
  obtain ⟨_, k1, k2⟩ := World.cells?_some (hF i hi).1
  refine ⟨k1, (hF i hi).2, fun j hj => ?_⟩
  have := k2 j hj
  rw [add_add] at this
  rw [← this]
  unfold Addr.add
  split
  · rename_i h; simp only [Nat.add_assoc, h, Nat.add_zero]
  · simp only [Nat.add_assoc]

/-- A slice argument. -/
theorem arg_cells {t e : TypeId} {v : Value} (ht : P.underlying t = some (.slice e)) (hpos : 0 < P.cellsOf e) (h : Arg enc P w t v) :
    (∃ ao cap, v = .slice ao 0 cap) ∨ ∃ (b off len cap : Nat) (F : Nat → List Value), v = .slice (some ⟨b, off, none⟩) len cap ∧ 0 < len ∧ len ≤ cap ∧ cap ≤ maxLen ∧ b < w.heap.size ∧
      ∀ i, i < cap → (F i).length = P.cellsOf e ∧ Rd enc P w e (F i) ∧ ∀ j, j < P.cellsOf e → w.cell? ⟨b, off + i * P.cellsOf e + j, none⟩ = (F i)[j]? := by
  rcases arg_slice ht h with rfl | ⟨a, len, cap, rfl, hl, hc, hel⟩
  · exact Or.inl ⟨_, _, rfl⟩
  rcases cells_slice hpos hl hc (Or.inr ⟨a, rfl, hel⟩) with h0 | ⟨b, off, F, h1, h2⟩
  · subst h0; exact Or.inl ⟨_, _, rfl⟩
  · cases h1
    exact Or.inr ⟨b, off, len, cap, F, rfl, h2⟩

/-- A slice's cells that read as a slice (a field, an element). -/
theorem rd_cells {t e : TypeId} {cs : List Value} (ht : P.underlying t = some (.slice e)) (hpos : 0 < P.cellsOf e) (h : Rd enc P w t cs) :
    (∃ ao cap, cs = [.slice ao 0 cap]) ∨ ∃ (b off len cap : Nat) (F : Nat → List Value), cs = [.slice (some ⟨b, off, none⟩) len cap] ∧ 0 < len ∧ len ≤ cap ∧ cap ≤ maxLen ∧ b < w.heap.size ∧
      ∀ i, i < cap → (F i).length = P.cellsOf e ∧ Rd enc P w e (F i) ∧ ∀ j, j < P.cellsOf e → w.cell? ⟨b, off + i * P.cellsOf e + j, none⟩ = (F i)[j]? := by
  rcases rd_slice ht h with rfl | ⟨a, len, cap, rfl, hl, hc, hel⟩
  · exact Or.inl ⟨_, _, rfl⟩
  rcases cells_slice hpos hl hc (Or.inr ⟨a, rfl, hel⟩) with h0 | ⟨b, off, F, h1, h2⟩
  · subst h0; exact Or.inl ⟨_, _, rfl⟩
  · cases h1
    exact Or.inr ⟨b, off, len, cap, F, rfl, h2⟩

end

section
variable {H : Type} {enc : TypeId × Value → H} {P : Program}

/-- THE FRAME OF A LAW: its statement, out of a walk for every reading of its arguments. -/
theorem law_lifted {C : Checked} {os : Os} {f : FuncId} {fn : Func} {s : ChangeSpec} {tb : TypeId}
    (own : ownKnob C.prog.godebug = none) (started : os.Started) (noInit : C.prog.inits.idxOf? f = none) (hfn : C.prog.funcs[f]? = some fn) (hl : laidOutB C.prog = true)
    (hp0 : (fn.params.toList.all fun t => C.prog.readableRec t && decide (t < C.prog.types.size)) = true) (hv : s.vars = []) (hres : fn.resultTypes = #[tb]) (ht : C.prog.underlying tb = some .bool)
    (hspec : ∀ ds : List (DataW H), ds.length = fn.params.size → s.fn H ds = { results := [.lit (.bool true)], args := ds })
    (witness : ∃ (w : World) (tape : Tape) (i : Input), w.os = os ∧ (w.forCall tape i).Shaped C.prog ∧ i.vars = [] ∧ Input.okWide C.prog (w.forCall tape i) .any w.heap.size f i ∧
      s.pre6 enc C.prog fn [] false (w.forCall tape i).memory i.args ∧ ({} : Assume).holds C.prog (lone (Frame.enter C.prog f i.args .normal) [] (w.forCall tape i)))
    (walk : ∀ (W : World) (args : Array Value), Args enc C.prog W fn.params.toList args.toList →
      Calls C.prog f args W fun e W' => e = .returned (.bool true) ∧ Below W.heap.size W W') :
    ReturnsInHanded {} C os f .any (s.pre6 enc C.prog fn [] false) (s.post enc C.prog fn false true false false) := by
  have hp : ∀ t ∈ fn.params.toList, C.prog.readableRec t = true ∧ t < C.prog.types.size := fun t h => by
    have := List.all_eq_true.1 hp0 t h
    simpa using this
  refine returnsInHanded_of_change own started noInit hfn witness ?_
  intro W base args ds gs before hval hW _ _
  have hW' := hW
  obtain ⟨p, q, hA, hV, rfl, hfz, hnd⟩ := hW'
  obtain ⟨hargs, hlen⟩ := args_of (fun j t v h1 h2 => ⟨_, _, hval j t v (by simpa using h1) (by simpa using h2)⟩) hA
  refine (walk W args hargs).mono fun e W' ⟨he, hb⟩ => ?_
  subst he
  exact ⟨_, rfl, law_post hl hp hv hres ht (hspec ds (by simpa using hlen)) hW hb⟩

end
end Go.Proofs.YtmjelcjdfamikaaGreatDoor.Kit
