/- Layer 6 (dots): Covers, Same; slices.ContainsFunc at writes. -/
import Derived.Test.YtihfcohebgemdaaDotJoin
import Derived.Test.YtihfcohebgemdaaRoundQuiet
set_option linter.unusedSimpArgs false
set_option linter.unusedVariables false
namespace Go.Proofs.Ytihfcohebgemdaa.Dots
open Go.RowKit Go.Maps Go.Sort Go.Shelf Go.Proofs.Ytihfcohebgemdaa.Vec Go.Proofs.Ytihfcohebgemdaa.Spare

/-- A set lies in a variable. -/
def SetIn (w : World) (q : Nat) (v : Value) : Prop := ∃ o ao n ac, v = .agg #[.map o, .slice ao n ac] ∧ w.heap[q]? = some (.cells #[.map o, .slice ao n ac] 40 (0, 0))
theorem SetIn.lt {w : World} {q : Nat} {v : Value} (h : SetIn w q v) : q < w.heap.size := by
  obtain ⟨o, ao, n, ac, -, h⟩ := h
  exact (Array.getElem?_eq_some_iff.1 h).1
theorem SetIn.below {w w' : World} {q : Nat} {v : Value} (h : SetIn w q v) (hb : Below w.heap.size w w') : SetIn w' q v := by
  have hl := h.lt
  obtain ⟨o, ao, n, ac, e, h⟩ := h
  exact ⟨o, ao, n, ac, e, (hb.block q hl).trans h⟩
theorem SetIn.own {X Y : World} {row : Option Nat} {q : Nat} {v : Value} (h : SetIn X q v) (hg : X.grownBy Y row) (hr : ∀ r, row = some r → ∃ o : Obj, X.heap[r]? = some o ∧ o.isCells = false) : SetIn Y q v := by
  have hl := h.lt
  obtain ⟨o, ao, n, ac, e, h⟩ := h
  refine ⟨o, ao, n, ac, e, (hg.block q hl fun e2 => ?_).trans h⟩
  obtain ⟨ob, ho, hc⟩ := hr q e2.symm
  rw [h] at ho
  cases ho; cases hc
theorem SetIn.set {w : World} {q B : Nat} {v x : Value} (h : SetIn w q v) (hne : q ≠ B) : SetIn (w.setCell ⟨B, 0, none⟩ x) q v := by
  have hl := h.lt
  obtain ⟨o, ao, n, ac, e, h⟩ := h
  exact ⟨o, ao, n, ac, e, ((grownBy_setCell' w B x).block q hl (fun e2 => hne (by injection e2))).trans h⟩

theorem covers1_any (q : Nat) (va : Value) (A : List P) (d : P) (w : World) (hq : SetIn w q va) (hva : SAt w va A) (hA : Nice A) (d1 : -9223372036854775808 ≤ d.who) (d2 : d.who ≤ 9223372036854775807) :
    Calls Try.prog 54 #[vD d, .pointer (some ⟨q, 0, none⟩)] w fun e w' => e = .returned (.bool (!hasD A d)) ∧ Below w.heap.size w w' := by
  have HH := Lib.hid (fun w' (hb : Below w.heap.size w w') => has_any va A d w' (hva.below hb) hA d1 d2)
  have hql := hq.lt
  obtain ⟨o, ao, n, ac, rfl, hqc⟩ := hq
  have c0 : w.cell? ⟨q, 0, none⟩ = some (.map o) := by rw [cell_of_row w _ 0 _ _ (0, 0) hqc]; rfl
  have c1 : w.cell? ⟨q, 1, none⟩ = some (.slice ao n ac) := by rw [cell_of_row w _ 1 _ _ (0, 0) hqc]; rfl
  generalize hasD A d = r at *
  clear hva hqc
  go_enter Try.func54, Try.ntmps54
  go_wp2_with fail
  refine (HH.out _ ((Below.refl _ _).alloc (Nat.le_refl _) _)).mono ?_
  rintro e w2 ⟨rfl, hb2⟩
  have HE := Lib.hid (below_then ((Below.refl w.heap.size w).alloc (Nat.le_refl _) (.cells #[.int .i64 d.who, .int .i64 d.n] 33)) (Nat.le_refl _) hb2)
  clear hb2
  go_wp2_with fail
  go_ret
  exact ⟨rfl, HE.out⟩

/-- A function value answers whether something is so of a write; it leaves what is there. -/
def Asks (w₀ : World) (g : FuncId) (cb : Array Value) (p : P → Bool) (R : List P) : Prop :=
  ∀ x ∈ R, ∀ w : World, Below w₀.heap.size w₀ w → Calls Try.prog g (#[vD x] ++ cb) w fun e w' => e = .returned (.bool (p x)) ∧ Below w.heap.size w w'
def idxF (p : P → Bool) : List P → Nat → Int
  | [], _ => -1
  | x :: l, i => if p x then i else idxF p l (i + 1)
theorem idxF_any {p : P → Bool} : ∀ (l : List P) (i : Nat), decide (0 ≤ idxF p l i) = l.any p
  | [], i => by simp [idxF]
  | x :: l, i => by
    rw [idxF]
    cases h : p x
    · simp [h, idxF_any l (i + 1)]
    · simp [h]
set_option maxHeartbeats 2000000 in
set_option maxRecDepth 100000 in
theorem index_any (v : Value) (R : List P) (g : FuncId) (cb : Array Value) (p : P → Bool) (w : World) (hv : DRow w v R) (hn : R.length ≤ 1000000) (hp : Asks w g cb p R)
    (he : ∀ args w, (callFunc g args).run Try.prog w = .ok (.enter g args) w) :
    Calls Try.prog 80 #[v, .func (.func g) #[] cb] w fun e w' => e = .returned (.int .i64 (idxF p R 0)) ∧ Below w.heap.size w w' := by
  obtain ⟨ao, cap, rfl, -, -⟩ := Lst.form hv
  obtain ⟨n, hnn⟩ : ∃ n, n = R.length := ⟨_, rfl⟩
  rw [← hnn] at hv hn ⊢
  obtain ⟨Q, hQ⟩ : ∃ Q, Q = idxF p R 0 := ⟨_, rfl⟩
  rw [← hQ]
  have HV := Lib.hid hv
  have HP := Lib.hid hp
  have HN := Lib.hid hnn
  have HQ := Lib.hid hQ
  clear hv hp hnn hQ
  go_enter Try.func80, Try.ntmps80
  go_wp2_with fail
  go_loopw [8] (fun iv wr => ∃ k : Nat, k ≤ n ∧ iv = .int .i64 k ∧ Hid (idxF p (R.drop k) k = Q) ∧ Below w.heap.size w wr) (fun iv _ => n - (intOf iv).toNat)
  case atStart => exact ⟨0, by omega, rfl, Lib.hid (by rw [HQ.out]; rfl), Below.refl _ _⟩
  case round =>
    obtain ⟨k, hk, rfl, hi, hb⟩ := hrel
    by_cases hlt : k < n
    · have hkl : k < R.length := by have := HN.out; omega
      obtain ⟨x, hx⟩ : ∃ x, R[k]? = some x := ⟨_, List.getElem?_eq_getElem hkl⟩
      have hxe : R[k] = x := (List.getElem?_eq_some_iff.1 hx).2
      obtain ⟨xb, xoff, rfl, hblt, a0, a1⟩ := dot_at (HV.out.below hb) hx
      have hcall := HP.out x (List.mem_of_getElem? hx) wr hb
      have hi' : (if p x then (k : Int) else idxF p (R.drop (k + 1)) (k + 1)) = Q := by rw [← hi.out, List.drop_eq_getElem_cons hkl, hxe]; rfl
      obtain ⟨q, hq⟩ : ∃ q, q = p x := ⟨_, rfl⟩
      rw [← hq] at hcall hi'
      have HC := Lib.hid hcall
      have HI := Lib.hid hi'
      clear hcall hi' hq hx hxe hi
      cases q
      · go_wp2_with fail
        refine HC.out.mono ?_
        rintro e w1 ⟨rfl, hb1⟩
        go_wp2_with fail
        go_roundw
        case rel => exact ⟨k + 1, by omega, by go_num, HI, hb.trans (hb1.mono hb.size)⟩
        case measure => simp [intOf]; omega
      · go_wp2_with fail
        refine HC.out.mono ?_
        rintro e w1 ⟨rfl, hb1⟩
        go_wp2_with fail
        go_ret
        exact ⟨ret_int HI.out, hb.trans (hb1.mono hb.size)⟩
    · obtain rfl : k = n := by omega
      have he : (-1 : Int) = Q := by rw [← hi.out, List.drop_of_length_le (by have := HN.out; omega)]; rfl
      have HE := Lib.hid he
      clear he
      go_wp2_with fail
      go_ret
      exact ⟨ret_int HE.out, hb⟩
theorem contains_any (v : Value) (R : List P) (g : FuncId) (cb : Array Value) (p : P → Bool) (w : World) (hv : DRow w v R) (hn : R.length ≤ 1000000) (hp : Asks w g cb p R)
    (he : ∀ args w, (callFunc g args).run Try.prog w = .ok (.enter g args) w) :
    Calls Try.prog 53 #[v, .func (.func g) #[] cb] w fun e w' => e = .returned (.bool (R.any p)) ∧ Below w.heap.size w w' := by
  have h := index_any v R g cb p w hv hn hp he
  rw [← idxF_any R 0]
  obtain ⟨Q, hQ⟩ : ∃ Q, Q = idxF p R 0 := ⟨_, rfl⟩
  rw [← hQ] at h ⊢
  obtain ⟨ao, cap, rfl, -, -⟩ := Lst.form hv
  generalize R.length = n at *
  have H := Lib.hid h
  clear h hv hn hp he hQ
  go_enter Try.func53, Try.ntmps53
  go_wp2_with fail
  refine H.out.mono ?_
  rintro e w1 ⟨rfl, hb1⟩
  go_wp2_with fail
  go_ret
  exact ⟨rfl, hb1⟩

/-- All of the second set's known writes are in the first one. -/
def KnownIn (A K : List P) : Prop := ∀ x ∈ K, ∀ j, 1 ≤ j → j ≤ x.n → (⟨x.who, j⟩ : P) ∈ A
theorem covers_eq {A B : List P} (hA : Nice A) (hB : Nice B) : coversD A B = true ↔ KnownIn A (kn B) ∧ ∀ x ∈ rs B, x ∈ A := by
  rw [coversD_iff]
  have hg := hB.kn.1
  constructor
  · intro h
    refine ⟨fun x hx j h1 h2 => h _ ((mem_parts hB.fine _).2 (Or.inl ?_)), fun x hx => h x ((mem_parts hB.fine x).2 (Or.inr hx))⟩
    have hr := (right_iff x).1 (hg.2 x hx)
    have he := getF_some hg.1 hx
    exact ⟨(right_iff _).2 ⟨hr.1, h1, by show j ≤ _; omega⟩, by show j ≤ getF (kn B) x.who; omega⟩
  · rintro ⟨h1, h2⟩ x hx
    rcases (mem_parts hB.fine x).1 hx with e | e
    · have hr := (right_iff x).1 e.1
      rcases getF_cases (kn B) x.who with h0 | ⟨y, hy, hw, hn⟩
      · have := e.2
        omega
      · have := h1 y hy x.n hr.2.1 (by have := e.2; omega)
        rw [hw] at this
        exact this
    · exact h2 x e
end Go.Proofs.Ytihfcohebgemdaa.Dots
