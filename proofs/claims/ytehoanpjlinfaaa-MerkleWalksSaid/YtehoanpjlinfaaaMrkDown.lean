/- Where two trees differ: the walk of merkle.Differ's closure (layer 24), which calls itself. -/
import Derived.Test.YtehoanpjlinfaaaMrkNode
import Derived.Test.YtehoanpjlinfaaaRange
import Derived.Test.YtehoanpjlinfaaaInts
import Derived.RangeFuncBox
namespace Go.Proofs.Ytehoanpjlinfaaa.Mrk
open Go.RowKit Go.Proofs.Ytehoanpjlinfaaa.Ints

/-- A tree's cells. -/
def lT (a : Nat → Nat) : List Value := (List.range 32).map fun i => .int .u64 (a i : Nat)
def vT (a : Nat → Nat) : Array Value := (lT a).toArray
theorem lT_len (a : Nat → Nat) : (lT a).length = 32 := by simp [lT]
theorem lT_at (a : Nat → Nat) {i : Nat} (h : i < 32) : (lT a)[i]? = some (.int .u64 (a i : Nat)) := by simp [lT, h]
/-- Block b is a variable that holds a tree. -/
def TreeAt (W : World) (t : TypeId) (b : Nat) (a : Nat → Nat) : Prop := W.heap[b]? = some (.cells (vT a) t (0, 0))
section
variable {W W' : World} {t : TypeId} {b : Nat} {a : Nat → Nat}
theorem TreeAt.lt (h : TreeAt W t b a) : b < W.heap.size := (Array.getElem?_eq_some_iff.1 h).1
theorem TreeAt.cell (h : TreeAt W t b a) {i : Nat} (hi : i < 32) : W.cell? ⟨b, i, none⟩ = some (.int .u64 (a i : Nat)) := by
  rw [cell_of_row W b i (vT a) t (0, 0) h]
  simpa [vT] using lT_at a hi
theorem TreeAt.kept {row : Option Nat} (h : TreeAt W t b a) (hg : W.grownBy W' row) (hne : some b ≠ row) : TreeAt W' t b a := (hg.block b h.lt hne).trans h
theorem TreeAt.below (h : TreeAt W t b a) (hb : Below W.heap.size W W') : TreeAt W' t b a := (hb.block b h.lt).trans h
theorem TreeAt.not_row (h : TreeAt W t b a) {e : TypeId} (hte : t ≠ e) {base size k : Nat} {v : Value} {xs : List Value} (hr : W.ownsRow base e size v k xs) : some b ≠ v.ownBlock := by
  rcases hr.2 with ⟨rfl, _⟩ | ⟨g, cap, cur, rfl, _, hgb, _⟩
  · simp [Value.ownBlock]
  · intro e'
    obtain rfl : b = g := by simpa [Value.ownBlock] using e'
    have := (show W.heap[b]? = _ from h).symm.trans hgb
    simp at this
    exact hte this.2
end

/-- What the closure stands on. -/
structure St (n₀ β bl bo bd ba bb : Nat) (a b : Nat → Nat) (out : List Int) (k : Nat) (W : World) : Prop where
  lk : Boxed W bl 3 (.int .i64 k)
  row : ∃ v, Boxed W bo 38 v ∧ W.ownsRow β 3 1 v out.length (out.flatMap enI)
  fn : Boxed W bd 98 (.func (.func 52) #[] #[.pointer (some ⟨bl, 0, none⟩), .pointer (some ⟨ba, 0, none⟩), .pointer (some ⟨bb, 0, none⟩), .pointer (some ⟨bo, 0, none⟩), .pointer (some ⟨bd, 0, none⟩)])
  at1 : TreeAt W 52 ba a
  at2 : TreeAt W 52 bb b
  base : n₀ ≤ bl ∧ n₀ ≤ bo ∧ n₀ ≤ β ∧ bl < β ∧ bo < β ∧ bd < β ∧ ba < β ∧ bb < β ∧ β ≤ W.heap.size
  ne : bl ≠ bo ∧ bl ≠ bd ∧ bl ≠ ba ∧ bl ≠ bb ∧ bo ≠ bd ∧ bo ≠ ba ∧ bo ≠ bb

theorem row_below {w w' : World} {base : Nat} {e : TypeId} {size : Nat} {v : Value} {n : Nat} {xs : List Value} (h : w.ownsRow base e size v n xs) (hb : Below w.heap.size w w') : w'.ownsRow base e size v n xs :=
  World.ownsRow.kept h (row := none) ⟨hb.os, hb.tape, hb.output, hb.size, fun i hi _ => hb.block i hi⟩ (by cases v.ownBlock <;> simp)

section
variable {n₀ β bl bo bd ba bb : Nat} {a b : Nat → Nat} {out : List Int} {k : Nat} {W W' : World}
theorem St.below (h : St n₀ β bl bo bd ba bb a b out k W) (hb : Below W.heap.size W W') : St n₀ β bl bo bd ba bb a b out k W' := by
  obtain ⟨v, h1, h2⟩ := h.row
  obtain ⟨b1, b2, b3, b4, b5, b6, b7, b8, b9⟩ := h.base
  exact ⟨box_below h.lk hb, ⟨v, box_below h1 hb, row_below h2 hb⟩, box_below h.fn hb, h.at1.below hb, h.at2.below hb, ⟨b1, b2, b3, b4, b5, b6, b7, b8, Nat.le_trans b9 hb.size⟩, h.ne⟩
theorem St.n0le (h : St n₀ β bl bo bd ba bb a b out k W) : n₀ ≤ W.heap.size := by
  have := h.base; omega
theorem St.look (h : St n₀ β bl bo bd ba bb a b out k W) : St n₀ β bl bo bd ba bb a b out (k + 1) (W.setCell ⟨bl, 0, none⟩ (.int .i64 ((k + 1 : Nat) : Int))) := by
  have hg := grownBy_setCell' W bl (.int .i64 ((k + 1 : Nat) : Int))
  obtain ⟨v, h1, h2⟩ := h.row
  obtain ⟨b1, b2, b3, b4, b5, b6, b7, b8, b9⟩ := h.base
  obtain ⟨n1, n2, n3, n4, n5, n6, n7⟩ := h.ne
  refine ⟨h.lk.set _, ⟨v, h1.kept hg (by simp; omega), h2.kept hg ?_⟩, h.fn.kept hg (by simp; omega), h.at1.kept hg (by simp; omega), h.at2.kept hg (by simp; omega), ⟨b1, b2, b3, b4, b5, b6, b7, b8, Nat.le_trans b9 hg.size⟩, h.ne⟩
  refine .inr fun e => ?_
  have := (World.ownsRow.lt h2 bl e).1
  omega
end

def DPost (n₀ β bl bo bd ba bb : Nat) (a b : Nat → Nat) (out : List Int) (k : Nat) (W : World) (e : Ending) (W' : World) : Prop :=
  (∃ v, e = .returned v) ∧ St n₀ β bl bo bd ba bb a b out k W' ∧ Below n₀ W W'

def sameAt (a b : Nat → Nat) (i : Nat) : Bool := decide (a i = b i)

abbrev downArgs (bl bo bd ba bb : Nat) (i : Int) : Array Value := #[.int .i64 i, .pointer (some ⟨bl, 0, none⟩), .pointer (some ⟨ba, 0, none⟩), .pointer (some ⟨bb, 0, none⟩), .pointer (some ⟨bo, 0, none⟩), .pointer (some ⟨bd, 0, none⟩)]
/-- What the closure does at node i. -/
def Downs (n₀ β bl bo bd ba bb : Nat) (a b : Nat → Nat) (i : Int) (T : List Int × Nat) : Prop :=
  ∀ (out : List Int) (k : Nat) (W : World), St n₀ β bl bo bd ba bb a b out k W → k + T.2 ≤ 1000 → out.length + T.1.length ≤ 1000 →
    Calls Try.prog 52 (downArgs bl bo bd ba bb i) W (DPost n₀ β bl bo bd ba bb a b (out ++ T.1) (k + T.2) W)

theorem info_parts_I : ∃ i : TypeInfo, Try.prog.info? 3 = some i ∧ i.zero = some (.int .i64 0) ∧ i.size = 1 ∧ i.bytes = 8 := by
  have h := info_I
  cases hq : Try.prog.info? 3 with
  | none => simp [hq] at h
  | some i => simp [hq] at h; exact ⟨i, rfl, h.1, h.2.1, h.2.2⟩

set_option maxHeartbeats 2000000 in
set_option maxRecDepth 100000 in
theorem down_same (n₀ β bl bo bd ba bb i : Nat) (a b : Nat → Nat) (hi : i < 32) (hab : a i = b i) : Downs n₀ β bl bo bd ba bb a b i ([], 1) := by
  intro out k W H hk ho
  have c0 := H.lk.cell
  have f0 := H.lk.frozen
  have hk : k + 1 ≤ 1000 := hk
  have hw : IntKind.i64.wrap ((k : Int) + 1) = (k : Int) + 1 := IntWalk.i64_in _ (by omega)
  have hl := H.look
  have hb0 : Below n₀ W (W.setCell ⟨bl, 0, none⟩ (.int .i64 ((k + 1 : Nat) : Int))) := (Below.refl n₀ W).setCell (p := ⟨bl, 0, none⟩) H.base.1 _
  obtain ⟨W1, hW1⟩ : ∃ W1, W1 = W.setCell ⟨bl, 0, none⟩ (.int .i64 ((k : Int) + 1)) := ⟨_, rfl⟩
  rw [show ((k + 1 : Nat) : Int) = (k : Int) + 1 from rfl, ← hW1] at hl hb0
  have ca := hl.at1.cell hi
  have cb := hl.at2.cell hi
  rw [hab] at ca
  have HL := Lib.hid hl
  clear H hl ho hab
  go_enter Try.func52, Try.ntmps52
  go_upto_region 3 with fail
  rw [← hW1]
  clear c0 f0 hW1
  go_quiet (fail)
  have hd := below_drewN (Below.refl W1.heap.size W1) nq
  go_wp2_with fail
  go_end0
  exact ⟨⟨_, rfl⟩, by have h := HL.out.below hd; simpa using h, hb0.trans (hd.mono HL.out.n0le)⟩

set_option maxHeartbeats 2000000 in
set_option maxRecDepth 100000 in
theorem down_leaf (n₀ β bl bo bd ba bb i : Nat) (a b : Nat → Nat) (hi : i < 32) (hab : ¬ a i = b i) (h16 : 16 ≤ i) : Downs n₀ β bl bo bd ba bb a b i ([(i : Int) - 16], 1) := by
  intro out k W H hk ho
  obtain ⟨i0, hi0, hz0, hz1, hz2⟩ := info_parts_I
  have HI := Lib.hid hi0
  have HZ0 := Lib.hid hz0
  have HZ1 := Lib.hid hz1
  have HZ2 := Lib.hid hz2
  have c0 := H.lk.cell
  have f0 := H.lk.frozen
  have hk : k + 1 ≤ 1000 := hk
  have ho : out.length + 1 ≤ 1000 := ho
  have hw : IntKind.i64.wrap ((k : Int) + 1) = (k : Int) + 1 := IntWalk.i64_in _ (by omega)
  have hw2 : IntKind.i64.wrap ((i : Int) - 16) = (i : Int) - 16 := IntWalk.i64_in _ (by omega)
  have hl := H.look
  have hb0 : Below n₀ W (W.setCell ⟨bl, 0, none⟩ (.int .i64 ((k + 1 : Nat) : Int))) := (Below.refl n₀ W).setCell (p := ⟨bl, 0, none⟩) H.base.1 _
  obtain ⟨W1, hW1⟩ : ∃ W1, W1 = W.setCell ⟨bl, 0, none⟩ (.int .i64 ((k : Int) + 1)) := ⟨_, rfl⟩
  rw [show ((k + 1 : Nat) : Int) = (k : Int) + 1 from rfl, ← hW1] at hl hb0
  have ca := hl.at1.cell hi
  have cb := hl.at2.cell hi
  obtain ⟨n, hn⟩ : ∃ n, n = out.length := ⟨_, rfl⟩
  rw [← hn] at ho
  have HL0 := Lib.hid hl
  have HN := Lib.hid hn
  clear H hl hn hi0 hz0 hz1 hz2
  go_enter Try.func52, Try.ntmps52
  go_upto_region 3 with fail
  rw [← hW1]
  clear c0 f0 hW1
  go_quiet (fail)
  have hdr := below_drewN (Below.refl W1.heap.size W1) nq
  have hl := HL0.out.below hdr
  have hb1 := hb0.trans (hdr.mono HL0.out.n0le)
  obtain ⟨W2, hW2⟩ : ∃ W2, W2 = W1.drewN nq := ⟨_, rfl⟩
  rw [← hW2] at hl hb1 ⊢
  obtain ⟨v, hv, hrow⟩ := hl.row
  rw [← HN.out] at hrow
  obtain ⟨ao, cap, rfl⟩ := row_form hrow
  have cv := hv.cell
  have HV := Lib.hid hv
  have HR := Lib.hid hrow
  have HL := Lib.hid hl
  clear hl hv hrow hdr hW2 ca cb
  go_wp2_with (at_builtin; refine wpList_append_own _ rfl _ _ 38 rfl β 3 i0 (.int .i64 0) 1 8 Try.underlying38 HI.out HZ0.out HZ1.out HZ2.out rfl (by decide) (.slice ao n cap) _ _ rfl (HR.out.alloc _) ⟨_, 0, none⟩ 1 1 (enI ((i : Int) - 16)) rfl rfl ?c1 ?c2 ?c3 ?c4 ?c5 ?_)
  case c2 => first | rfl | (intro u hu; simp at hu; subst hu; rfl)
  case c3 => unfold maxLen; omega
  case c4 => omega
  case c5 => have := HL.out.base; simp; omega
  intro v' w3 hown3 hgrow3 _
  obtain ⟨a1, a2, a3, a4, a5, a6⟩ := appended HV.out (by decide) HR.out HL.out.base.2.2.1 HL.out.base.2.2.2.2.2.2.2.2 HL.out.base.2.1 hown3 hgrow3
  have cB := a1.cell
  have fB := a1.frozen
  obtain ⟨gg, gc, rfl⟩ := ownsRow_succ hown3
  have S' : St n₀ β bl bo bd ba bb a b (out ++ [(i : Int) - 16]) (k + 1) (w3.setCell ⟨bo, 0, none⟩ (.slice (some ⟨gg, 0, none⟩) (n + 1) gc)) := by
    have hb := HL.out.base
    have hne := HL.out.ne
    have hgs := grownBy_setCell' w3 bo (.slice (some ⟨gg, 0, none⟩) (n + 1) gc)
    have hlt : ∀ x, x < β → some x ≠ (Value.slice ao n cap).ownBlock := fun x hx e => by
      have := (World.ownsRow.lt HR.out x e.symm).1; omega
    refine ⟨?_, ⟨_, a2, by rw [List.length_append, ← HN.out, List.flatMap_append, List.flatMap_singleton]; exact a3⟩, ?_, ?_, ?_, ⟨hb.1, hb.2.1, hb.2.2.1, hb.2.2.2.1, hb.2.2.2.2.1, hb.2.2.2.2.2.1, hb.2.2.2.2.2.2.1, hb.2.2.2.2.2.2.2.1, Nat.le_trans hb.2.2.2.2.2.2.2.2 a4.size⟩, hne⟩
    · exact ((HL.out.lk.alloc _).kept hgrow3 (hlt _ hb.2.2.2.1)).kept hgs (by simp; omega)
    · exact ((HL.out.fn.alloc _).kept hgrow3 (hlt _ hb.2.2.2.2.2.1)).kept hgs (by simp; omega)
    · exact ((HL.out.at1.kept (World.grownBy_alloc _ _ none) (by simp)).kept hgrow3 (hlt _ hb.2.2.2.2.2.2.1)).kept hgs (by simp; omega)
    · exact ((HL.out.at2.kept (World.grownBy_alloc _ _ none) (by simp)).kept hgrow3 (hlt _ hb.2.2.2.2.2.2.2.1)).kept hgs (by simp; omega)
  have HS := Lib.hid S'
  clear hown3 hgrow3 S' a2 a3 a4 a6
  go_wp2_with fail
  go_end0
  exact ⟨⟨_, rfl⟩, HS.out, hb1.trans a5⟩

set_option maxHeartbeats 2000000 in
set_option maxRecDepth 100000 in
theorem down_node (n₀ β bl bo bd ba bb i : Nat) (a b : Nat → Nat) (T2 T3 : List Int × Nat) (hi : i < 16) (hab : ¬ a i = b i) (h2 : Downs n₀ β bl bo bd ba bb a b (2 * i : Nat) T2) (h3 : Downs n₀ β bl bo bd ba bb a b ((2 * i : Nat) + 1) T3) :
    Downs n₀ β bl bo bd ba bb a b i (T2.1 ++ T3.1, 1 + T2.2 + T3.2) := by
  intro out k W H hk ho
  have c0 := H.lk.cell
  have f0 := H.lk.frozen
  have hk : k + (1 + T2.2 + T3.2) ≤ 1000 := hk
  have ho : out.length + (T2.1 ++ T3.1).length ≤ 1000 := ho
  rw [List.length_append] at ho
  have hw : IntKind.i64.wrap ((k : Int) + 1) = (k : Int) + 1 := IntWalk.i64_in _ (by omega)
  obtain ⟨j, hj⟩ : ∃ j, j = 2 * i := ⟨_, rfl⟩
  rw [← hj] at h2 h3
  have m1 : IntKind.i64.wrap (2 * (i : Int)) = (j : Int) := by rw [IntWalk.i64_in _ (by omega)]; omega
  have m2 : IntKind.i64.wrap ((j : Int) + 1) = (j : Int) + 1 := IntWalk.i64_in _ (by omega)
  have hl := H.look
  have hb0 : Below n₀ W (W.setCell ⟨bl, 0, none⟩ (.int .i64 ((k + 1 : Nat) : Int))) := (Below.refl n₀ W).setCell (p := ⟨bl, 0, none⟩) H.base.1 _
  obtain ⟨W1, hW1⟩ : ∃ W1, W1 = W.setCell ⟨bl, 0, none⟩ (.int .i64 ((k : Int) + 1)) := ⟨_, rfl⟩
  rw [show ((k + 1 : Nat) : Int) = (k : Int) + 1 from rfl, ← hW1] at hl hb0
  have ca := hl.at1.cell (i := i) (by omega)
  have cb := hl.at2.cell (i := i) (by omega)
  have HL0 := Lib.hid hl
  have H2 := Lib.hid h2
  have H3 := Lib.hid h3
  have HKO := Lib.hid (And.intro hk ho)
  clear H hl h2 h3 hj hk ho
  go_enter Try.func52, Try.ntmps52
  go_upto_region 3 with fail
  rw [← hW1]
  clear c0 f0 hW1
  go_quiet (fail)
  have hdr := below_drewN (Below.refl W1.heap.size W1) nq
  have hl := HL0.out.below hdr
  have hb1 := hb0.trans (hdr.mono HL0.out.n0le)
  obtain ⟨W1', hW2⟩ : ∃ W2, W2 = W1.drewN nq := ⟨_, rfl⟩
  rw [← hW2] at hl hb1 ⊢
  have cf := hl.fn.cell
  have k2 := H2.out out (k + 1) W1' hl (by have := HKO.out; omega) (by have := HKO.out; omega)
  have K2 := Lib.hid k2
  clear k2 hl hdr hW2
  go_wp2_with fail
  refine K2.out.mono ?_
  rintro e W2 ⟨⟨v, rfl⟩, hs2, hb2⟩
  have cf2 := hs2.fn.cell
  have k3 := H3.out _ _ W2 hs2 (by have := HKO.out; omega) (by have := HKO.out; rw [List.length_append]; omega)
  have K3 := Lib.hid k3
  clear k3 hs2 ca cb cf
  go_wp2_with fail
  refine K3.out.mono ?_
  rintro e W3 ⟨⟨v, rfl⟩, hs3, hb3⟩
  have HS := Lib.hid hs3
  clear hs3
  go_wp2_with fail
  go_end0
  exact ⟨⟨_, rfl⟩, by rw [← List.append_assoc, show k + (1 + T2.2 + T3.2) = k + 1 + T2.2 + T3.2 by omega]; exact HS.out, (hb1.trans hb2).trans hb3⟩

theorem down_any (n₀ β bl bo bd ba bb : Nat) (a b : Nat → Nat) : ∀ (f i : Nat), 16 ≤ i * 2 ^ f → (i + 1) * 2 ^ f ≤ 32 → Downs n₀ β bl bo bd ba bb a b i (downF (sameAt a b) f i)
  | 0, i, h16, h32 => by
    have h16 : 16 ≤ i := by simpa using h16
    have h32 : i + 1 ≤ 32 := by simpa using h32
    by_cases h : a i = b i
    · rw [downF, show sameAt a b i = true by simp [sameAt, h]]
      exact down_same _ _ _ _ _ _ _ i a b h32 h
    · rw [downF, show sameAt a b i = false by simp [sameAt, h]]
      exact down_leaf _ _ _ _ _ _ _ i a b h32 h h16
  | f + 1, i, h16, h32 => by
    have h1 : 1 ≤ 2 ^ f := Nat.one_le_two_pow
    have e1 : i * 2 ^ (f + 1) = 2 * i * 2 ^ f := by rw [Nat.pow_succ]; ac_rfl
    have e2 : (i + 1) * 2 ^ (f + 1) = (2 * i + 1 + 1) * 2 ^ f := by rw [Nat.pow_succ, show 2 * i + 1 + 1 = (i + 1) * 2 by omega]; ac_rfl
    rw [e1] at h16
    rw [e2] at h32
    have hle : (2 * i + 1 + 1) * 1 ≤ (2 * i + 1 + 1) * 2 ^ f := Nat.mul_le_mul_left _ h1
    by_cases h : a i = b i
    · rw [downF, show sameAt a b i = true by simp [sameAt, h]]
      exact down_same _ _ _ _ _ _ _ i a b (by omega) h
    · rw [downF, show sameAt a b i = false by simp [sameAt, h]]
      refine down_node _ _ _ _ _ _ _ i a b _ _ (by omega) h (down_any n₀ β bl bo bd ba bb a b f (2 * i) h16 (Nat.le_trans (Nat.mul_le_mul_right _ (by omega)) h32)) ?_
      exact down_any n₀ β bl bo bd ba bb a b f (2 * i + 1) (Nat.le_trans h16 (Nat.mul_le_mul_right _ (by omega))) h32
end Go.Proofs.Ytehoanpjlinfaaa.Mrk
