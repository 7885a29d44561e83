/- Rows of ints: slices.Equal, slices.Index, slices.Contains at []int. · Where two trees differ: the walk of merkle.Differ's closure (layer 24), which calls itself. · Where two trees differ: the walk of merkle.Differ (layer 24). · Where two trees differ, the document's way: the walks of reached and Differ (layer 24). · Is each node's sum that of those below? The walks of Sound, merkle's and the document's; Root (layer 24). · The content of nothing: the walks of All at it (layer 8), and of what All calls. · The tree of nothing: the walk of merkle.Of at the content of nothing; the law's alive (layer 24). · The leaf of a key: merkle.Bucket and cenotaphref24.Bucket (layer 24). -/
import Derived.Test.YtkdgbkhnnehedaaGreatDoorLst
import Derived.Test.YtkdgbkhnnehedaaGreatDoorMrkNode
import Derived.Test.YtkdgbkhnnehedaaGreatDoorRange
import Derived.RangeFuncBox
import Derived.Laws.EntriesVeiled
import Derived.Laws.Rows
import Derived.Laws.Tables
import Derived.Deep.WholeRow
import Derived.Great.BuildSlice
import Derived.Laws.CopyOwn
import Derived.Great.Walk
import Derived.Test.YtkdgbkhnnehedaaGreatDoorTexts
set_option linter.unusedSimpArgs false
set_option linter.unusedVariables false
namespace Go.Proofs.YtkdgbkhnnehedaaGreatDoor.Ints
open Go.RowKit

abbrev enI (n : Int) : List Value := [.int .i64 n]
theorem enI_len (n : Int) : (enI n).length = 1 := rfl
abbrev IRow (w : World) (v : Value) (l : List Int) : Prop := Lst 1 enI w v l
theorem info_I : (Tryz.prog.info? 3).map (fun i => (i.zero, i.size, i.bytes)) = some (some (.int .i64 0), 1, 8) := by kernel_rfl

theorem int_at {w : World} {ao : Option Addr} {n cap : Nat} {l : List Int} {k : Nat} {x : Int} (h : IRow w (.slice ao n cap) l) (hk : l[k]? = some x) :
    ∃ b off, ao = some ⟨b, off, none⟩ ∧ b < w.heap.size ∧ w.cell? ⟨b, off + k, none⟩ = some (.int .i64 x) := by
  obtain ⟨hlt, he⟩ := List.getElem?_eq_some_iff.1 hk
  obtain ⟨b, off, ha, hb, hc⟩ := Lst.get h hlt
  have := hc 0 (by decide)
  rw [he, Nat.mul_one] at this
  exact ⟨b, off, ha, hb, this⟩
theorem flat_enI (l : List Int) : l.flatMap enI = l.map (Value.int .i64) := by induction l <;> simp_all

def eqI (a b : List Int) : Bool := decide (a = b)
theorem eqI_iff (a b : List Int) : eqI a b = true ↔ a = b := by unfold eqI; simp
theorem eqI_self (a : List Int) : eqI a a = true := (eqI_iff a a).2 rfl

set_option maxHeartbeats 400000 in
theorem equal_any (ao bo : Option Addr) (ac bc : Nat) (a b : List Int) (w : World) (ha : IRow w (.slice ao a.length ac) a) (hb : IRow w (.slice bo b.length bc) b) (h1 : a.length ≤ 100000) (h2 : b.length ≤ 100000) :
    Calls Tryz.prog 22 #[.slice ao a.length ac, .slice bo b.length bc] w fun e w' => e = .returned (.bool (eqI a b)) ∧ Below w.heap.size w w' := by
  have HA := Lib.hid ha
  have HB := Lib.hid hb
  clear ha hb
  cases hl : ((a.length : Int) != (b.length : Int))
  · have hll : a.length = b.length := by simp at hl; omega
    have HLL := Lib.hid hll
    obtain ⟨r, hr⟩ : ∃ r, r = eqI a b := ⟨_, rfl⟩
    rw [← hr]
    have HR := Lib.hid hr
    clear hr hll
    go_enter Tryz.func22, Tryz.ntmps22
    go_wp2_with fail
    go_loopw [13] (fun iv wr => ∃ (k nq : Nat), k ≤ a.length ∧ iv = .int .i64 k ∧ wr = w.drewN nq ∧ Hid (eqI (a.drop k) (b.drop k) = r)) (fun iv _ => a.length - (intOf iv).toNat)
    case atStart => exact ⟨0, 0, by omega, rfl, rfl, Lib.hid (by rw [HR.out]; simp)⟩
    case round =>
      obtain ⟨k, nq0, hk, rfl, rfl, hq0⟩ := hrel
      by_cases hlt : k < a.length
      · have hlb : k < b.length := by have := HLL.out; omega
        obtain ⟨ab, aoff, rfl, _, a0⟩ := int_at HA.out (List.getElem?_eq_getElem hlt)
        obtain ⟨bb, boff, rfl, _, b0⟩ := int_at HB.out (List.getElem?_eq_getElem hlb)
        have hda := List.drop_eq_getElem_cons hlt
        have hdb := List.drop_eq_getElem_cons hlb
        generalize a[k] = x at *
        generalize b[k] = y at *
        have HDA := Lib.hid hda
        have HDB := Lib.hid hdb
        clear hda hdb
        cases hqq : (x != y)
        · have HQ := Lib.hid hqq
          go_wp2_with fail
          go_quiet (fail)
          go_wp2_with fail
          go_roundw
          case rel => exact ⟨k + 1, _, by omega, by go_num, rfl, Lib.hid (by have h1 := hq0.out; rw [HDA.out, HDB.out] at h1; have h2 := HQ.out; simp at h2; rw [← h1]; unfold eqI; simp [h2])⟩
          case measure => simp [intOf]; omega
        · have HQ := Lib.hid hqq
          go_wp2_with fail
          go_quiet (fail)
          go_wp2_with fail
          go_ret
          exact ⟨by have h1 := hq0.out; rw [HDA.out, HDB.out] at h1; have h2 := HQ.out; simp at h2; rw [← h1]; unfold eqI; simp [h2], by repeat (first | exact Below.refl _ _ | apply below_drewN)⟩
      · obtain rfl : k = a.length := by omega
        go_wp2_with fail
        go_ret
        exact ⟨by have := hq0.out; rw [List.drop_length, HLL.out, List.drop_length] at this; rw [← this]; rfl, by repeat (first | exact Below.refl _ _ | apply below_drewN)⟩
  · have hll : a.length ≠ b.length := by simp at hl; omega
    have : eqI a b = false := by
      cases h : eqI a b with
      | false => rfl
      | true => rw [eqI_iff] at h; exact (hll (by rw [h])).elim
    rw [this]
    clear hll this
    go_enter Tryz.func22, Tryz.ntmps22
    go_wp2_with fail
    go_ret
    exact ⟨rfl, Below.refl _ _⟩

theorem equal_lit (q : Bool) (ao bo : Option Addr) (ac bc : Nat) (a b : List Int) (w : World) (hq : eqI a b = q) (ha : IRow w (.slice ao a.length ac) a) (hb : IRow w (.slice bo b.length bc) b) (h1 : a.length ≤ 100000) (h2 : b.length ≤ 100000) :
    Calls Tryz.prog 22 #[.slice ao a.length ac, .slice bo b.length bc] w fun e w' => e = .returned (.bool q) ∧ Below w.heap.size w w' := by
  rw [← hq]; exact equal_any ao bo ac bc a b w ha hb h1 h2

/-- Is an int among some? -/
def hasI (l : List Int) (x : Int) : Bool := l.contains x
theorem hasI_iff (l : List Int) (x : Int) : hasI l x = true ↔ x ∈ l := by unfold hasI; simp

end Go.Proofs.YtkdgbkhnnehedaaGreatDoor.Ints

namespace Go.Proofs.YtkdgbkhnnehedaaGreatDoor.Mrk
open Go.RowKit Go.Proofs.YtkdgbkhnnehedaaGreatDoor.Ints

/-- A tree's cells. -/
def lT (a : Nat → Nat) : List Value := (List.range 32).map fun i => .int .u64 (a i : Nat)
def vT (a : Nat → Nat) : Array Value := (lT a).toArray
theorem lT_len (a : Nat → Nat) : (lT a).length = 32 := by simp [lT]
theorem lT_at (a : Nat → Nat) {i : Nat} (h : i < 32) : (lT a)[i]? = some (.int .u64 (a i : Nat)) := by simp [lT, h]
/-- Block b is a variable that holds a tree. -/
def TreeAt (W : World) (t : TypeId) (b : Nat) (a : Nat → Nat) : Prop := W.heap[b]? = some (.cells (vT a) t (0, 0))
section
variable {W W' : World} {t : TypeId} {b : Nat} {a : Nat → Nat}
theorem TreeAt.lt (h : TreeAt W t b a) : b < W.heap.size := (Array.getElem?_eq_some_iff.1 h).1
theorem TreeAt.cell (h : TreeAt W t b a) {i : Nat} (hi : i < 32) : W.cell? ⟨b, i, none⟩ = some (.int .u64 (a i : Nat)) := by
  rw [cell_of_row W b i (vT a) t (0, 0) h]
  simpa [vT] using lT_at a hi
theorem TreeAt.kept {row : Option Nat} (h : TreeAt W t b a) (hg : W.grownBy W' row) (hne : some b ≠ row) : TreeAt W' t b a := (hg.block b h.lt hne).trans h
theorem TreeAt.below (h : TreeAt W t b a) (hb : Below W.heap.size W W') : TreeAt W' t b a := (hb.block b h.lt).trans h
theorem TreeAt.not_row (h : TreeAt W t b a) {e : TypeId} (hte : t ≠ e) {base size k : Nat} {v : Value} {xs : List Value} (hr : W.ownsRow base e size v k xs) : some b ≠ v.ownBlock := by
  rcases hr.2 with ⟨rfl, _⟩ | ⟨g, cap, cur, rfl, _, hgb, _⟩
  · simp [Value.ownBlock]
  · intro e'
    obtain rfl : b = g := by simpa [Value.ownBlock] using e'
    have := (show W.heap[b]? = _ from h).symm.trans hgb
    simp at this
    exact hte this.2
end

/-- What the closure stands on. -/
structure St (n₀ β bl bo bd ba bb : Nat) (a b : Nat → Nat) (out : List Int) (k : Nat) (W : World) : Prop where
  lk : Boxed W bl 3 (.int .i64 k)
  row : ∃ v, Boxed W bo 63 v ∧ W.ownsRow β 3 1 v out.length (out.flatMap enI)
  fn : Boxed W bd 178 (.func (.func 121) #[] #[.pointer (some ⟨bl, 0, none⟩), .pointer (some ⟨ba, 0, none⟩), .pointer (some ⟨bb, 0, none⟩), .pointer (some ⟨bo, 0, none⟩), .pointer (some ⟨bd, 0, none⟩)])
  at1 : TreeAt W 78 ba a
  at2 : TreeAt W 78 bb b
  base : n₀ ≤ bl ∧ n₀ ≤ bo ∧ n₀ ≤ β ∧ bl < β ∧ bo < β ∧ bd < β ∧ ba < β ∧ bb < β ∧ β ≤ W.heap.size
  ne : bl ≠ bo ∧ bl ≠ bd ∧ bl ≠ ba ∧ bl ≠ bb ∧ bo ≠ bd ∧ bo ≠ ba ∧ bo ≠ bb

theorem row_below {w w' : World} {base : Nat} {e : TypeId} {size : Nat} {v : Value} {n : Nat} {xs : List Value} (h : w.ownsRow base e size v n xs) (hb : Below w.heap.size w w') : w'.ownsRow base e size v n xs :=
  World.ownsRow.kept h (row := none) ⟨hb.os, hb.tape, hb.output, hb.size, fun i hi _ => hb.block i hi⟩ (by cases v.ownBlock <;> simp)

section
variable {n₀ β bl bo bd ba bb : Nat} {a b : Nat → Nat} {out : List Int} {k : Nat} {W W' : World}
theorem St.below (h : St n₀ β bl bo bd ba bb a b out k W) (hb : Below W.heap.size W W') : St n₀ β bl bo bd ba bb a b out k W' := by
  obtain ⟨v, h1, h2⟩ := h.row
  obtain ⟨b1, b2, b3, b4, b5, b6, b7, b8, b9⟩ := h.base
  exact ⟨box_below h.lk hb, ⟨v, box_below h1 hb, row_below h2 hb⟩, box_below h.fn hb, h.at1.below hb, h.at2.below hb, ⟨b1, b2, b3, b4, b5, b6, b7, b8, Nat.le_trans b9 hb.size⟩, h.ne⟩
theorem St.n0le (h : St n₀ β bl bo bd ba bb a b out k W) : n₀ ≤ W.heap.size := by
  have := h.base; omega
theorem St.look (h : St n₀ β bl bo bd ba bb a b out k W) : St n₀ β bl bo bd ba bb a b out (k + 1) (W.setCell ⟨bl, 0, none⟩ (.int .i64 ((k + 1 : Nat) : Int))) := by
  have hg := grownBy_setCell' W bl (.int .i64 ((k + 1 : Nat) : Int))
  obtain ⟨v, h1, h2⟩ := h.row
  obtain ⟨b1, b2, b3, b4, b5, b6, b7, b8, b9⟩ := h.base
  obtain ⟨n1, n2, n3, n4, n5, n6, n7⟩ := h.ne
  refine ⟨h.lk.set _, ⟨v, h1.kept hg (by simp; omega), h2.kept hg ?_⟩, h.fn.kept hg (by simp; omega), h.at1.kept hg (by simp; omega), h.at2.kept hg (by simp; omega), ⟨b1, b2, b3, b4, b5, b6, b7, b8, Nat.le_trans b9 hg.size⟩, h.ne⟩
  refine .inr fun e => ?_
  have := (World.ownsRow.lt h2 bl e).1
  omega
end

def DPost (n₀ β bl bo bd ba bb : Nat) (a b : Nat → Nat) (out : List Int) (k : Nat) (W : World) (e : Ending) (W' : World) : Prop :=
  (∃ v, e = .returned v) ∧ St n₀ β bl bo bd ba bb a b out k W' ∧ Below n₀ W W'

def sameAt (a b : Nat → Nat) (i : Nat) : Bool := decide (a i = b i)

abbrev downArgs (bl bo bd ba bb : Nat) (i : Int) : Array Value := #[.int .i64 i, .pointer (some ⟨bl, 0, none⟩), .pointer (some ⟨ba, 0, none⟩), .pointer (some ⟨bb, 0, none⟩), .pointer (some ⟨bo, 0, none⟩), .pointer (some ⟨bd, 0, none⟩)]
/-- What the closure does at node i. -/
def Downs (n₀ β bl bo bd ba bb : Nat) (a b : Nat → Nat) (i : Int) (T : List Int × Nat) : Prop :=
  ∀ (out : List Int) (k : Nat) (W : World), St n₀ β bl bo bd ba bb a b out k W → k + T.2 ≤ 1000 → out.length + T.1.length ≤ 1000 →
    Calls Tryz.prog 121 (downArgs bl bo bd ba bb i) W (DPost n₀ β bl bo bd ba bb a b (out ++ T.1) (k + T.2) W)

theorem info_parts_I : ∃ i : TypeInfo, Tryz.prog.info? 3 = some i ∧ i.zero = some (.int .i64 0) ∧ i.size = 1 ∧ i.bytes = 8 := by
  have h := info_I
  cases hq : Tryz.prog.info? 3 with
  | none => simp [hq] at h
  | some i => simp [hq] at h; exact ⟨i, rfl, h.1, h.2.1, h.2.2⟩

set_option maxHeartbeats 2000000 in
set_option maxRecDepth 100000 in
theorem down_same (n₀ β bl bo bd ba bb i : Nat) (a b : Nat → Nat) (hi : i < 32) (hab : a i = b i) : Downs n₀ β bl bo bd ba bb a b i ([], 1) := by
  intro out k W H hk ho
  have c0 := H.lk.cell
  have f0 := H.lk.frozen
  have hk : k + 1 ≤ 1000 := hk
  have hw : IntKind.i64.wrap ((k : Int) + 1) = (k : Int) + 1 := IntWalk.i64_in _ (by omega)
  have hl := H.look
  have hb0 : Below n₀ W (W.setCell ⟨bl, 0, none⟩ (.int .i64 ((k + 1 : Nat) : Int))) := (Below.refl n₀ W).setCell (p := ⟨bl, 0, none⟩) H.base.1 _
  obtain ⟨W1, hW1⟩ : ∃ W1, W1 = W.setCell ⟨bl, 0, none⟩ (.int .i64 ((k : Int) + 1)) := ⟨_, rfl⟩
  rw [show ((k + 1 : Nat) : Int) = (k : Int) + 1 from rfl, ← hW1] at hl hb0
  have ca := hl.at1.cell hi
  have cb := hl.at2.cell hi
  rw [hab] at ca
  have HL := Lib.hid hl
  clear H hl ho hab
  go_enter Tryz.func121, Tryz.ntmps121
  go_upto_region 3 with fail
  rw [← hW1]
  clear c0 f0 hW1
  go_quiet (fail)
  have hd := below_drewN (Below.refl W1.heap.size W1) nq
  go_wp2_with fail
  go_end0
  exact ⟨⟨_, rfl⟩, by have h := HL.out.below hd; simpa using h, hb0.trans (hd.mono HL.out.n0le)⟩

set_option maxHeartbeats 2000000 in
set_option maxRecDepth 100000 in
theorem down_leaf (n₀ β bl bo bd ba bb i : Nat) (a b : Nat → Nat) (hi : i < 32) (hab : ¬ a i = b i) (h16 : 16 ≤ i) : Downs n₀ β bl bo bd ba bb a b i ([(i : Int) - 16], 1) := by
  intro out k W H hk ho
  obtain ⟨i0, hi0, hz0, hz1, hz2⟩ := info_parts_I
  have HI := Lib.hid hi0
  have HZ0 := Lib.hid hz0
  have HZ1 := Lib.hid hz1
  have HZ2 := Lib.hid hz2
  have c0 := H.lk.cell
  have f0 := H.lk.frozen
  have hk : k + 1 ≤ 1000 := hk
  have ho : out.length + 1 ≤ 1000 := ho
  have hw : IntKind.i64.wrap ((k : Int) + 1) = (k : Int) + 1 := IntWalk.i64_in _ (by omega)
  have hw2 : IntKind.i64.wrap ((i : Int) - 16) = (i : Int) - 16 := IntWalk.i64_in _ (by omega)
  have hl := H.look
  have hb0 : Below n₀ W (W.setCell ⟨bl, 0, none⟩ (.int .i64 ((k + 1 : Nat) : Int))) := (Below.refl n₀ W).setCell (p := ⟨bl, 0, none⟩) H.base.1 _
  obtain ⟨W1, hW1⟩ : ∃ W1, W1 = W.setCell ⟨bl, 0, none⟩ (.int .i64 ((k : Int) + 1)) := ⟨_, rfl⟩
  rw [show ((k + 1 : Nat) : Int) = (k : Int) + 1 from rfl, ← hW1] at hl hb0
  have ca := hl.at1.cell hi
  have cb := hl.at2.cell hi
  obtain ⟨n, hn⟩ : ∃ n, n = out.length := ⟨_, rfl⟩
  rw [← hn] at ho
  have HL0 := Lib.hid hl
  have HN := Lib.hid hn
  clear H hl hn hi0 hz0 hz1 hz2
  go_enter Tryz.func121, Tryz.ntmps121
  go_upto_region 3 with fail
  rw [← hW1]
  clear c0 f0 hW1
  go_quiet (fail)
  have hdr := below_drewN (Below.refl W1.heap.size W1) nq
  have hl := HL0.out.below hdr
  have hb1 := hb0.trans (hdr.mono HL0.out.n0le)
  obtain ⟨W2, hW2⟩ : ∃ W2, W2 = W1.drewN nq := ⟨_, rfl⟩
  rw [← hW2] at hl hb1 ⊢
  obtain ⟨v, hv, hrow⟩ := hl.row
  rw [← HN.out] at hrow
  obtain ⟨ao, cap, rfl⟩ := row_form hrow
  have cv := hv.cell
  have HV := Lib.hid hv
  have HR := Lib.hid hrow
  have HL := Lib.hid hl
  clear hl hv hrow hdr hW2 ca cb
  go_wp2_with (at_builtin; refine wpList_append_own _ rfl _ _ 63 rfl β 3 i0 (.int .i64 0) 1 8 Tryz.underlying63 HI.out HZ0.out HZ1.out HZ2.out rfl (by decide) (.slice ao n cap) _ _ rfl (HR.out.alloc _) ⟨_, 0, none⟩ 1 1 (enI ((i : Int) - 16)) rfl rfl ?c1 ?c2 ?c3 ?c4 ?c5 ?_)
  case c2 => first | rfl | (intro u hu; simp at hu; subst hu; rfl)
  case c3 => unfold maxLen; omega
  case c4 => omega
  case c5 => have := HL.out.base; simp; omega
  intro v' w3 hown3 hgrow3 _
  obtain ⟨a1, a2, a3, a4, a5, a6⟩ := appended HV.out (by decide) HR.out HL.out.base.2.2.1 HL.out.base.2.2.2.2.2.2.2.2 HL.out.base.2.1 hown3 hgrow3
  have cB := a1.cell
  have fB := a1.frozen
  obtain ⟨gg, gc, rfl⟩ := ownsRow_succ hown3
  have S' : St n₀ β bl bo bd ba bb a b (out ++ [(i : Int) - 16]) (k + 1) (w3.setCell ⟨bo, 0, none⟩ (.slice (some ⟨gg, 0, none⟩) (n + 1) gc)) := by
    have hb := HL.out.base
    have hne := HL.out.ne
    have hgs := grownBy_setCell' w3 bo (.slice (some ⟨gg, 0, none⟩) (n + 1) gc)
    have hlt : ∀ x, x < β → some x ≠ (Value.slice ao n cap).ownBlock := fun x hx e => by
      have := (World.ownsRow.lt HR.out x e.symm).1; omega
    refine ⟨?_, ⟨_, a2, by rw [List.length_append, ← HN.out, List.flatMap_append, List.flatMap_singleton]; exact a3⟩, ?_, ?_, ?_, ⟨hb.1, hb.2.1, hb.2.2.1, hb.2.2.2.1, hb.2.2.2.2.1, hb.2.2.2.2.2.1, hb.2.2.2.2.2.2.1, hb.2.2.2.2.2.2.2.1, Nat.le_trans hb.2.2.2.2.2.2.2.2 a4.size⟩, hne⟩
    · exact ((HL.out.lk.alloc _).kept hgrow3 (hlt _ hb.2.2.2.1)).kept hgs (by simp; omega)
    · exact ((HL.out.fn.alloc _).kept hgrow3 (hlt _ hb.2.2.2.2.2.1)).kept hgs (by simp; omega)
    · exact ((HL.out.at1.kept (World.grownBy_alloc _ _ none) (by simp)).kept hgrow3 (hlt _ hb.2.2.2.2.2.2.1)).kept hgs (by simp; omega)
    · exact ((HL.out.at2.kept (World.grownBy_alloc _ _ none) (by simp)).kept hgrow3 (hlt _ hb.2.2.2.2.2.2.2.1)).kept hgs (by simp; omega)
  have HS := Lib.hid S'
  clear hown3 hgrow3 S' a2 a3 a4 a6
  go_wp2_with fail
  go_end0
  exact ⟨⟨_, rfl⟩, HS.out, hb1.trans a5⟩

set_option maxHeartbeats 2000000 in
set_option maxRecDepth 100000 in
theorem down_node (n₀ β bl bo bd ba bb i : Nat) (a b : Nat → Nat) (T2 T3 : List Int × Nat) (hi : i < 16) (hab : ¬ a i = b i) (h2 : Downs n₀ β bl bo bd ba bb a b (2 * i : Nat) T2) (h3 : Downs n₀ β bl bo bd ba bb a b ((2 * i : Nat) + 1) T3) :
    Downs n₀ β bl bo bd ba bb a b i (T2.1 ++ T3.1, 1 + T2.2 + T3.2) := by
  intro out k W H hk ho
  have c0 := H.lk.cell
  have f0 := H.lk.frozen
  have hk : k + (1 + T2.2 + T3.2) ≤ 1000 := hk
  have ho : out.length + (T2.1 ++ T3.1).length ≤ 1000 := ho
  rw [List.length_append] at ho
  have hw : IntKind.i64.wrap ((k : Int) + 1) = (k : Int) + 1 := IntWalk.i64_in _ (by omega)
  obtain ⟨j, hj⟩ : ∃ j, j = 2 * i := ⟨_, rfl⟩
  rw [← hj] at h2 h3
  have m1 : IntKind.i64.wrap (2 * (i : Int)) = (j : Int) := by rw [IntWalk.i64_in _ (by omega)]; omega
  have m2 : IntKind.i64.wrap ((j : Int) + 1) = (j : Int) + 1 := IntWalk.i64_in _ (by omega)
  have hl := H.look
  have hb0 : Below n₀ W (W.setCell ⟨bl, 0, none⟩ (.int .i64 ((k + 1 : Nat) : Int))) := (Below.refl n₀ W).setCell (p := ⟨bl, 0, none⟩) H.base.1 _
  obtain ⟨W1, hW1⟩ : ∃ W1, W1 = W.setCell ⟨bl, 0, none⟩ (.int .i64 ((k : Int) + 1)) := ⟨_, rfl⟩
  rw [show ((k + 1 : Nat) : Int) = (k : Int) + 1 from rfl, ← hW1] at hl hb0
  have ca := hl.at1.cell (i := i) (by omega)
  have cb := hl.at2.cell (i := i) (by omega)
  have HL0 := Lib.hid hl
  have H2 := Lib.hid h2
  have H3 := Lib.hid h3
  have HKO := Lib.hid (And.intro hk ho)
  clear H hl h2 h3 hj hk ho
  go_enter Tryz.func121, Tryz.ntmps121
  go_upto_region 3 with fail
  rw [← hW1]
  clear c0 f0 hW1
  go_quiet (fail)
  have hdr := below_drewN (Below.refl W1.heap.size W1) nq
  have hl := HL0.out.below hdr
  have hb1 := hb0.trans (hdr.mono HL0.out.n0le)
  obtain ⟨W1', hW2⟩ : ∃ W2, W2 = W1.drewN nq := ⟨_, rfl⟩
  rw [← hW2] at hl hb1 ⊢
  have cf := hl.fn.cell
  have k2 := H2.out out (k + 1) W1' hl (by have := HKO.out; omega) (by have := HKO.out; omega)
  have K2 := Lib.hid k2
  clear k2 hl hdr hW2
  go_wp2_with fail
  refine K2.out.mono ?_
  rintro e W2 ⟨⟨v, rfl⟩, hs2, hb2⟩
  have cf2 := hs2.fn.cell
  have k3 := H3.out _ _ W2 hs2 (by have := HKO.out; omega) (by have := HKO.out; rw [List.length_append]; omega)
  have K3 := Lib.hid k3
  clear k3 hs2 ca cb cf
  go_wp2_with fail
  refine K3.out.mono ?_
  rintro e W3 ⟨⟨v, rfl⟩, hs3, hb3⟩
  have HS := Lib.hid hs3
  clear hs3
  go_wp2_with fail
  go_end0
  exact ⟨⟨_, rfl⟩, by rw [← List.append_assoc, show k + (1 + T2.2 + T3.2) = k + 1 + T2.2 + T3.2 by omega]; exact HS.out, (hb1.trans hb2).trans hb3⟩

theorem down_any (n₀ β bl bo bd ba bb : Nat) (a b : Nat → Nat) : ∀ (f i : Nat), 16 ≤ i * 2 ^ f → (i + 1) * 2 ^ f ≤ 32 → Downs n₀ β bl bo bd ba bb a b i (downF (sameAt a b) f i)
  | 0, i, h16, h32 => by
    have h16 : 16 ≤ i := by simpa using h16
    have h32 : i + 1 ≤ 32 := by simpa using h32
    by_cases h : a i = b i
    · rw [downF, show sameAt a b i = true by simp [sameAt, h]]
      exact down_same _ _ _ _ _ _ _ i a b h32 h
    · rw [downF, show sameAt a b i = false by simp [sameAt, h]]
      exact down_leaf _ _ _ _ _ _ _ i a b h32 h h16
  | f + 1, i, h16, h32 => by
    have h1 : 1 ≤ 2 ^ f := Nat.one_le_two_pow
    have e1 : i * 2 ^ (f + 1) = 2 * i * 2 ^ f := by rw [Nat.pow_succ]; ac_rfl
    have e2 : (i + 1) * 2 ^ (f + 1) = (2 * i + 1 + 1) * 2 ^ f := by rw [Nat.pow_succ, show 2 * i + 1 + 1 = (i + 1) * 2 by omega]; ac_rfl
    rw [e1] at h16
    rw [e2] at h32
    have hle : (2 * i + 1 + 1) * 1 ≤ (2 * i + 1 + 1) * 2 ^ f := Nat.mul_le_mul_left _ h1
    by_cases h : a i = b i
    · rw [downF, show sameAt a b i = true by simp [sameAt, h]]
      exact down_same _ _ _ _ _ _ _ i a b (by omega) h
    · rw [downF, show sameAt a b i = false by simp [sameAt, h]]
      refine down_node _ _ _ _ _ _ _ i a b _ _ (by omega) h (down_any n₀ β bl bo bd ba bb a b f (2 * i) h16 (Nat.le_trans (Nat.mul_le_mul_right _ (by omega)) h32)) ?_
      exact down_any n₀ β bl bo bd ba bb a b f (2 * i + 1) (Nat.le_trans h16 (Nat.mul_le_mul_right _ (by omega))) h32
end Go.Proofs.YtkdgbkhnnehedaaGreatDoor.Mrk

namespace Go.Proofs.YtkdgbkhnnehedaaGreatDoor.Mrk
open Go.RowKit Go.Proofs.YtkdgbkhnnehedaaGreatDoor.Ints

theorem downF_bd (D : Nat → Bool) : ∀ f i, (downF D f i).2 ≤ 2 ^ (f + 1) - 1 ∧ (downF D f i).1.length ≤ 2 ^ f
  | 0, i => by unfold downF; cases D i <;> simp
  | f + 1, i => by
    have h1 := downF_bd D f (2 * i)
    have h2 := downF_bd D f (2 * i + 1)
    have h3 : 1 ≤ 2 ^ f := Nat.one_le_two_pow
    have e : 2 ^ (f + 1 + 1) = 2 * 2 ^ (f + 1) := by rw [Nat.pow_succ 2 (f + 1)]; omega
    have e1 : 2 ^ (f + 1) = 2 * 2 ^ f := by rw [Nat.pow_succ]; omega
    unfold downF
    cases D i
    · simp only [Bool.false_eq_true, if_false, List.length_append]
      omega
    · simp only [if_true, List.length_nil]
      omega

theorem push5 {α : Type} (H : Array α) (x0 x1 x2 x3 x4 : α) : (((((H.push x0).push x1).push x2).push x3).push x4)[H.size]? = some x0 ∧ (((((H.push x0).push x1).push x2).push x3).push x4)[H.size + 1]? = some x1 ∧
    (((((H.push x0).push x1).push x2).push x3).push x4)[H.size + 1 + 1]? = some x2 ∧ (((((H.push x0).push x1).push x2).push x3).push x4)[H.size + 1 + 1 + 1]? = some x3 ∧ (((((H.push x0).push x1).push x2).push x3).push x4)[H.size + 1 + 1 + 1 + 1]? = some x4 := by
  refine ⟨?_, ?_, ?_, ?_, ?_⟩ <;> simp only [Array.getElem?_push, Array.size_push] <;> (repeat' split) <;> (first | rfl | (exfalso; omega) | exact absurd trivial (by assumption))
/-- The variables, just laid. -/
def fnV (N : Nat) : Value := .func (.func 121) #[] #[.pointer (some ⟨N + 1 + 1 + 1, 0, none⟩), .pointer (some ⟨N, 0, none⟩), .pointer (some ⟨N + 1, 0, none⟩), .pointer (some ⟨N + 1 + 1, 0, none⟩), .pointer (some ⟨N + 1 + 1 + 1 + 1, 0, none⟩)]
def laid (w : World) (A B : Array Value) : World := (((((w.alloc (.cells A 78)).alloc (.cells B 78)).alloc (.cells #[.slice none 0 0] 63)).alloc (.cells #[.int .i64 0] 3)).alloc (.cells #[fnV w.heap.size] 178))
theorem laid_below (w : World) (A B : Array Value) : Below w.heap.size w (laid w A B) :=
  ((((((Below.refl _ _).alloc (Nat.le_refl _) _).alloc (by simp) _).alloc (by simp; omega) _).alloc (by simp; omega) _).alloc (by simp; omega) _)
theorem laid_st (w : World) (a b : Nat → Nat) : St w.heap.size (w.heap.size + 5) (w.heap.size + 1 + 1 + 1) (w.heap.size + 1 + 1) (w.heap.size + 1 + 1 + 1 + 1) w.heap.size (w.heap.size + 1) a b [] 0 (laid w (vT a) (vT b)) := by
  have hs : (laid w (vT a) (vT b)).heap.size = w.heap.size + 5 := by simp [laid]
  have hh : (laid w (vT a) (vT b)).heap = ((((w.heap.push (.cells (vT a) 78)).push (.cells (vT b) 78)).push (.cells #[.slice none 0 0] 63)).push (.cells #[.int .i64 0] 3)).push (.cells #[fnV w.heap.size] 178) := rfl
  refine ⟨?_, ⟨.slice none 0 0, ?_, World.ownsRow_nil _ _ _ _⟩, ?_, ?_, ?_, by omega, by omega⟩
  · unfold Boxed; rw [hh]; exact (push5 _ _ _ _ _ _).2.2.2.1
  · unfold Boxed; rw [hh]; exact (push5 _ _ _ _ _ _).2.2.1
  · unfold Boxed; rw [hh]; exact (push5 _ _ _ _ _ _).2.2.2.2
  · unfold TreeAt; rw [hh]; exact (push5 _ _ _ _ _ _).1
  · unfold TreeAt; rw [hh]; exact (push5 _ _ _ _ _ _).2.1

set_option maxHeartbeats 2000000 in
set_option maxRecDepth 100000 in
theorem differ_any (a b : Nat → Nat) (w : World) :
    Calls Tryz.prog 81 #[.agg (vT a), .agg (vT b)] w fun e w' => ∃ v, e = .returned (.tuple #[v, .int .i64 ((downF (sameAt a b) 4 1).2 : Nat)]) ∧
      w'.ownsRow w.heap.size 3 1 v (downF (sameAt a b) 4 1).1.length ((downF (sameAt a b) 4 1).1.flatMap enI) ∧ Below w.heap.size w w' := by
  have hbd := downF_bd (sameAt a b) 4 1
  have hdn := down_any w.heap.size (w.heap.size + 5) (w.heap.size + 1 + 1 + 1) (w.heap.size + 1 + 1) (w.heap.size + 1 + 1 + 1 + 1) w.heap.size (w.heap.size + 1) a b 4 1 (by decide) (by decide) [] 0 (laid w (vT a) (vT b)) (laid_st w a b) (by omega) (by simp; omega)
  obtain ⟨T, hT⟩ : ∃ T, T = downF (sameAt a b) 4 1 := ⟨_, rfl⟩
  rw [← hT] at hbd hdn ⊢
  have cf := (laid_st w a b).fn.cell
  have hbl := laid_below w (vT a) (vT b)
  obtain ⟨A, hA⟩ : ∃ A, A = vT a := ⟨_, rfl⟩
  obtain ⟨B, hB⟩ : ∃ A, A = vT b := ⟨_, rfl⟩
  rw [← hA, ← hB] at hdn cf hbl ⊢
  obtain ⟨W, hW⟩ : ∃ W, W = laid w A B := ⟨_, rfl⟩
  have hW' : (((((w.alloc (.cells A 78)).alloc (.cells B 78)).alloc (.cells #[.slice none 0 0] 63)).alloc (.cells #[.int .i64 0] 3)).alloc (.cells #[fnV w.heap.size] 178)) = W := by rw [hW]; rfl
  unfold fnV at hW'
  have HW := Lib.hid hW'
  rw [← hW] at hdn cf hbl
  have HDN := Lib.hid hdn
  clear hA hB hbd hdn hT hW hW'
  go_enter Tryz.func81, Tryz.ntmps81
  go_upto_region 5 with fail
  rw [HW.out]
  go_wp2_with fail
  refine HDN.out.mono ?_
  rintro e W2 ⟨⟨v, rfl⟩, hs2, hb2⟩
  rw [List.nil_append, Nat.zero_add] at hs2
  have cl := hs2.lk.cell
  obtain ⟨v, hv, hrow⟩ := hs2.row
  have cv := hv.cell
  have hb3 := hbl.trans hb2
  obtain ⟨ao, cap, rfl⟩ := row_form hrow
  obtain ⟨k, hk⟩ : ∃ k, k = T.2 := ⟨_, rfl⟩
  have HR := Lib.hid hrow
  rw [← hk] at cl
  have HK := Lib.hid hk
  clear hs2 hv hrow cf hbl hk
  go_wp2_with fail
  go_quiet (fail)
  have hd := below_drewN (Below.refl W2.heap.size W2) nq
  go_wp2_with fail
  go_ret2
  exact ⟨_, by rw [← HK.out]; rfl, row_below (own_base HR.out (by omega)) hd, below_then hb3 (Nat.le_refl _) hd⟩
end Go.Proofs.YtkdgbkhnnehedaaGreatDoor.Mrk

namespace Go.Proofs.YtkdgbkhnnehedaaGreatDoor.Mrk
open Go.RowKit Go.Proofs.YtkdgbkhnnehedaaGreatDoor.Ints

theorem vT_size (a : Nat → Nat) : (vT a).size = 32 := by simp [vT, lT]
theorem size51 : (Tryz.prog.info? 77).map (·.size) = some 32 := by kernel_rfl
theorem size52 : (Tryz.prog.info? 78).map (·.size) = some 32 := by kernel_rfl
theorem push2 {α : Type} (H : Array α) (x0 x1 : α) : ((H.push x0).push x1)[H.size]? = some x0 ∧ ((H.push x0).push x1)[H.size + 1]? = some x1 := by
  refine ⟨?_, ?_⟩ <;> simp only [Array.getElem?_push, Array.size_push] <;> (repeat' split) <;> (first | rfl | (exfalso; omega) | exact absurd trivial (by assumption))
/-- Two trees in variables that have just been laid. -/
def laid2 (w : World) (t : TypeId) (A B : Array Value) : World := (w.alloc (.cells A t)).alloc (.cells B t)
theorem laid2_at (w : World) (t : TypeId) (a b : Nat → Nat) : TreeAt (laid2 w t (vT a) (vT b)) t w.heap.size a ∧ TreeAt (laid2 w t (vT a) (vT b)) t (w.heap.size + 1) b := push2 w.heap _ _
theorem laid2_below (w : World) (t : TypeId) (A B : Array Value) : Below w.heap.size w (laid2 w t A B) := ((Below.refl _ _).alloc (Nat.le_refl _) _).alloc (by simp) _
theorem laid2_size (w : World) (t : TypeId) (A B : Array Value) : (laid2 w t A B).heap.size = w.heap.size + 2 := by simp [laid2]

theorem upF_zero (D : Nat → Bool) (f j : Nat) (h : j / 2 = 0) : upF D f j = true := by
  cases f with
  | zero => rfl
  | succ f => rw [upF, if_pos h]
theorem upF_step (D : Nat → Bool) (f j : Nat) (h : 0 < j / 2) (hf : j < 2 ^ f) : ∃ g, f = g + 1 ∧ j / 2 < 2 ^ g ∧ upF D f j = (!D (j / 2) && upF D g (j / 2)) := by
  cases f with
  | zero => simp at hf; omega
  | succ g =>
    refine ⟨g, rfl, ?_, ?_⟩
    · rw [Nat.pow_succ] at hf; omega
    · rw [upF, if_neg (by omega)]

theorem lookF_le (D : Nat → Bool) : ∀ n, lookF D n ≤ n
  | 0 => Nat.le_refl _
  | n + 1 => by have := lookF_le D n; unfold lookF; split <;> omega
theorem outF_le (D : Nat → Bool) : ∀ n, (outF D n).length ≤ n
  | 0 => Nat.le_refl _
  | n + 1 => by have := outF_le D n; unfold outF; split <;> simp <;> omega

end Go.Proofs.YtkdgbkhnnehedaaGreatDoor.Mrk

namespace Go.Proofs.YtkdgbkhnnehedaaGreatDoor.Mrk
open Go.RowKit Go.Proofs.YtkdgbkhnnehedaaGreatDoor.Ints

def okAt (a : Nat → Nat) (i : Nat) : Prop := a i = nodeF (a (2 * i)) (a (2 * i + 1))
instance (a : Nat → Nat) (i : Nat) : Decidable (okAt a i) := inferInstanceAs (Decidable (_ = _))
def soundF (a : Nat → Nat) : Bool := (List.range 16).all fun i => decide (i = 0) || decide (okAt a i)
theorem soundF_iff {a : Nat → Nat} : soundF a = true ↔ ∀ i, i < 16 → 1 ≤ i → okAt a i := by
  unfold soundF
  rw [List.all_eq_true]
  constructor
  · intro h i hi h1
    have := h i (List.mem_range.2 hi)
    rw [Bool.or_eq_true, decide_eq_true_iff, decide_eq_true_iff] at this
    rcases this with h0 | h0
    · omega
    · exact h0
  · intro h i hi
    rw [Bool.or_eq_true, decide_eq_true_iff, decide_eq_true_iff]
    by_cases h0 : i = 0
    · exact Or.inl h0
    · exact Or.inr (h i (List.mem_range.1 hi) (by omega))
theorem soundF_no {a : Nat → Nat} {i : Nat} (h1 : 1 ≤ i) (h : i < 16) (hn : ¬ okAt a i) : soundF a = false := by
  cases hs : soundF a
  · rfl
  · exact absurd (soundF_iff.1 hs i h h1) hn
theorem soundF_yes {a : Nat → Nat} (h : ∀ i, i < 16 → 1 ≤ i → okAt a i) : soundF a = true := soundF_iff.2 h
/-- A tree's sums are 64 bits wide. -/
def Wide (a : Nat → Nat) : Prop := ∀ i, i < 32 → a i < 18446744073709551616
theorem laid1_at (w : World) (t : TypeId) (a : Nat → Nat) : TreeAt (w.alloc (.cells (vT a) t)) t w.heap.size a := by
  show (w.heap.push _)[w.heap.size]? = _
  simp

set_option maxHeartbeats 2000000 in
set_option maxRecDepth 100000 in
theorem sound_any (a : Nat → Nat) (w : World) (ha : Wide a) :
    Calls Tryz.prog 29 #[.agg (vT a)] w fun e w' => e = .returned (.bool (soundF a)) ∧ Below w.heap.size w w' := by
  have hat := laid1_at w 78 a
  have hbl : Below w.heap.size w (w.alloc (.cells (vT a) 78)) := (Below.refl _ _).alloc (Nat.le_refl _) _
  obtain ⟨A, hA⟩ : ∃ A, A = vT a := ⟨_, rfl⟩
  rw [← hA] at hat hbl ⊢
  obtain ⟨W, hW⟩ : ∃ W, W = w.alloc (.cells A 78) := ⟨_, rfl⟩
  rw [← hW] at hat hbl
  have HW := Lib.hid hW.symm
  have HAT := Lib.hid hat
  have HWD := Lib.hid ha
  clear hat hW hA ha
  go_enter Tryz.func29, Tryz.ntmps29
  go_upto_region 1 with fail
  rw [HW.out]
  go_wp2_with fail
  go_loopw [3] (fun iv wr => ∃ (i : Nat), iv = .int .i64 i ∧ i ≤ 15 ∧ Hid (∀ j, j < 16 → 1 ≤ j → i < j → okAt a j) ∧ Below W.heap.size W wr) (fun iv _ => (intOf iv).toNat)
  case atStart => exact ⟨15, rfl, by omega, Lib.hid (fun j h1 h2 h3 => by omega), Below.refl _ _⟩
  case round =>
    obtain ⟨i, rfl, hi, hs, hb⟩ := hrel
    have T1 := HAT.out.below hb
    by_cases h0 : 0 < i
    · obtain ⟨j, hj⟩ : ∃ j, j = 2 * i := ⟨_, rfl⟩
      have c1 := T1.cell (i := i) (by omega)
      have c2 := T1.cell (i := j) (by omega)
      have c3 := T1.cell (i := j + 1) (by omega)
      have m1 : IntKind.i64.wrap (2 * (i : Int)) = (j : Int) := by rw [IntWalk.i64_in _ (by omega)]; omega
      have m2 : IntKind.i64.wrap ((j : Int) + 1) = (j : Int) + 1 := IntWalk.i64_in _ (by omega)
      have m3 : (0 : Int) ≤ (j : Int) + 1 := by omega
      have m4 : ((j : Int) + 1).toNat = j + 1 := by omega
      have m5 : j < 32 := by omega
      have m6 : j + 1 < 32 := by omega
      have m7 : (j : Int) + 1 < 32 := by omega
      have m8 : IntKind.i64.wrap ((i : Int) - 1) = ((i - 1 : Nat) : Int) := by rw [IntWalk.i64_in _ (by omega)]; omega
      have hx := HWD.out j m5
      have hy := HWD.out (j + 1) m6
      have hok : okAt a i ↔ a i = nodeF (a j) (a (j + 1)) := by rw [hj]; exact Iff.rfl
      obtain ⟨x, hxe⟩ : ∃ x, x = a j := ⟨_, rfl⟩
      obtain ⟨y, hye⟩ : ∃ x, x = a (j + 1) := ⟨_, rfl⟩
      obtain ⟨z, hze⟩ : ∃ x, x = a i := ⟨_, rfl⟩
      rw [← hxe] at hx hok c2
      rw [← hye] at hy hok c3
      rw [← hze] at hok c1
      have hnd : ∀ w', Calls Tryz.prog 73 #[.int .u64 x, .int .u64 y] w' fun e w'' => e = .returned (.int .u64 (nodeF x y : Nat)) ∧ Below w'.heap.size w' w'' := fun w' => node_any x y w' hx hy
      obtain ⟨N, hN⟩ : ∃ N, N = nodeF x y := ⟨_, rfl⟩
      rw [← hN] at hnd hok
      have HND := Lib.hid hnd
      have HOK := Lib.hid hok
      have hcb := T1.lt
      clear hnd hok hxe hye hze hN hj T1
      by_cases hz : z = N
      · have HZ := Lib.hid hz
        subst hz
        go_wp2_with fail
        refine wp_region_calm (by kernel_rfl) (by kernel_rfl) ?_
        repeat (go_big_quiet_step ((go_at_call 73; exact calm (HND.out _))))
        refine wpQuiet_nil ?_
        rintro _ ⟨q, rfl⟩
        go_wp2_with fail
        go_roundw
        case rel => exact ⟨i - 1, by first | rfl | go_num, by omega, Lib.hid (fun k h1 h2 h3 => by
          by_cases hk : k = i
          · subst hk; exact HOK.out.2 (by first | rfl | trivial)
          · exact hs.out k h1 h2 (by omega)), hb.trans (q.below.mono hb.size)⟩
        case measure => simp [intOf]; omega
      · have hfin : soundF a = false := soundF_no (i := i) (by omega) (by omega) (fun h => hz (HOK.out.1 h))
        have HF := Lib.hid hfin
        clear hfin
        go_wp2_with fail
        refine wp_region_calm (by kernel_rfl) (by kernel_rfl) ?_
        repeat (go_big_quiet_step ((go_at_call 73; exact calm (HND.out _))))
        refine wpQuiet_nil ?_
        rintro _ ⟨q, rfl⟩
        go_wp2_with fail
        go_ret
        exact ⟨by rw [HF.out]; rfl, (hbl.trans (hb.mono hbl.size)).trans (q.below.mono (Nat.le_trans hbl.size hb.size))⟩
    · have hfin : soundF a = true := soundF_yes (fun j h1 h2 => hs.out j h1 h2 (by omega))
      have HF := Lib.hid hfin
      clear hfin T1
      go_wp2_with fail
      go_ret
      exact ⟨by rw [HF.out]; rfl, hbl.trans (hb.mono hbl.size)⟩

theorem root_any (a : Nat → Nat) (w : World) :
    Calls Tryz.prog 28 #[.agg (vT a)] w fun e w' => e = .returned (.int .u64 (a 1 : Nat)) ∧ Below w.heap.size w w' := by
  have hat := laid1_at w 78 a
  have hbl : Below w.heap.size w (w.alloc (.cells (vT a) 78)) := (Below.refl _ _).alloc (Nat.le_refl _) _
  obtain ⟨A, hA⟩ : ∃ A, A = vT a := ⟨_, rfl⟩
  rw [← hA] at hat hbl ⊢
  obtain ⟨W, hW⟩ : ∃ W, W = w.alloc (.cells A 78) := ⟨_, rfl⟩
  rw [← hW] at hat hbl
  have HW := Lib.hid hW.symm
  have c1 := hat.cell (i := 1) (by decide)
  clear hat hW hA
  go_enter Tryz.func28, Tryz.ntmps28
  go_upto_region 1 with fail
  rw [HW.out]
  go_wp2_with fail
  go_ret
  exact ⟨rfl, hbl⟩
end Go.Proofs.YtkdgbkhnnehedaaGreatDoor.Mrk

namespace Go.Proofs.YtkdgbkhnnehedaaGreatDoor.Mrk
open Go.RowKit Go.Proofs.YtkdgbkhnnehedaaGreatDoor.Ints

set_option maxHeartbeats 2000000 in
set_option maxRecDepth 100000 in
theorem len64_none (w : World) : Calls Tryz.prog 184 #[.int .u64 0] w fun e w' => e = .returned (.int .i64 0) ∧ Below w.heap.size w w' := by
  go_enter Tryz.func184, Tryz.ntmps184
  go_wp2_with fail
  go_ret
  exact ⟨ret_int (by kernel_rfl), Below.refl _ _⟩
theorem len_none (w : World) : Calls Tryz.prog 151 #[.int .u64 0] w fun e w' => e = .returned (.int .i64 0) ∧ Below w.heap.size w w' := by
  go_enter Tryz.func151, Tryz.ntmps151
  go_wp2_with fail
  refine (len64_none _).mono ?_
  rintro e w1 ⟨rfl, hb⟩
  go_wp2_with fail
  go_ret
  exact ⟨rfl, hb⟩

/-- A slice of no mutations. -/
def Non (v : Value) : Prop := ∃ ao cap, v = .slice ao 0 cap

theorem insert_none (v c : Value) (w : World) (h : Non v) : Calls Tryz.prog 175 #[v, .int .i64 0, .int .i64 0, c] w fun e w' => e = .returned (.tuple #[]) ∧ Below w.heap.size w w' := by
  obtain ⟨ao, cap, rfl⟩ := h
  go_enter Tryz.func175, Tryz.ntmps175
  go_wp2_with fail
  go_loopw [8] (fun iv wr => iv = .int .i64 1 ∧ Below w.heap.size w wr) (fun _ _ => 0)
  case atStart => exact ⟨by first | rfl | go_num, Below.refl _ _⟩
  case round =>
    obtain ⟨rfl, hb⟩ := hrel
    go_wp2_with fail
    go_end0
    exact ⟨rfl, hb⟩

theorem pdq_none (v c : Value) (k : Int) (w : World) (h : Non v) : Calls Tryz.prog 150 #[v, .int .i64 0, .int .i64 0, .int .i64 k, c] w fun e w' => e = .returned (.tuple #[]) ∧ Below w.heap.size w w' := by
  have HI := Lib.hid (fun w => insert_none v c w h)
  obtain ⟨ao, cap, rfl⟩ := h
  go_enter Tryz.func150, Tryz.ntmps150
  go_wp2_with fail
  go_loopw [1, 2, 3] (fun av bv kv wr => av = .int .i64 0 ∧ bv = .int .i64 0 ∧ kv = .int .i64 k ∧ Below w.heap.size w wr) (fun _ _ _ _ => 0)
  case atStart => exact ⟨rfl, rfl, rfl, Below.refl _ _⟩
  case round =>
    obtain ⟨rfl, rfl, rfl, hb⟩ := hrel
    go_wp2_with fail
    refine (HI.out _).mono ?_
    rintro e w1 ⟨rfl, hb1⟩
    go_wp2_with fail
    refine bodyPost_ret (results_none rfl _ _ _) rfl ?_
    exact ⟨rfl, hb.trans (hb1.mono hb.size)⟩

theorem sort_none (v c : Value) (w : World) (h : Non v) : Calls Tryz.prog 113 #[v, c] w fun e w' => e = .returned (.tuple #[]) ∧ Below w.heap.size w w' := by
  have HP := Lib.hid (fun k w => pdq_none v c k w h)
  obtain ⟨ao, cap, rfl⟩ := h
  go_enter Tryz.func113, Tryz.ntmps113
  go_wp2_with fail
  refine (len_none _).mono ?_
  rintro e w1 ⟨rfl, hb⟩
  go_wp2_with fail
  refine (HP.out _ _).mono ?_
  rintro e w2 ⟨rfl, hb2⟩
  go_wp2_with fail
  go_end0
  exact ⟨rfl, hb.trans (hb2.mono hb.size)⟩

theorem grow_none (w : World) : Calls Tryz.prog 149 #[.slice none 0 0, .int .i64 0] w fun e w' => e = .returned (.slice none 0 0) ∧ w = w' := by
  go_enter Tryz.func149, Tryz.ntmps149
  go_wp2_with fail
  go_ret
  exact ⟨rfl, rfl⟩

set_option maxHeartbeats 1000000 in
theorem concat_none (b : Nat) (w : World) (hc : ∀ i, i < 3 → w.cell? ⟨b, i, none⟩ = some (.slice none 0 0)) : Calls Tryz.prog 112 #[.slice (some ⟨b, 0, none⟩) 3 3] w fun e w' => e = .returned (.slice none 0 0) ∧ w = w' := by
  have HC := Lib.hid hc
  clear hc
  go_enter Tryz.func112, Tryz.ntmps112
  go_wp2_with fail
  go_loop [3, 11] (fun nv iv => ∃ i : Nat, i ≤ 3 ∧ nv = .int .i64 0 ∧ iv = .int .i64 i) (fun _ iv => 3 - (intOf iv).toNat)
  case atStart => exact ⟨0, by omega, rfl, rfl⟩
  case round =>
    obtain ⟨i, hi, rfl, rfl⟩ := hrel
    by_cases hlt : i < 3
    · have c1 := HC.out i hlt
      go_wp2_with fail
      go_round
      case rel => exact ⟨i + 1, by omega, by first | rfl | go_num, by go_num⟩
      case measure => simp [intOf]; omega
    · obtain rfl : i = 3 := by omega
      go_wp2_with fail
      refine (grow_none _).mono ?_
      rintro e w1 ⟨rfl, rfl⟩
      go_wp2_with fail
      go_loop [6, 27] (fun nv iv => ∃ i : Nat, i ≤ 3 ∧ nv = .slice none 0 0 ∧ iv = .int .i64 i) (fun _ iv => 3 - (intOf iv).toNat)
      case atStart => exact ⟨0, by omega, rfl, rfl⟩
      case round =>
        obtain ⟨i, hi, rfl, rfl⟩ := hrel
        by_cases hlt : i < 3
        · have c1 := HC.out i hlt
          go_wp2_with fail
          go_round
          case rel => exact ⟨i + 1, by omega, by first | rfl | go_num, by go_num⟩
          case measure => simp [intOf]; omega
        · obtain rfl : i = 3 := by omega
          go_wp2_with fail
          go_ret
          exact ⟨rfl, rfl⟩

theorem info_M : (Tryz.prog.info? 28).map (fun i => (i.zero.isSome, i.size)) = some (true, 10) := by kernel_rfl
theorem info_parts_M : ∃ (i : TypeInfo) (z : Value), Tryz.prog.info? 28 = some i ∧ i.zero = some z ∧ i.size = 10 := by
  have h := info_M
  cases hq : Tryz.prog.info? 28 with
  | none => simp [hq] at h
  | some i =>
    simp [hq] at h
    obtain ⟨z, hz⟩ := Option.isSome_iff_exists.1 h.1
    exact ⟨i, z, rfl, hz, h.2⟩

set_option maxHeartbeats 1000000 in
set_option maxRecDepth 100000 in
theorem copies_none (w : World) : Calls Tryz.prog 111 #[.slice none 0 0] w fun e w' => ∃ v, e = .returned v ∧ Non v ∧ Below w.heap.size w w' := by
  obtain ⟨i0, z0, hi0, hz0, hz1⟩ := info_parts_M
  have HI := Lib.hid hi0
  have HZ0 := Lib.hid hz0
  have HZ1 := Lib.hid hz1
  clear hi0 hz0 hz1
  go_enter Tryz.func111, Tryz.ntmps111
  go_wp2_with (at_make; refine wpList_make_own _ rfl _ _ 29 rfl w.heap.size 28 i0 z0 10 Tryz.underlying29 HI.out HZ0.out HZ1.out .i64 .i64 0 0 rfl rfl rfl (by rw [Nat.mul_zero]; exact Nat.zero_le _) (Nat.zero_le _) (Nat.le_refl _) ?_; intro w0 hown0 hgrow0)
  have hb0 : Below w.heap.size w w0 := ⟨hgrow0.os, hgrow0.tape, hgrow0.output, hgrow0.size, fun i hi => hgrow0.block i hi (by simp)⟩
  clear hown0 hgrow0
  go_loopw [3, 11] (fun sv iv wr => iv = .int .i64 0 ∧ Non sv ∧ Below w.heap.size w wr) (fun _ _ _ => 0)
  case atStart => exact ⟨rfl, ⟨_, _, rfl⟩, hb0⟩
  case round =>
    obtain ⟨rfl, ⟨ao, cap, rfl⟩, hb⟩ := hrel
    go_wp2_with fail
    go_ret
    exact ⟨_, rfl, ⟨_, _, rfl⟩, hb⟩

/-- A content's cells. -/
def vNone : Value := .agg #[.slice none 0 0, .slice none 0 0, .slice none 0 0]

set_option maxHeartbeats 1000000 in
theorem all_none (w : World) : Calls Tryz.prog 70 #[vNone] w fun e w' => ∃ v, e = .returned v ∧ Non v ∧ Below w.heap.size w w' := by
  unfold vNone
  go_enter Tryz.func70, Tryz.ntmps70
  go_wp2_with fail
  refine (concat_none (w.heap.size + 1) _ ?_).mono ?_
  · intro i hi
    have h := new_cells (w.alloc (.cells #[Value.slice none 0 0, Value.slice none 0 0, Value.slice none 0 0] 47)) [Value.slice none 0 0, Value.slice none 0 0, Value.slice none 0 0] 29 i (.slice none 0 0) (by
      rcases (by omega : i = 0 ∨ i = 1 ∨ i = 2) with rfl | rfl | rfl <;> rfl)
    rw [addr_add] at h
    simpa using h
  rintro e w1 ⟨rfl, rfl⟩
  have hb0 : Below w.heap.size w ((w.alloc (.cells #[Value.slice none 0 0, Value.slice none 0 0, Value.slice none 0 0] 47)).alloc (.cells #[Value.slice none 0 0, Value.slice none 0 0, Value.slice none 0 0] 29)) := ((Below.refl _ _).alloc (Nat.le_refl _) _).alloc (by simp) _
  generalize ((w.alloc (.cells #[Value.slice none 0 0, Value.slice none 0 0, Value.slice none 0 0] 47)).alloc (.cells #[Value.slice none 0 0, Value.slice none 0 0, Value.slice none 0 0] 29)) = W1 at *
  go_wp2_with fail
  refine (copies_none _).mono ?_
  rintro e w2 ⟨v, rfl, hv, hb2⟩
  have HV := Lib.hid hv
  clear hv
  go_wp2_with fail
  refine (sort_none v _ _ HV.out).mono ?_
  rintro e w3 ⟨rfl, hb3⟩
  go_wp2_with fail
  go_ret
  exact ⟨_, rfl, HV.out, (hb0.trans (hb2.mono hb0.size)).trans (hb3.mono (Nat.le_trans hb0.size hb2.size))⟩
end Go.Proofs.YtkdgbkhnnehedaaGreatDoor.Mrk

namespace Go.Proofs.YtkdgbkhnnehedaaGreatDoor.Mrk
open Go.RowKit Go.Proofs.YtkdgbkhnnehedaaGreatDoor.Ints

/-! The tree of nothing: the same sum at all nodes of a level. -/
def lev : Nat → Nat
  | 0 => 14695981039346656037
  | k + 1 => nodeF (lev k) (lev k)
theorem lev_lt : ∀ k, lev k < 18446744073709551616
  | 0 => by decide
  | k + 1 => nodeF_lt _ _
def noneT (j : Nat) : Nat := if 16 ≤ j then lev 0 else if 8 ≤ j then lev 1 else if 4 ≤ j then lev 2 else if 2 ≤ j then lev 3 else if 1 ≤ j then lev 4 else 0
theorem noneT_wide : Wide noneT := by
  intro i _
  unfold noneT
  repeat' split
  all_goals first | exact lev_lt _ | omega
theorem noneT_ok : ∀ i, i < 16 → 1 ≤ i → okAt noneT i := by
  intro i h1 h2
  unfold okAt noneT
  by_cases h8 : 8 ≤ i
  · rw [if_neg (by omega), if_pos h8, if_pos (by omega), if_pos (by omega)]; rfl
  by_cases h4 : 4 ≤ i
  · rw [if_neg (by omega), if_neg h8, if_pos h4, if_neg (by omega), if_pos (by omega), if_neg (by omega), if_pos (by omega)]; rfl
  by_cases h2 : 2 ≤ i
  · rw [if_neg (by omega), if_neg h8, if_neg h4, if_pos h2, if_neg (by omega), if_neg (by omega), if_pos (by omega), if_neg (by omega), if_neg (by omega), if_pos (by omega)]; rfl
  · rw [if_neg (by omega), if_neg h8, if_neg h4, if_neg h2, if_pos (by omega), if_neg (by omega), if_neg (by omega), if_neg (by omega), if_pos (by omega), if_neg (by omega), if_neg (by omega), if_neg (by omega), if_pos (by omega)]; rfl

/-! Reckoned. -/
def lowK : Nat → Nat → List Nat
  | 0, _ => []
  | f + 1, n => n % 128 :: (if n / 128 = 0 then [] else lowK f (n / 128))
theorem low_fuel : ∀ (f n : Nat), n < 128 ^ (f + 1) → low n = lowK (f + 1) n
  | 0, n, h => by
    have : n / 128 = 0 := by rw [Nat.pow_one] at h; omega
    rw [low, lowK, if_pos this, if_pos this]
  | f + 1, n, h => by
    rw [low, lowK]
    split
    · rfl
    · rw [low_fuel f (n / 128) (by rw [Nat.div_lt_iff_lt_mul (by decide)]; rw [Nat.pow_succ] at h; exact h)]
def putK (n : Nat) : List Nat := hi (lowK 10 n).tail.reverse ++ [n % 128]
theorem put_fuel {n : Nat} (h : n < 18446744073709551616) : putF n = putK n := by
  unfold putF putK; rw [low_fuel 9 n (Nat.lt_of_lt_of_le h (by decide))]
def nodeK (a b : Nat) : Nat := sumF (sumF 14695981039346656037 (putK (a / 4))) (putK (b / 4) ++ [a % 4 * 4 + b % 4])
theorem node_fuel {a b : Nat} (ha : a < 18446744073709551616) (hb : b < 18446744073709551616) : nodeF a b = nodeK a b := by
  unfold nodeF nodeK; rw [put_fuel (by omega), put_fuel (by omega)]
def levK : Nat → Nat
  | 0 => 14695981039346656037
  | k + 1 => nodeK (levK k) (levK k)
theorem lev_fuel : ∀ k, lev k = levK k
  | 0 => rfl
  | k + 1 => by rw [lev, node_fuel (lev_lt k) (lev_lt k), lev_fuel k]; rfl
theorem lev4 : lev 4 ≠ 0 := by
  rw [lev_fuel]
  have h : Nat.beq (levK 4) 0 = false := by kernel_rfl
  exact Nat.ne_of_beq_eq_false h

theorem TreeAt.frozen {W : World} {t : TypeId} {b : Nat} {a : Nat → Nat} (h : TreeAt W t b a) (i : Nat) : W.frozen? ⟨b, i, none⟩ = false := frozen_of_row W b i (vT a) t h
def upd (a : Nat → Nat) (i x : Nat) : Nat → Nat := fun j => if j = i then x else a j
theorem TreeAt.set {W : World} {t : TypeId} {b : Nat} {a : Nat → Nat} (h : TreeAt W t b a) (i x : Nat) : TreeAt (W.setCell ⟨b, i, none⟩ (.int .u64 x)) t b (upd a i x) := by
  have h2 := heap_setCell_same W b i (vT a) t (.int .u64 x) h
  unfold TreeAt
  rw [h2]
  congr 2
  apply Array.ext_getElem?
  intro j
  by_cases hj : j < 32
  · by_cases hij : i = j
    · subst hij
      simp [vT, lT, upd, hj]
    · have hij' : ¬ j = i := fun e => hij e.symm
      rw [Array.getElem?_setIfInBounds_ne hij]
      simp [vT, lT, upd, hj, hij']
  · simp [vT, lT, hj]
theorem TreeAt.ext {W : World} {t : TypeId} {b : Nat} {a a' : Nat → Nat} (h : TreeAt W t b a) (e : ∀ i, i < 32 → a i = a' i) : TreeAt W t b a' := by
  have : vT a = vT a' := by
    unfold vT lT
    congr 1
    apply List.map_congr_left
    intro i hi
    rw [e i (List.mem_range.1 hi)]
  unfold TreeAt
  rw [← this]
  exact h
theorem zero_tree : (zeroValue 78).run Tryz.prog = fun w => .ok (.agg (vT fun _ => 0)) w := by
  funext w
  exact (zero_of_info (P := Tryz.prog) (t := 78) (v := .agg (vT fun _ => 0)) (n := 32) (by kernel_rfl)).1 w

theorem push3 {α : Type} (H : Array α) (x0 x1 x2 : α) : (((H.push x0).push x1).push x2)[H.size]? = some x0 ∧ (((H.push x0).push x1).push x2)[H.size + 1]? = some x1 ∧ (((H.push x0).push x1).push x2)[H.size + 1 + 1]? = some x2 := by
  refine ⟨?_, ?_, ?_⟩ <;> simp only [Array.getElem?_push, Array.size_push] <;> (repeat' split) <;> (first | rfl | (exfalso; omega) | exact absurd trivial (by assumption))
theorem built_tree : Tryz.prog.built 78 [] = some (vT fun _ => 0) := by kernel_rfl
theorem wp_alloc_tree {ops : Array Oper} {rest : List Oper} {o : Oper} {a : Act} {w : World} {Q : Exit → Act → World → Prop} (hg : o.guard = none) (hop : o.op = .alloc 78) (Z : Array Value) (hZ : Z = vT fun _ => 0)
    (h : wpList Tryz.prog ops Q rest (a.put o.dst (.pointer (some ⟨w.heap.size, 0, none⟩))) (w.alloc (.cells Z 78))) : wpList Tryz.prog ops Q (o :: rest) a w := by
  subst hZ
  refine Great.wpList_allocTo hg o.dst rfl (.pointer (some ⟨w.heap.size, 0, none⟩)) (.cells (vT fun _ => 0) 78) ?_ h
  unfold execOp
  simp only [hop, Instr.alloc, newVar, newRow, Sem.run_bind, Sem.run_pure, zero_tree, Result.andThen_ok, run_newObj_alloc, Value.cells]
theorem wp_build_tree {ops : Array Oper} {rest : List Oper} {o : Oper} {a : Act} {w : World} {Q : Exit → Act → World → Prop} (hg : o.guard = none) (hop : o.op = .build 78 #[]) (Z : Array Value) (hZ : Z = vT fun _ => 0)
    (h : wpList Tryz.prog ops Q rest (a.put o.dst (.agg Z)) w) : wpList Tryz.prog ops Q (o :: rest) a w := by
  subst hZ
  exact wpList_buildTo hg 78 #[] hop o.dst rfl (vT fun _ => 0) (by rw [Array.map_empty]; exact built_tree) h
theorem vT_one (a : Nat → Nat) : (vT a).all (·.oneCell') = true := by
  rw [Array.all_eq_true_iff_forall_mem]
  intro x hx
  simp [vT, lT] at hx
  obtain ⟨i, _, rfl⟩ := hx
  rfl

def noneC : Array Value := #[.slice none 0 0, .slice none 0 0, .slice none 0 0]
/-- What the walk of Of stands on: the content, the result's variable, the tree. -/
structure OfSt (w : World) (N : Nat) (a : Nat → Nat) (W : World) : Prop where
  tree : TreeAt W 78 (N + 1 + 1) a
  res : TreeAt W 78 (N + 1) fun _ => 0
  con : W.heap[N]? = some (.cells noneC 47 (0, 0))
  below : Below N w W
theorem OfSt.later {w W W' : World} {N : Nat} {a : Nat → Nat} (h : OfSt w N a W) (hb : Below W.heap.size W W') : OfSt w N a W' :=
  ⟨h.tree.below hb, h.res.below hb, (hb.block N (Array.getElem?_eq_some_iff.1 h.con).1).trans h.con, h.below.trans (hb.mono (Nat.le_of_lt (Array.getElem?_eq_some_iff.1 h.con).1))⟩
theorem OfSt.set {w W : World} {N : Nat} {a : Nat → Nat} (h : OfSt w N a W) (i x : Nat) : OfSt w N (upd a i x) (W.setCell ⟨N + 1 + 1, i, none⟩ (.int .u64 x)) := by
  have hg : W.grownBy (W.setCell ⟨N + 1 + 1, i, none⟩ (.int .u64 x)) (some (N + 1 + 1)) := grown_setCell (World.grownBy.refl _ _) (Or.inl rfl) _
  exact ⟨h.tree.set i x, h.res.kept hg (by simp), (hg.block N (Array.getElem?_eq_some_iff.1 h.con).1 (by simp; omega)).trans h.con, h.below.setCell (p := ⟨N + 1 + 1, i, none⟩) (by simp; omega) _⟩
theorem OfSt.ext {w W : World} {N : Nat} {a a' : Nat → Nat} (h : OfSt w N a W) (e : ∀ i, i < 32 → a i = a' i) : OfSt w N a' W := ⟨h.tree.ext e, h.res, h.con, h.below⟩
def leaves (i : Nat) : Nat → Nat := fun j => if 16 ≤ j ∧ j < 16 + i then lev 0 else 0
def above (i : Nat) : Nat → Nat := fun j => if i < j then noneT j else 0
theorem leaves_next {i : Nat} : ∀ j, j < 32 → upd (leaves i) (16 + i) (lev 0) j = leaves (i + 1) j := by
  intro j hj
  unfold upd leaves
  split <;> split <;> (try split) <;> first | rfl | omega
theorem leaves_all : ∀ j, j < 32 → leaves 16 j = above 15 j := by
  intro j hj
  unfold leaves above noneT
  by_cases h : 16 ≤ j
  · rw [if_pos (by omega), if_pos (by omega), if_pos h]
  · rw [if_neg (by omega), if_neg (by omega)]
theorem above_next {i : Nat} (hi : 0 < i) : ∀ j, j < 32 → upd (above i) i (noneT i) j = above (i - 1) j := by
  intro j hj
  unfold upd above
  by_cases h : j = i
  · subst h; rw [if_pos rfl, if_pos (by omega)]
  · rw [if_neg h]
    by_cases h2 : i < j
    · rw [if_pos h2, if_pos (by omega)]
    · rw [if_neg h2, if_neg (by omega)]
theorem above_none : ∀ j, j < 32 → above 0 j = noneT j := by
  intro j hj
  unfold above
  by_cases h : 0 < j
  · rw [if_pos h]
  · obtain rfl : j = 0 := by omega
    rfl

set_option maxHeartbeats 4000000 in
set_option maxRecDepth 100000 in
theorem of_none (w : World) : Calls Tryz.prog 26 #[vNone] w fun e w' => e = .returned (.agg (vT noneT)) ∧ Below w.heap.size w w' := by
  have hZs : (Tryz.prog.info? 78).map (·.size) = some (vT fun _ => 0).size := by rw [vT_size]; exact size52
  have hZ1 := vT_one (fun _ => 0)
  obtain ⟨Z, hZ⟩ : ∃ Z, Z = vT fun _ => 0 := ⟨_, rfl⟩
  rw [← hZ] at hZs hZ1
  have HZ := Lib.hid hZ
  have HZS := Lib.hid hZs
  have HZ1 := Lib.hid hZ1
  clear hZ hZs hZ1
  unfold vNone
  go_enter Tryz.func26, Tryz.ntmps26
  go_upto_region 1 with (first | (refine wp_alloc_tree rfl rfl Z HZ.out ?_))
  apply wp_region_lit
  refine wp_build_tree rfl rfl Z HZ.out ?_
  refine wp_alloc_tree rfl rfl Z HZ.out ?_
  refine wpList_store_row rfl 78 _ _ rfl _ Z rfl rfl 78 Z (heap_alloc_last _ _) HZS.out rfl HZ1.out ?_
  rw [World.setRow_alloc_new]
  obtain ⟨W, hW⟩ : ∃ W, W = ((w.alloc (.cells #[Value.slice none 0 0, Value.slice none 0 0, Value.slice none 0 0] 47)).alloc (.cells Z 78)).alloc (.cells Z 78) := ⟨_, rfl⟩
  have hw3 : W.heap = ((w.heap.push (.cells #[Value.slice none 0 0, Value.slice none 0 0, Value.slice none 0 0] 47)).push (.cells Z 78)).push (.cells Z 78) := by rw [hW]; rfl
  have hC : W.heap[w.heap.size]? = some (.cells noneC 47 (0, 0)) := by rw [hw3]; exact (push3 w.heap _ _ _).1
  have hR : TreeAt W 78 (w.heap.size + 1) fun _ => 0 := by unfold TreeAt; rw [hw3, ← HZ.out]; exact (push3 w.heap _ _ _).2.1
  have hT : TreeAt W 78 (w.heap.size + 1 + 1) fun _ => 0 := by unfold TreeAt; rw [hw3, ← HZ.out]; exact (push3 w.heap _ _ _).2.2
  have hb0 : Below w.heap.size w W := by rw [hW]; exact (((Below.refl _ _).alloc (Nat.le_refl _) _).alloc (by simp) _).alloc (by simp; omega) _
  rw [← hW]
  have S0 : OfSt w w.heap.size (fun _ => 0) W := ⟨hT, hR, hC, hb0⟩
  have S1 := Lib.hid (S0.ext (a' := leaves 0) (fun j _ => by unfold leaves; rw [if_neg (by omega)]))
  clear hW hw3 hC hR hT hb0 S0
  go_upto_region 3 with fail
  go_loopw [10] (fun iv wr => ∃ i : Nat, iv = .int .i64 i ∧ i ≤ 16 ∧ Hid (OfSt w w.heap.size (leaves i) wr)) (fun iv _ => 16 - (intOf iv).toNat)
  case atStart => exact ⟨0, rfl, by omega, S1⟩
  case round =>
    obtain ⟨i, rfl, hi, hs⟩ := hrel
    by_cases hlt : i < 16
    · have m1 : IntKind.i64.wrap (16 + (i : Int)) = 16 + (i : Int) := IntWalk.i64_in _ (by omega)
      have m2 : (0 : Int) ≤ 16 + (i : Int) := by omega
      have m3 : (16 + (i : Int)).toNat = 16 + i := by omega
      have m4 : 16 + (i : Int) < 32 := by omega
      have m5 : 16 + i < 32 := by omega
      have c1 := hs.out.tree.cell (i := 16 + i) m5
      have f1 := hs.out.tree.frozen (16 + i)
      have S2 := Lib.hid ((hs.out.set (16 + i) (lev 0)).ext leaves_next)
      go_wp2_with fail
      go_roundw
      case rel => exact ⟨i + 1, by go_num, by omega, S2⟩
      case measure => simp [intOf]; omega
    · obtain rfl : i = 16 := by omega
      have S3 := Lib.hid (hs.out.ext leaves_all)
      have g0 : wr.cell? ⟨w.heap.size, 0, none⟩ = some (.slice none 0 0) := by rw [cell_of_row wr w.heap.size 0 noneC _ (0, 0) hs.out.con]; rfl
      have g1 : wr.cell? ⟨w.heap.size, 1, none⟩ = some (.slice none 0 0) := by rw [cell_of_row wr w.heap.size 1 noneC _ (0, 0) hs.out.con]; rfl
      have g2 : wr.cell? ⟨w.heap.size, 2, none⟩ = some (.slice none 0 0) := by rw [cell_of_row wr w.heap.size 2 noneC _ (0, 0) hs.out.con]; rfl
      have hal := Lib.hid (all_none wr)
      unfold vNone at hal
      go_wp2_with fail
      refine hal.out.mono ?_
      rintro e w2 ⟨v, rfl, ⟨ao, cap, rfl⟩, hb2⟩
      have S4 := Lib.hid (S3.out.later hb2)
      go_wp2_with fail
      go_loopw [20] (fun iv wr => iv = .int .i64 0 ∧ Hid (OfSt w w.heap.size (above 15) wr)) (fun _ _ => 0)
      case atStart => exact ⟨rfl, S4⟩
      case round =>
        obtain ⟨rfl, hs⟩ := hrel
        go_wp2_with fail
        go_loopw [8] (fun iv wr => ∃ i : Nat, iv = .int .i64 i ∧ i ≤ 15 ∧ Hid (OfSt w w.heap.size (above i) wr)) (fun iv _ => (intOf iv).toNat)
        case atStart => exact ⟨15, rfl, by omega, hs⟩
        case round =>
          obtain ⟨i, rfl, hi, hs⟩ := hrel
          by_cases h0 : 0 < i
          · obtain ⟨j, hj⟩ : ∃ j, j = 2 * i := ⟨_, rfl⟩
            have m1 : IntKind.i64.wrap (2 * (i : Int)) = (j : Int) := by rw [IntWalk.i64_in _ (by omega)]; omega
            have m2 : IntKind.i64.wrap ((j : Int) + 1) = (j : Int) + 1 := IntWalk.i64_in _ (by omega)
            have m3 : (0 : Int) ≤ (j : Int) + 1 := by omega
            have m4 : ((j : Int) + 1).toNat = j + 1 := by omega
            have m5 : j < 32 := by omega
            have m6 : j + 1 < 32 := by omega
            have m7 : (j : Int) + 1 < 32 := by omega
            have m8 : IntKind.i64.wrap ((i : Int) - 1) = ((i - 1 : Nat) : Int) := by rw [IntWalk.i64_in _ (by omega)]; omega
            have m9 : i < 32 := by omega
            have e2 : above i j = noneT j := if_pos (by omega)
            have e3 : above i (j + 1) = noneT (j + 1) := if_pos (by omega)
            have c2 := hs.out.tree.cell (i := j) m5
            have c3 := hs.out.tree.cell (i := j + 1) m6
            have hok : noneT i = nodeF (noneT j) (noneT (j + 1)) := by rw [hj]; exact noneT_ok i (by omega) h0
            have hnd := fun w' => node_any (noneT j) (noneT (j + 1)) w' (noneT_wide j m5) (noneT_wide (j + 1) m6)
            rw [← hok] at hnd
            rw [e2] at c2
            rw [e3] at c3
            generalize noneT j = x at *
            generalize noneT (j + 1) = y at *
            have hnx : ∀ k, k < 32 → upd (above i) i (noneT i) k = above (i - 1) k := above_next h0
            obtain ⟨z, hz⟩ : ∃ z, z = noneT i := ⟨_, rfl⟩
            rw [← hz] at hnd hnx
            have HND := Lib.hid hnd
            have HNX := Lib.hid hnx
            have hT := hs.out.tree.lt
            obtain ⟨W0, rfl⟩ : ∃ W0 : World, W0 = wr := ⟨_, rfl⟩
            clear hok hnd hnx hz e2 e3 hj
            go_wp2_with fail
            refine wp_region_calm_tail 12 (by kernel_rfl) (by kernel_rfl) ?_
            simp only [List.take_succ_cons, List.take_zero, List.drop_succ_cons, List.drop_zero]
            repeat (go_big_quiet_step ((go_at_call 73; exact calm (HND.out _))))
            refine wpQuiet_nil ?_
            rintro _ ⟨q, rfl⟩
            have hsq := hs.out.later q.below
            have cq := hsq.tree.cell (i := i) m9
            have fq := hsq.tree.frozen i
            have S5 := Lib.hid ((hsq.set i z).ext HNX.out)
            clear hsq
            go_wp2_with fail
            go_roundw
            case rel => exact ⟨i - 1, by first | rfl | go_num, by omega, S5⟩
            case measure => simp [intOf]; omega
          · obtain rfl : i = 0 := by omega
            have S6 := Lib.hid (hs.out.ext above_none)
            have hsz : (Tryz.prog.info? 78).map (·.size) = some (vT noneT).size := by rw [vT_size]; exact size52
            have hone := vT_one noneT
            have hq : (vT fun _ => 0).size = (vT noneT).size := by rw [vT_size, vT_size]
            obtain ⟨Y, hY⟩ : ∃ Y, Y = vT noneT := ⟨_, rfl⟩
            obtain ⟨Y0, hY0⟩ : ∃ Y, Y = vT fun _ => 0 := ⟨_, rfl⟩
            have h6t : wr.heap[w.heap.size + 1 + 1]? = some (.cells Y 78 (0, 0)) := by rw [hY]; exact S6.out.tree
            have h6r : wr.heap[w.heap.size + 1]? = some (.cells Y0 78 (0, 0)) := by rw [hY0]; exact S6.out.res
            rw [← hY] at hsz hone hq
            have HY := Lib.hid hY
            rw [← hY0] at hq
            have h7 : (wr.setRow (w.heap.size + 1) Y).heap[w.heap.size + 1]? = some (.cells Y 78 (0, 0)) := setRow_heap _ _ _ _ _ _ h6r
            have h8 : Below w.heap.size w (wr.setRow (w.heap.size + 1) Y) := below_setRow S6.out.below (by omega) _
            have HSZ := Lib.hid hsz
            have HONE := Lib.hid hone
            have HQ := Lib.hid hq
            have H6T := Lib.hid h6t
            have H6R := Lib.hid h6r
            have H7 := Lib.hid h7
            have H8 := Lib.hid h8
            clear hsz hone hq hY hY0 h6t h6r h7 h8
            go_upto_region 17 with fail
            apply wp_region_lit
            refine wpList_load_row rfl 78 _ rfl (w.heap.size + 1 + 1) rfl 78 Y (0, 0) _ H6T.out Tryz.underlying78 rfl HSZ.out ?_
            refine wpList_store_row rfl 78 _ _ rfl (w.heap.size + 1) Y rfl rfl 78 Y0 H6R.out HSZ.out HQ.out HONE.out ?_
            go_wp2_with fail
            refine bodyPost_ret (v := .agg Y) (results_cell_row rfl _ _ (w.heap.size + 1) 78 Y (0, 0) _ rfl H7.out Tryz.underlying78 rfl HSZ.out) rfl ⟨by rw [HY.out], H8.out⟩
end Go.Proofs.YtkdgbkhnnehedaaGreatDoor.Mrk

namespace Go.Proofs.YtkdgbkhnnehedaaGreatDoor.Mrk
open Go.RowKit

theorem step_wide (x c : Nat) (hx : x < 18446744073709551616) (hc : c < 18446744073709551616) : IntKind.u64.wrap (bits .xor .u64 (x : Int) (c : Int) * 1099511628211) = ((on1 x c : Nat) : Int) := by
  rw [u64_xor_nat x c hx hc, IntKind.wrap_u64]
  unfold on1
  omega
/-- The leaf of a key. -/
def bucketF (s : ByteArray) : Nat := onF 14695981039346656037 ((runesOf s).map Int.toNat) / 1152921504606846976
theorem bucketF_lt (s : ByteArray) : bucketF s < 16 := by
  have h := onF_lt (x := 14695981039346656037) (by decide) ((runesOf s).map Int.toNat)
  unfold bucketF
  omega
theorem runesFrom_cons (s : ByteArray) (f : Nat) {pos : Nat} (h : pos < s.size) : (runesFrom s (f + 1) pos).map Int.toNat = (Utf8.decode s pos).1 :: (runesFrom s f (pos + (Utf8.decode s pos).2)).map Int.toNat := by
  rw [runesFrom_step s f h, List.map_cons]
  rfl
theorem rune_lt (s : ByteArray) {pos : Nat} (h : pos < s.size) : (Utf8.decode s pos).1 ≤ 2147483647 := by
  have := runesFrom_bound s 1 pos ((Utf8.decode s pos).1 : Int) (by rw [runesFrom_step s 0 h]; exact List.mem_cons_self ..)
  omega

set_option maxHeartbeats 2000000 in
set_option maxRecDepth 100000 in
theorem bucket_any (s : ByteArray) (w : World) (hs : s.size ≤ 1000000) : Calls Tryz.prog 30 #[.string s] w fun e w' => e = .returned (.int .i64 (bucketF s : Nat)) ∧ Below w.heap.size w w' := by
  obtain ⟨L, hL⟩ : ∃ L, L = onF 14695981039346656037 ((runesOf s).map Int.toNat) := ⟨_, rfl⟩
  have hbk : bucketF s = L / 1152921504606846976 := by rw [hL]; rfl
  rw [hbk]
  have HL := Lib.hid hL
  clear hL hbk
  go_enter Tryz.func30, Tryz.ntmps30
  go_wp2_with fail
  go_loopw [3] (fun xv wr => ∃ (pos fuel x : Nat), wr.heap[w.heap.size]? = some (.stringIter s pos) ∧ Hid (Below w.heap.size w wr) ∧ xv = .int .u64 x ∧ x < 18446744073709551616 ∧
    Hid (onF x ((runesFrom s fuel pos).map Int.toNat) = L) ∧ s.size ≤ pos + fuel) (fun _ wr => s.size - wr.iterPos w.heap.size)
  case atStart => exact ⟨0, s.size, _, World.iter_heap w s 0, Lib.hid ((Below.refl _ _).alloc (Nat.le_refl _) _), rfl, by decide, Lib.hid HL.out.symm, by omega⟩
  case round =>
    obtain ⟨pos, fuel, x, hit, hB, rfl, hx, hon, hf⟩ := hrel
    have hpos0 := iter_pos hit
    by_cases hp : pos < s.size
    · have hnx : ∀ ty, (Instr.next (.pointer (some ⟨w.heap.size, 0, none⟩)) true ty).run Tryz.prog wr = _ := fun ty => Lib.run_next_any_at wr w.heap.size s pos ty hit hp
      have hwd := width_pos s pos hp
      obtain ⟨fuel, rfl⟩ : ∃ f', fuel = f' + 1 := ⟨fuel - 1, by omega⟩
      have hst := runesFrom_cons s fuel hp
      have hrl := rune_lt s hp
      obtain ⟨W1, hW1⟩ : ∃ W1, W1 = wr.iterAt w.heap.size s (pos + (Utf8.decode s pos).2) := ⟨_, rfl⟩
      have hit2 : W1.heap[w.heap.size]? = some (.stringIter s (pos + (Utf8.decode s pos).2)) := by rw [hW1]; exact Lib.iterAt_heap wr w.heap.size s pos _ hit
      have hB1 : Below w.heap.size w W1 := by rw [hW1]; exact Lib.below_iterAt hB.out (Nat.le_refl _) s _
      rw [← hW1] at hnx
      have hon2 := hon.out
      rw [hst] at hon2
      have hlt2 : pos < pos + (Utf8.decode s pos).2 := by omega
      generalize (Utf8.decode s pos).1 = r at *
      generalize pos + (Utf8.decode s pos).2 = pos2 at *
      have HI2 := Lib.hid hit2
      have HB1 := Lib.hid hB1
      have HP0 := Lib.hid hpos0
      have hu := u64_nat r (by omega)
      have hstep := step_wide x r hx (by omega)
      have hz := on1_lt x r
      obtain ⟨z, hze⟩ : ∃ z, z = on1 x r := ⟨_, rfl⟩
      have HON := Lib.hid (show onF z ((runesFrom s fuel pos2).map Int.toNat) = L from by rw [hze]; exact hon2)
      rw [← hze] at hstep hz
      clear hW1 hit hB hit2 hB1 hst hwd hpos0 hon hon2 hze
      go_wp2_with fail
      go_roundw
      case rel => exact ⟨pos2, fuel, z, HI2.out, HB1, rfl, hz, HON, by omega⟩
      case measure => rw [iter_pos HI2.out, HP0.out]; omega
    · have hnx : ∀ ty, (Instr.next (.pointer (some ⟨w.heap.size, 0, none⟩)) true ty).run Tryz.prog wr = _ := fun ty => Lib.run_next_end_at wr w.heap.size s pos ty hit hp
      have hxl : x = L := by have h := hon.out; rw [runesFrom_end s fuel hp] at h; exact h
      clear hit hpos0 hon
      go_wp2_with fail
      go_ret
      exact ⟨by simp, hB.out⟩

set_option maxHeartbeats 2000000 in
set_option maxRecDepth 100000 in
theorem refbucket_any (s : ByteArray) (w : World) (hs : s.size ≤ 1000000) : Calls Tryz.prog 31 #[.string s] w fun e w' => e = .returned (.int .i64 (bucketF s : Nat)) ∧ Below w.heap.size w w' := by
  obtain ⟨G, C, hcv, hG, hC⟩ := runes_row (P := Tryz.prog) 9 134 21 s Tryz.underlying9 Tryz.underlying134 Tryz.underlying21 (by omega)
  have hln := runesOf_len s
  have hbd := runesOf_bound s
  obtain ⟨Q, hQ⟩ : ∃ L, L = onF 14695981039346656037 ((runesOf s).map Int.toNat) := ⟨_, rfl⟩
  have hbk : bucketF s = Q / 1152921504606846976 := by rw [hQ]; rfl
  rw [hbk]
  obtain ⟨n, hn⟩ : ∃ n, n = (runesOf s).length := ⟨_, rfl⟩
  obtain ⟨L, hL⟩ : ∃ L, L = runesOf s := ⟨_, rfl⟩
  rw [← hL] at hC hcv hn hG hbd hln hQ
  rw [← hn] at hcv hG hln
  have HG := Lib.hid hG
  have HC := Lib.hid hC
  have HN := Lib.hid hn
  have HBD := Lib.hid hbd
  have HQ := Lib.hid hQ
  clear hG hC hn hL hbd hQ hbk
  have hnm : n ≤ 1000000 := by omega
  go_enter Tryz.func31, Tryz.ntmps31
  go_wp2_with fail
  refine (first_any w).mono ?_
  rintro e w1 ⟨rfl, rfl⟩
  obtain ⟨W1, hW1⟩ : ∃ W1, W1 = (w.alloc (.cells (C w) 21)).drew := ⟨_, rfl⟩
  have HW1 := Lib.hid hW1
  have HB1 := Lib.hid (show Below w.heap.size w W1 from by rw [hW1]; exact ((Below.refl _ _).alloc (Nat.le_refl _) _).drew)
  have HCL := Lib.hid (show ∀ (i : Nat) (x : Int), L[i]? = some x → W1.cell? ⟨w.heap.size, i, none⟩ = some (.int .i32 x) from fun i x hx => by
    rw [hW1]
    have := HC.out w i x hx
    go_simp)
  have hgl : w.heap.size < W1.heap.size := by rw [hW1]; simp
  have HGL := Lib.hid (HG.out w)
  obtain ⟨gc, hgc⟩ : ∃ g, g = G w := ⟨_, rfl⟩
  clear hW1
  go_wp2_with fail
  rw [← HW1.out, ← hgc]
  rw [← hgc] at HGL
  clear HW1 hcv HG HC hgc
  go_loop [3, 5] (fun xv iv => ∃ (k y : Nat), iv = .int .i64 k ∧ xv = .int .u64 y ∧ k ≤ n ∧ y < 18446744073709551616 ∧ Hid (onF y ((L.drop k).map Int.toNat) = Q)) (fun _ iv => n - (intOf iv).toNat)
  case atStart => exact ⟨0, _, rfl, rfl, by omega, by decide, Lib.hid (by rw [List.drop_zero]; exact HQ.out.symm)⟩
  case round =>
    obtain ⟨k, y, rfl, rfl, hkn, hy, hs⟩ := hrel
    by_cases hlt : k < n
    · have hkl : k < L.length := by have := HN.out; omega
      obtain ⟨c, hc⟩ : ∃ c, L[k]? = some c := ⟨_, List.getElem?_eq_getElem hkl⟩
      have hcell := HCL.out k c hc
      obtain ⟨hb0, hb1⟩ := HBD.out c (List.mem_of_getElem? hc)
      obtain ⟨r, rfl⟩ : ∃ r : Nat, c = (r : Int) := ⟨c.toNat, by omega⟩
      have hu := u64_nat r (by omega)
      have hstep := step_wide y r hy (by omega)
      have hs' : onF (on1 y r) ((L.drop (k + 1)).map Int.toNat) = Q := by
        have h := hs.out
        rw [List.drop_eq_getElem_cons hkl] at h
        have e : L[k] = (r : Int) := (List.getElem?_eq_some_iff.1 hc).2
        rw [e, List.map_cons] at h
        exact h
      have HS := Lib.hid hs'
      have hz := on1_lt y r
      obtain ⟨z, hze⟩ : ∃ z, z = on1 y r := ⟨_, rfl⟩
      rw [← hze] at hstep HS hz
      clear hs' hc hs hze
      have hgc := HGL.out.1
      go_wp2_with fail
      go_round
      case rel => exact ⟨k + 1, z, by go_num, rfl, by omega, hz, HS⟩
      case measure => simp [intOf]; omega
    · obtain rfl : k = n := by omega
      have he : y = Q := by have h := hs.out; rw [List.drop_of_length_le (by have := HN.out; omega)] at h; exact h
      clear hs
      go_wp2_with fail
      go_ret
      exact ⟨by simp, HB1.out⟩
end Go.Proofs.YtkdgbkhnnehedaaGreatDoor.Mrk
