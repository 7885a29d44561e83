/- What reports were made of (layer 25): rows of Told, as arguments. · GrowY, Both29: in one text. · What one content lacks of another one: the program's Missing and the reference's (layer 25). PRINTED by wip/genunion.py. · Fixes, FixWalk: in one text. · The walk of the law's alive (layer 25). · Ref29, Alive29: in one text. · sweep.Sweep, once more (layer 10): what it hands back is its own. PRINTED by wip/gensweepb.py out of the text Sweep. · What the walk of the law OrderSees leans on (layer 29): replies beside rows of mutations that grow; the region whose stores come late. -/
import Derived.Test.YtmfhmcegmeinnaaGreatDoorConArg
import Derived.Test.YtmfhmcegmeinnaaGreatDoorOrdAll
import Derived.Test.YtmfhmcegmeinnaaGreatDoorKeepAll
import Derived.Test.YtmfhmcegmeinnaaGreatDoorSweep
import Derived.Test.YtmfhmcegmeinnaaGreatDoorRegSp2
set_option linter.unusedSimpArgs false
set_option linter.unusedVariables false
namespace Go.Proofs.YtmfhmcegmeinnaaGreatDoor.Mut
open Go.ChangeShapes Go.WideShapes Go.ChangeAt Go.RowKit Go.Deep Go.Proofs.YtmfhmcegmeinnaaGreatDoor.Kit Go.Proofs.YtmfhmcegmeinnaaGreatDoor.Ord
set_option linter.unusedSectionVars false
variable [Inhabited Lim]

structure Td where
  v : Value
  l : List Ro
  f : Stp
  q : Bool
instance : Inhabited Td := ⟨⟨.slice none 0 0, [], ⟨0, 0, 0⟩, false⟩⟩
def enT (x : Td) : List Value := [x.v, .int .i64 x.f.p, .int .i64 x.f.l, .int .i64 x.f.w, .bool x.q]
theorem enT_len (x : Td) : (enT x).length = 5 := rfl
structure TRow (w : World) (v : Value) (T : List Td) : Prop where
  row : Lst 5 enT w v T
  ro : ∀ x ∈ T, MRow w x.v x.l
def TSizes (T : List Td) : Prop := ∀ x ∈ T, ∀ y ∈ x.l, Sizes y.1
theorem TRow.below {w w' : World} {v : Value} {T : List Td} (h : TRow w v T) (hb : RowKit.Below w.heap.size w w') : TRow w' v T := ⟨Lst.below h.row hb, fun x hx => MRow.below (h.ro x hx) hb⟩
theorem TRow.form {w : World} {v : Value} {T : List Td} (h : TRow w v T) : ∃ ao cap, v = .slice ao T.length cap ∧ T.length ≤ cap ∧ cap ≤ maxLen := Lst.form h.row
theorem TRow.get {w : World} {ao : Option Addr} {n cap : Nat} {T : List Td} (h : TRow w (.slice ao n cap) T) {k : Nat} (hk : k < T.length) :
    ∃ b off, ao = some ⟨b, off, none⟩ ∧ b < w.heap.size ∧ w.cell? ⟨b, off + k * 5, none⟩ = some T[k].v ∧
      w.cell? ⟨b, off + k * 5 + 1, none⟩ = some (.int .i64 T[k].f.p) ∧ w.cell? ⟨b, off + k * 5 + 2, none⟩ = some (.int .i64 T[k].f.l) ∧ w.cell? ⟨b, off + k * 5 + 3, none⟩ = some (.int .i64 T[k].f.w) ∧ w.cell? ⟨b, off + k * 5 + 4, none⟩ = some (.bool T[k].q) := by
  obtain ⟨b, off, e, h1, h2⟩ := Lst.get h.row hk
  exact ⟨b, off, e, h1, h2 0 (by omega), h2 1 (by omega), h2 2 (by omega), h2 3 (by omega), h2 4 (by omega)⟩

def great25 (T : List Td) : Bool := decide (6 < T.length) || T.any fun x => greatF (x.l.map (·.1)) 15
theorem great25_small {T : List Td} (h : great25 T = false) : T.length ≤ 6 ∧ ∀ x ∈ T, (x.l.map (·.1)).length ≤ 15 ∧ ∀ m ∈ x.l.map (·.1), Small m := by
  unfold great25 at h
  simp only [Bool.or_eq_false_iff, decide_eq_false_iff_not, List.any_eq_false] at h
  exact ⟨by omega, fun x hx => great_small (by simpa using h.2 x hx)⟩
end Go.Proofs.YtmfhmcegmeinnaaGreatDoor.Mut

/- Rows of replies that grow (layer 29). PRINTED by wip/genboth29.py. -/
set_option linter.unusedSimpArgs false
set_option linter.unusedVariables false
namespace Go.Proofs.YtmfhmcegmeinnaaGreatDoor.Mut
open Go.RowKit Go.Sort Go.Proofs.YtmfhmcegmeinnaaGreatDoor.Ord Go.Proofs.YtmfhmcegmeinnaaGreatDoor.RegInv Go.Proofs.YtmfhmcegmeinnaaGreatDoor.Spare
set_option linter.unusedSectionVars false
variable [Inhabited Lim]

def zY : List Value := [.int .i64 0, .int .i64 0, .slice none 0 0, .slice none 0 0, .slice none 0 0, .int .i64 0, .int .i64 0, .int .i64 0]
def FormsY (x : Ry) : Prop := (∃ ao n c, x.a = .slice ao n c) ∧ (∃ ao n c, x.b = .slice ao n c) ∧ ∃ ao n c, x.d = .slice ao n c
theorem LiesY.forms {w : World} {x : Ry} (h : Lies w x.a x.b x.d x.c) : FormsY x := ⟨h.cells.slice, h.wipes.slice, h.sibs.slice⟩
theorem flatY_str {R : List Ry} (h : ∀ x ∈ R, FormsY x) (s : ByteArray) : Value.string s ∉ R.flatMap enY := by
  intro hm
  obtain ⟨x, hx, h1⟩ := List.mem_flatMap.1 hm
  obtain ⟨⟨_, _, _, e1⟩, ⟨_, _, _, e2⟩, ⟨_, _, _, e3⟩⟩ := h x hx
  unfold enY at h1
  simp [e1, e2, e3] at h1
theorem flatY_one {R : List Ry} (h : ∀ x ∈ R, FormsY x) : ∀ u ∈ R.flatMap enY, u.oneCell' = true := by
  intro u hm
  obtain ⟨x, hx, h1⟩ := List.mem_flatMap.1 hm
  obtain ⟨⟨_, _, _, e1⟩, ⟨_, _, _, e2⟩, ⟨_, _, _, e3⟩⟩ := h x hx
  unfold enY at h1
  simp only [e1, e2, e3, List.mem_cons, List.not_mem_nil, or_false] at h1
  rcases h1 with rfl | rfl | rfl | rfl | rfl | rfl | rfl | rfl <;> rfl
theorem flatY_j {R : List Ry} (h : ∀ x ∈ R, FormsY x) (i : Int) : (R.flatMap enY)[2]? ≠ some (.int .i64 i) := by
  cases R with
  | nil => simp
  | cons x R =>
    obtain ⟨⟨_, _, _, e1⟩, -⟩ := h x (List.mem_cons_self ..)
    simp [enY, e1]
theorem plain_Y {R : List Ry} (h : ∀ x ∈ R, FormsY x) : Plainly zY (R.flatMap enY) 2 :=
  ⟨by decide, by decide, fun s hs => by simp [zY] at hs, flatY_str h, fun i => by simp [zY], flatY_j h⟩
theorem info_Reply : (Tryz.prog.info? 62).map (fun i => (i.zero, i.size, i.bytes)) = some (some (.agg ⟨zY⟩), 8, 112) := by kernel_rfl
theorem one_reply {w : World} {x : Ry} {t : TypeId} (h : Lies w x.a x.b x.d x.c) : YRow (w.alloc (.cells ⟨enY x⟩ t)) (.slice (some ⟨w.heap.size, 0, none⟩) 1 1) [x] := by
  refine ⟨⟨_, 1, rfl, by simp, by decide, Or.inr ⟨_, _, rfl, by simp, fun i y hi j hj => ?_⟩⟩, fun y hy => ?_⟩
  · rw [cells_at (heap_alloc_new w _), Nat.zero_add]
    have := flatMap_get enY_len [x] i y hi j hj
    simpa using this
  · rw [List.mem_singleton.1 hy]
    exact h.below ((Below.refl _ _).alloc (Nat.le_refl _) _)
theorem wpList_append_replies {w : World} {ops : Array Oper} {rest : List Oper} {o : Oper} {a : Act} {Q : Exit → Act → World → Prop} (hgd : o.guard = none) (s x : Operand) {t e : TypeId}
    (ho : o.op = .call { callee := .builtin .append, args := #[s, x], argTypes := #[t, t] }) (ht : Tryz.prog.underlying t = some (.slice e))
    (hinfo : (Tryz.prog.info? e).map (fun i => (i.zero, i.size, i.bytes)) = some (some (.agg ⟨zY⟩), 8, 112)) (base : Nat) (v : Value) (n : Nat) (xs : List Value) (hs : a.eval s = v) (hown : Spare w base e zY v n xs)
    (ad : Addr) (m c : Nat) (R : List Ry) (hx : a.eval x = .slice (some ad) m c) (hR : Lst 8 enY w (.slice (some ad) m c) R) (hF : ∀ x ∈ R, FormsY x) (hm0 : 0 < m ∨ v ≠ .slice none 0 0) (hm : n + m ≤ 1000000) (hbase : base ≤ w.heap.size)
    (h : ∀ v' w', Spare w' base e zY v' (n + m) (xs ++ R.flatMap enY) → w.grownBy w' v.ownBlock → Kept w w' zY v n → SpareLoc w v v' → wpList Tryz.prog ops Q rest (a.put o.dst v') w') : wpList Tryz.prog ops Q (o :: rest) a w := by
  obtain ⟨i0, hi, hz0, hz1, hz2⟩ := info_parts hinfo
  have hmR : m = R.length := Lst.len hR
  subst hmR
  exact wpList_append_spare hgd s x t ho base e i0 (.agg ⟨zY⟩) zY 112 ht hi hz0 rfl hz1 hz2 (by decide) v n xs hs hown ad R.length c (R.flatMap enY) hx hm0 (flatMap_len enY_len R) (Lst.news enY_len (by decide) hR) (flatY_one hF) (by unfold maxLen; omega) (by omega) hbase h
/-- Reports in a row that grows. -/
structure GrowY (w : World) (base : Nat) (e : TypeId) (v : Value) (n : Nat) (R : List Ry) : Prop where
  row : Spare w base e zY v n (R.flatMap enY)
  con : ∀ x ∈ R, Lies w x.a x.b x.d x.c
  len : n = R.length
theorem GrowY.forms {w : World} {base : Nat} {e : TypeId} {v : Value} {n : Nat} {R : List Ry} (h : GrowY w base e v n R) : ∀ x ∈ R, FormsY x := fun x hx => LiesY.forms (h.con x hx)
theorem GrowY.nil (w : World) (base : Nat) (e : TypeId) : GrowY w base e (.slice none 0 0) 0 [] := ⟨Spare.nil w base e zY, fun x hx => (by cases hx), rfl⟩
theorem GrowY.below {w w' : World} {base : Nat} {e : TypeId} {v : Value} {n : Nat} {R : List Ry} (h : GrowY w base e v n R) (hb : RowKit.Below w.heap.size w w') : GrowY w' base e v n R := ⟨h.row.below hb, fun x hx => (h.con x hx).below hb, h.len⟩
theorem GrowY.yrow {w : World} {base : Nat} {e : TypeId} {v : Value} {n : Nat} {R : List Ry} (h : GrowY w base e v n R) : YRow w v R := ⟨Lst.owned enY_len (by decide) h.len h.row.own, h.con⟩
/-- Behind an append to this row: itself with one more, and what lies beside it. -/
theorem GrowY.more {w w' : World} {base : Nat} {e : TypeId} {v v' : Value} {n : Nat} {R : List Ry} {x : Ry} (h : GrowY w base e v n R) (hN : (default : Lim).n ≤ base) (hx : Lies w x.a x.b x.d x.c) (hsp : Spare w' base e zY v' (n + 1) (R.flatMap enY ++ [x].flatMap enY)) (hg : w.grownBy w' v.ownBlock) : GrowY w' base e v' (n + 1) (R ++ [x]) := by
  refine ⟨by rw [List.flatMap_append]; exact hsp, fun y hy => ?_, by rw [List.length_append, ← h.len]; rfl⟩
  rcases List.mem_append.1 hy with g | g
  · exact lies_keptZ (h.con y g) hN h.row (plain_Y h.forms) hg
  · rw [List.mem_singleton.1 g]
    exact lies_keptZ hx hN h.row (plain_Y h.forms) hg
theorem GrowY.beside {w w' : World} {base base2 : Nat} {e e2 : TypeId} {v v2 : Value} {n n2 : Nat} {R R2 : List Ry} (h2 : GrowY w base2 e2 v2 n2 R2) (h : GrowY w base e v n R) (hN : (default : Lim).n ≤ base) (hne : e ≠ e2) (hg : w.grownBy w' v.ownBlock) : GrowY w' base2 e2 v2 n2 R2 :=
  ⟨h2.row.kept hg (rows_apart h2.row.own h.row.own (fun e => hne e.symm)), fun y hy => lies_keptZ (h2.con y hy) hN h.row (plain_Y h.forms) hg, h2.len⟩
theorem GrowY.belowB {w0 w w' : World} {base : Nat} {e : TypeId} {v : Value} {n : Nat} {R : List Ry} (h : GrowY w base e v n R) (hb : RowKit.Below base w0 w) (hg : w.grownBy w' v.ownBlock) (hs : base ≤ w.heap.size) : RowKit.Below base w0 w' := hb.grown hg hs (fun k hk => (h.row.own.lt k hk).1)

theorem Grow.besideY {w w' : World} {base base2 : Nat} {e e2 : TypeId} {v v2 : Value} {n n2 : Nat} {R : List Ry} {R2 : List Rp} (h2 : Grow w base2 e2 v2 n2 R2) (h : GrowY w base e v n R) (hN : (default : Lim).n ≤ base) (hne : e ≠ e2) (hg : w.grownBy w' v.ownBlock) : Grow w' base2 e2 v2 n2 R2 :=
  ⟨h2.row.kept hg (rows_apart h2.row.own h.row.own (fun e => hne e.symm)), fun y hy => lies_keptZ (h2.con y hy) hN h.row (plain_Y h.forms) hg, h2.len⟩
theorem GrowY.besideR {w w' : World} {base base2 : Nat} {e e2 : TypeId} {v v2 : Value} {n n2 : Nat} {R : List Rp} {R2 : List Ry} (h2 : GrowY w base2 e2 v2 n2 R2) (h : Grow w base e v n R) (hN : (default : Lim).n ≤ base) (hne : e ≠ e2) (hg : w.grownBy w' v.ownBlock) : GrowY w' base2 e2 v2 n2 R2 :=
  ⟨h2.row.kept hg (rows_apart h2.row.own h.row.own (fun e => hne e.symm)), fun y hy => lies_keptZ (h2.con y hy) hN h.row (plain_R h.forms) hg, h2.len⟩
end Go.Proofs.YtmfhmcegmeinnaaGreatDoor.Mut

/- The walk of the law's both (layer 29): replies, of both. PRINTED by wip/genboth29.py. -/
set_option linter.unusedSimpArgs false
set_option linter.unusedVariables false
namespace Go.Proofs.YtmfhmcegmeinnaaGreatDoor.Mut
open Go.RowKit Go.Sort Go.Proofs.YtmfhmcegmeinnaaGreatDoor.Ord Go.Proofs.YtmfhmcegmeinnaaGreatDoor.RegInv Go.Proofs.YtmfhmcegmeinnaaGreatDoor.Spare
set_option linter.unusedSectionVars false
variable [Inhabited Lim]

/-- What a reply says. -/
def coreY (x : Ry) : Int × Int × Con × Stp := (x.from_, x.no, x.c, x.f)
def coresY : Nat → List Td → List (Int × Int × Con × Stp)
  | _, [] => []
  | i, x :: t => ((i : Int) + 3, 10 * (i : Int), leftOf (x.l.map (·.1)), x.f) :: coresY (i + 1) t
theorem coresY_snoc (x : Td) : ∀ (T : List Td) (i : Nat), coresY i (T ++ [x]) = coresY i T ++ [(((i + T.length : Nat) : Int) + 3, 10 * ((i + T.length : Nat) : Int), leftOf (x.l.map (·.1)), x.f)]
  | [], i => by simp [coresY]
  | y :: T, i => by
    rw [List.cons_append, coresY, coresY, coresY_snoc x T (i + 1), List.cons_append, List.length_cons]
    rw [show i + 1 + T.length = i + (T.length + 1) by omega]
def coreZ (x : Td) : Con × Stp × Bool := (leftOf (x.l.map (·.1)), x.f, false)
structure AtT (w : World) (b o : Nat) (x : Td) : Prop where
  lt : b < w.heap.size
  c0 : w.cell? ⟨b, o, none⟩ = some x.v
  c1 : w.cell? ⟨b, o + 1, none⟩ = some (.int .i64 x.f.p)
  c2 : w.cell? ⟨b, o + 2, none⟩ = some (.int .i64 x.f.l)
  c3 : w.cell? ⟨b, o + 3, none⟩ = some (.int .i64 x.f.w)
  c4 : w.cell? ⟨b, o + 4, none⟩ = some (.bool x.q)
theorem AtT.below {w w' : World} {b o : Nat} {x : Td} (h : AtT w b o x) (hb : RowKit.Below w.heap.size w w') : AtT w' b o x := by
  have e : ∀ k, w'.cell? ⟨b, k, none⟩ = w.cell? ⟨b, k, none⟩ := fun k => hb.cell (p := ⟨b, k, none⟩) h.lt
  obtain ⟨h0, h1, h2, h3, h4, h5⟩ := h
  exact ⟨Nat.lt_of_lt_of_le h0 hb.size, (e _).trans h1, (e _).trans h2, (e _).trans h3, (e _).trans h4, (e _).trans h5⟩
theorem TRow.at_ {w : World} {ao : Option Addr} {n cap : Nat} {T : List Td} (h : TRow w (.slice ao n cap) T) {k : Nat} {x : Td} (hk : T[k]? = some x) : ∃ b off, ao = some ⟨b, off, none⟩ ∧ AtT w b (off + k * 5) x := by
  obtain ⟨hlt, he⟩ := List.getElem?_eq_some_iff.1 hk
  obtain ⟨b, off, e, hb, h0, h1, h2, h3, h4⟩ := h.get hlt
  rw [he] at h0 h1 h2 h3 h4
  exact ⟨b, off, e, hb, h0, h1, h2, h3, h4⟩

end Go.Proofs.YtmfhmcegmeinnaaGreatDoor.Mut

namespace Go.Proofs.YtmfhmcegmeinnaaGreatDoor.Mut
open Go.RowKit Go.Sort Go.Proofs.YtmfhmcegmeinnaaGreatDoor.Ord Go.Proofs.YtmfhmcegmeinnaaGreatDoor.RegInv
set_option linter.unusedSectionVars false
variable [Inhabited Lim]

end Go.Proofs.YtmfhmcegmeinnaaGreatDoor.Mut

/- What replicas lack of what all have together (layer 29): order.Fixes; rows of fixes. -/
set_option linter.unusedSimpArgs false
set_option linter.unusedVariables false
namespace Go.Proofs.YtmfhmcegmeinnaaGreatDoor.Mut
open Go.RowKit Go.Sort Go.Proofs.YtmfhmcegmeinnaaGreatDoor.Ord Go.Proofs.YtmfhmcegmeinnaaGreatDoor.RegInv Go.Proofs.YtmfhmcegmeinnaaGreatDoor.Spare
set_option linter.unusedSectionVars false
variable [Inhabited Lim]

/-! ## Rows of fixes -/
abbrev Fx := Int × Ro
def enF (x : Fx) : List Value := .int .i64 x.1 :: enM x.2
theorem enF_len (x : Fx) : (enF x).length = 11 := rfl
def zF : List Value := [.int .i64 0, .int .i64 0, .int .i64 0, .string ByteArray.empty, .string ByteArray.empty, .string ByteArray.empty, .int .i64 0, .int .i64 0, .int .i64 0, .int .i64 0, .slice none 0 0]
structure FRow (w : World) (v : Value) (R : List Fx) : Prop where
  row : Lst 11 enF w v R
  over : ∀ x ∈ R, Over w x.2
theorem FRow.below {w w' : World} {v : Value} {R : List Fx} (h : FRow w v R) (hb : RowKit.Below w.heap.size w w') : FRow w' v R := ⟨Lst.below h.row hb, fun x hx => (h.over x hx).below hb⟩
theorem FRow.form {w : World} {v : Value} {R : List Fx} (h : FRow w v R) : ∃ ao cap, v = .slice ao R.length cap ∧ R.length ≤ cap ∧ cap ≤ maxLen := Lst.form h.row
theorem FRow.at_ {w : World} {ao : Option Addr} {n cap : Nat} {R : List Fx} {k : Nat} {x : Fx} (h : FRow w (.slice ao n cap) R) (hk : R[k]? = some x) : ∃ b off, ao = some ⟨b, off, none⟩ ∧ b < w.heap.size ∧ w.cell? ⟨b, off + k * 11, none⟩ = some (.int .i64 x.1) ∧ At w b (off + k * 11 + 1) x.2 := by
  obtain ⟨hlt, he⟩ := List.getElem?_eq_some_iff.1 hk
  obtain ⟨b, off, ha, hb, hc⟩ := Lst.get h.row hlt
  rw [he] at hc
  exact ⟨b, off, ha, hb, hc 0 (by decide), At.of hb fun j hj => by
    have := hc (j + 1) (by omega)
    rw [show off + k * 11 + 1 + j = off + k * 11 + (j + 1) by omega, this]
    rfl⟩
theorem zF_slice (r : Nat) (ao : Option Addr) (n c : Nat) (h : zF[r]? = some (.slice ao n c)) : r = 10 := by
  rcases r with _ | _ | _ | _ | _ | _ | _ | _ | _ | _ | _ | r <;> simp [zF] at h <;> first | rfl | omega
theorem zF_int (r : Nat) (i : Int) (h : zF[r]? = some (.int .i64 i)) : i = 0 ∧ r ≠ 10 ∧ r ≠ 3 ∧ r ≠ 4 ∧ r ≠ 5 ∧ r < 10 := by
  rcases r with _ | _ | _ | _ | _ | _ | _ | _ | _ | _ | _ | r <;> simp [zF] at h <;> simp [h]
section
variable {w w' : World} {base : Nat} {v : Value} {n : Nat} {R : List Fx}
theorem last_slice (hR : ∀ x ∈ R, ∃ ao n c, x.2.2 = .slice ao n c) (hn : n = R.length) {o : Nat} (h1 : o < n * 11) (h2 : o % 11 = 10) (i : Int) : (R.flatMap enF)[o]? ≠ some (.int .i64 i) := by
  have hk : o / 11 < R.length := by omega
  have hg := flatMap_get enF_len R (o / 11) R[o / 11] (List.getElem?_eq_getElem hk) 10 (by decide)
  rw [show o / 11 * 11 + 10 = o by omega] at hg
  rw [hg]
  obtain ⟨ao, m, c, e⟩ := hR _ (List.getElem_mem hk)
  simp [enF, enM, e]
end
theorem enF_one {x : Fx} (h : ∃ ao n c, x.2.2 = .slice ao n c) : ∀ u ∈ enF x, u.oneCell' = true := by
  intro u hu
  obtain ⟨ao, n, c, e⟩ := h
  unfold enF enM at hu
  rw [e] at hu
  simp only [List.mem_cons, List.not_mem_nil, or_false] at hu
  rcases hu with rfl | rfl | rfl | rfl | rfl | rfl | rfl | rfl | rfl | rfl | rfl <;> rfl
/-! ## order.Fixes -/
def fixOne (all : Con) (x : Ry) : List Fx := ((missF all x.c).filter fun m => decide (stC x.f m.at_ < 0)).map fun m => (x.from_, (m, .slice none 0 0))
def fixF (R : List Ry) : List (Int × Mu) := R.flatMap fun x => ((missF (mergeF R) x.c).filter fun m => decide (stC x.f m.at_ < 0)).map fun m => (x.from_, m)
/-- Fixes come back. -/
def RetF (L : List (Int × Mu)) (w : World) (e : Ending) (w' : World) : Prop := ∃ v R, e = .returned v ∧ R.map (fun x : Fx => (x.1, x.2.1)) = L ∧ FRow w' v R ∧ (∀ x ∈ R, rightF x.2.1 = true) ∧ RowKit.Below w.heap.size w w'
end Go.Proofs.YtmfhmcegmeinnaaGreatDoor.Mut

/- The walk of order.Fixes (layer 29). -/
set_option linter.unusedSimpArgs false
set_option linter.unusedVariables false
namespace Go.Proofs.YtmfhmcegmeinnaaGreatDoor.Mut
open Go.RowKit Go.Sort Go.Proofs.YtmfhmcegmeinnaaGreatDoor.Ord Go.Proofs.YtmfhmcegmeinnaaGreatDoor.RegInv Go.Proofs.YtmfhmcegmeinnaaGreatDoor.Spare
set_option linter.unusedSectionVars false
variable [Inhabited Lim]

/-- A reply lies in a box. -/
def BoxY (w : World) (k : Nat) (x : Ry) : Prop := w.heap[k]? = some (.cells (enY x).toArray 62 (0, 0))
theorem BoxY.lt {w : World} {k : Nat} {x : Ry} (h : BoxY w k x) : k < w.heap.size := (Array.getElem?_eq_some_iff.1 h).1
theorem BoxY.below {w w' : World} {k : Nat} {x : Ry} (h : BoxY w k x) (hb : RowKit.Below w.heap.size w w') : BoxY w' k x := (hb.block k h.lt).trans h
theorem BoxY.cells {w : World} {k : Nat} {x : Ry} (h : BoxY w k x) : w.cell? ⟨k, 0, none⟩ = some (.int .i64 x.from_) ∧ w.cell? ⟨k, 2, none⟩ = some x.a ∧ w.cell? ⟨k, 3, none⟩ = some x.b ∧ w.cell? ⟨k, 4, none⟩ = some x.d ∧ w.cell? ⟨k, 5, none⟩ = some (.int .i64 x.f.p) ∧ w.cell? ⟨k, 6, none⟩ = some (.int .i64 x.f.l) ∧ w.cell? ⟨k, 7, none⟩ = some (.int .i64 x.f.w) := by
  refine ⟨?_, ?_, ?_, ?_, ?_, ?_, ?_⟩ <;> simp [World.cell?, show w.heap[k]? = _ from h, enY]
def fxM (x : Fx) : Int × Mu := (x.1, x.2.1)
def fixG (all : Con) (x : Ry) : List (Int × Mu) := ((missF all x.c).filter fun m => decide (stC x.f m.at_ < 0)).map fun m => (x.from_, m)
theorem fixF_eq (R : List Ry) : fixF R = R.flatMap (fixG (mergeF R)) := rfl
theorem fix_step (f : Int) (t : Stp) (z : Ro) (L : List Ro) (D : Bool) (hD : D = decide (stC t z.1.at_ < 0)) :
    ((z :: L).filter fun y => decide (stC t y.1.at_ < 0)).map (fun y => (f, y.1)) = (if D then [(f, z.1)] else []) ++ (L.filter fun y => decide (stC t y.1.at_ < 0)).map (fun y => (f, y.1)) := by
  rw [List.filter_cons, ← hD]
  cases D <;> rfl

end Go.Proofs.YtmfhmcegmeinnaaGreatDoor.Mut

namespace Go.Proofs.YtmfhmcegmeinnaaGreatDoor.Mut
open Go.RowKit Go.Sort Go.Proofs.YtmfhmcegmeinnaaGreatDoor.Ord Go.Proofs.YtmfhmcegmeinnaaGreatDoor.RegInv
set_option linter.unusedSectionVars false
variable [Inhabited Lim]

/-- A literal row of mutations that supersede nothing. -/
theorem lit_rows25 (R : List Ro) (w : World) (t : TypeId) (hR : ∀ x ∈ R, x.2 = .slice none 0 0 ∧ x.1.over = []) (hn : R.length ≤ maxLen) : MRow (w.alloc (.cells ⟨R.flatMap enM⟩ t)) (.slice (some ⟨w.heap.size, 0, none⟩) R.length R.length) R := by
  refine ⟨⟨_, R.length, rfl, Nat.le_refl _, hn, Or.inr ⟨_, _, rfl, by simp, fun i x hi j hj => ?_⟩⟩, fun x hx => ?_⟩
  · rw [cells_at (heap_alloc_new w _), Nat.zero_add]
    exact flatMap_get enM_len _ i x hi j hj
  · obtain ⟨h1, h2⟩ := hR x hx
    exact ⟨by rw [h1, h2]; exact Lst.nil _, by rw [h1]; exact ZN.none _ _⟩
/-- A literal row of reports. -/
theorem lit_reports (R : List Rp) (w : World) (t : TypeId) (hR : ∀ x ∈ R, Lies w x.a x.b x.d x.c) (hn : R.length ≤ maxLen) : RRow (w.alloc (.cells ⟨R.flatMap enR⟩ t)) (.slice (some ⟨w.heap.size, 0, none⟩) R.length R.length) R := by
  refine ⟨⟨_, R.length, rfl, Nat.le_refl _, hn, Or.inr ⟨_, _, rfl, by simp, fun i x hi j hj => ?_⟩⟩, fun x hx => ?_⟩
  · rw [cells_at (heap_alloc_new w _), Nat.zero_add]
    exact flatMap_get enR_len _ i x hi j hj
  · exact (hR x hx).below ((Below.refl _ w).alloc (Nat.le_refl _) _)
def mU : Mu := ⟨1, 1, ⟨#[107]⟩, ⟨#[]⟩, ⟨#[118]⟩, 0, ⟨1, 0, 0⟩, []⟩
theorem rightU : rightF mU = true := by kernel_rfl
theorem leftU : leftOf [mU] = ⟨[mU], [], []⟩ := by kernel_rfl
theorem goodU : Good ⟨[mU], [], []⟩ 1 := by rw [← leftU]; exact leftOf_good _
theorem allU : allF ⟨[mU], [], []⟩ = [mU] := List.mergeSort_singleton _
theorem allU0 : allF ⟨[], [], []⟩ = [] := List.mergeSort_nil
theorem combU (a b d a' b' d' : Value) : combF [⟨a, b, d, ⟨[mU], [], []⟩, ⟨0, 0, 0⟩, false⟩, ⟨a', b', d', ⟨[], [], []⟩, ⟨2, 0, 0⟩, false⟩] ⟨5, 0, 0⟩ = (⟨[], [], []⟩, ⟨2, 0, 0⟩, true) := by kernel_rfl
theorem combU1 (a b d : Value) : combF [⟨a, b, d, ⟨[mU], [], []⟩, ⟨0, 0, 0⟩, false⟩] ⟨5, 0, 0⟩ = (⟨[mU], [], []⟩, ⟨0, 0, 0⟩, true) := by kernel_rfl

end Go.Proofs.YtmfhmcegmeinnaaGreatDoor.Mut

/- The references of layer 25's and 29's laws: ref04.Max, ref25.Base, ref25.Counts, the law's merge. PRINTED by wip/genref29.py. -/
set_option linter.unusedSimpArgs false
set_option linter.unusedVariables false
namespace Go.Proofs.YtmfhmcegmeinnaaGreatDoor.Mut
open Go.RowKit Go.Sort Go.Proofs.YtmfhmcegmeinnaaGreatDoor.Ord Go.Proofs.YtmfhmcegmeinnaaGreatDoor.RegInv
set_option linter.unusedSectionVars false
variable [Inhabited Lim]

def rmergeF (R : List Rp) : Con := (R.map (fun x => countsF x (baseF R).1)).foldl joinC ⟨[], [], []⟩
/-- A content, a stamp come back. -/
def RetCS (c : Con) (s : Stp) (w : World) (e : Ending) (w' : World) : Prop := ∃ v, e = .returned (.tuple #[v, vS s]) ∧ IsC c v w' ∧ RowKit.Below w.heap.size w w'

end Go.Proofs.YtmfhmcegmeinnaaGreatDoor.Mut

/- The walk of the law's alive (layer 29). -/
set_option linter.unusedSimpArgs false
set_option linter.unusedVariables false
namespace Go.Proofs.YtmfhmcegmeinnaaGreatDoor.Mut
open Go.RowKit Go.Sort Go.Proofs.YtmfhmcegmeinnaaGreatDoor.Ord Go.Proofs.YtmfhmcegmeinnaaGreatDoor.RegInv
set_option linter.unusedSectionVars false
variable [Inhabited Lim]

/-- A literal row of replies. -/
theorem lit_replies (R : List Ry) (w : World) (t : TypeId) (hR : ∀ x ∈ R, Lies w x.a x.b x.d x.c) (hn : R.length ≤ maxLen) : YRow (w.alloc (.cells ⟨R.flatMap enY⟩ t)) (.slice (some ⟨w.heap.size, 0, none⟩) R.length R.length) R := by
  refine ⟨⟨_, R.length, rfl, Nat.le_refl _, hn, Or.inr ⟨_, _, rfl, by simp, fun i x hi j hj => ?_⟩⟩, fun x hx => ?_⟩
  · rw [cells_at (heap_alloc_new w _), Nat.zero_add]
    exact flatMap_get enY_len _ i x hi j hj
  · exact (hR x hx).below ((Below.refl _ w).alloc (Nat.le_refl _) _)
theorem BoxY.no {w : World} {k : Nat} {x : Ry} (h : BoxY w k x) : w.cell? ⟨k, 1, none⟩ = some (.int .i64 x.no) := (cells_at h 1).trans rfl
theorem BoxY.new (w : World) (x : Ry) : BoxY (w.alloc (.cells (enY x).toArray 62)) w.heap.size x := heap_alloc_new w _
theorem mergeU (a b d a' b' d' : Value) : mergeF [⟨1, 0, a, b, d, ⟨[mU], [], []⟩, ⟨0, 0, 0⟩⟩, ⟨2, 0, a', b', d', ⟨[], [], []⟩, ⟨2, 0, 0⟩⟩] = ⟨[], [], []⟩ := by kernel_rfl
theorem mergeU1 (a b d : Value) : mergeF [⟨1, 0, a, b, d, ⟨[mU], [], []⟩, ⟨0, 0, 0⟩⟩] = ⟨[mU], [], []⟩ := by kernel_rfl
theorem floorU (a b d a' b' d' : Value) : floorF [⟨1, 0, a, b, d, ⟨[mU], [], []⟩, ⟨0, 0, 0⟩⟩, ⟨2, 0, a', b', d', ⟨[], [], []⟩, ⟨2, 0, 0⟩⟩] = ⟨2, 0, 0⟩ := by kernel_rfl

set_option maxHeartbeats 8000000 in
set_option maxRecDepth 100000 in
theorem alive29_any (w : World) (hT : Tabs w) : Calls Tryz.prog 27 #[] w (RetB true w) := by
  have HT := Lib.hid hT
  clear hT
  have hq2 := guardT_run .eql
  have hq1 := eqlT_run ⟨2, 0, 0⟩ ⟨2, 0, 0⟩ true (by kernel_rfl)
  simp only [] at hq1
  go_enter Tryz.func27, Tryz.ntmps27
  go_upto_region 2 with fail
  obtain ⟨W0, hW0⟩ : ∃ W0, W0 = w.alloc (.cells #[.int .i64 1, .int .i64 1, .string ⟨#[107]⟩, .string ⟨#[]⟩, .string ⟨#[118]⟩, .int .i64 0, .int .i64 1, .int .i64 0, .int .i64 0, .slice none 0 0] 51) := ⟨_, rfl⟩
  rw [← hW0]
  have hb0 : RowKit.Below w.heap.size w W0 := by rw [hW0]; exact (Below.refl _ _).alloc (Nat.le_refl _) _
  have hA0 : A0 W0 w.heap.size (mU, .slice none 0 0) := by rw [hW0]; exact A0.of (At.new w 51 (mU, .slice none 0 0))
  have HA0 := Lib.hid hA0
  have HB0 := Lib.hid hb0
  obtain ⟨n0, hn0⟩ : ∃ n0, n0 = w.heap.size := ⟨_, rfl⟩
  rw [← hn0] at HA0 ⊢
  clear hW0 hb0 hA0 hn0
  obtain ⟨hm, m0, m1, m2, m3, m4, m5, m6, m7, m8, m9⟩ := HA0.out
  have m0' : W0.cell? ⟨n0, 0, none⟩ = some (.int .i64 1) := m0
  have m1' : W0.cell? ⟨n0, 1, none⟩ = some (.int .i64 1) := m1
  have m2' : W0.cell? ⟨n0, 2, none⟩ = some (.string ⟨#[107]⟩) := m2
  have m3' : W0.cell? ⟨n0, 3, none⟩ = some (.string ⟨#[]⟩) := m3
  have m4' : W0.cell? ⟨n0, 4, none⟩ = some (.string ⟨#[118]⟩) := m4
  have m5' : W0.cell? ⟨n0, 5, none⟩ = some (.int .i64 0) := m5
  have m6' : W0.cell? ⟨n0, 6, none⟩ = some (.int .i64 1) := m6
  have m7' : W0.cell? ⟨n0, 7, none⟩ = some (.int .i64 0) := m7
  have m8' : W0.cell? ⟨n0, 8, none⟩ = some (.int .i64 0) := m8
  have m9' : W0.cell? ⟨n0, 9, none⟩ = some (.slice none 0 0) := m9
  clear m0 m1 m2 m3 m4 m5 m6 m7 m8 m9
  go_wp2_with fail
  have hof := fun (V : World) (hT : Tabs V) => c_of (hT.below ((Below.refl _ V).alloc (Nat.le_refl _) _)) (show Reads _ _ [mU] from ⟨_, rfl, lit_rows25 [((mU, .slice none 0 0) : Ro)] V 51 (fun x hx => by rw [List.mem_singleton.1 hx]; exact ⟨rfl, rfl⟩) (by decide)⟩) (by decide) (fun m hm => by rw [List.mem_singleton.1 hm]; exact small_right rightU)
  rw [leftU] at hof
  have HOF := Lib.hid hof
  clear hof
  refine (HOF.out W0 (HT.out.below HB0.out)).mono ?_
  rintro e w1 ⟨vv, rfl, hc, hb1⟩
  obtain ⟨o1, p1, q1, o2, p2, q2, o3, p3, q3, rfl, hl⟩ := hc.form
  have hb01 := below_then ((Below.refl _ W0).alloc (Nat.le_refl _) _) (Nat.le_refl _) hb1
  have HB1 := Lib.hid (below_then HB0.out (Nat.le_refl _) hb01)
  have HL1 := Lib.hid hl
  clear hc hb1 hl hb01 HB0 HA0 HOF m0' m1' m2' m3' m4' m5' m6' m7' m8' m9' hm
  go_upto_region 3 with fail
  obtain ⟨W3, hW3⟩ : ∃ W3, W3 = (w1.alloc (.cells #[.int .i64 1, .int .i64 0, .slice o1 p1 q1, .slice o2 p2 q2, .slice o3 p3 q3, .int .i64 0, .int .i64 0, .int .i64 0] 62)).alloc (.cells #[.int .i64 2, .int .i64 0, .slice none 0 0, .slice none 0 0, .slice none 0 0, .int .i64 2, .int .i64 0, .int .i64 0] 62) := ⟨_, rfl⟩
  rw [← hW3]
  have hb3 : RowKit.Below w1.heap.size w1 W3 := by rw [hW3]; exact ((Below.refl _ _).alloc (Nat.le_refl _) _).alloc (by simp) _
  obtain ⟨X, hX⟩ : ∃ X : Ry, X = ⟨1, 0, .slice o1 p1 q1, .slice o2 p2 q2, .slice o3 p3 q3, ⟨[mU], [], []⟩, ⟨0, 0, 0⟩⟩ := ⟨_, rfl⟩
  obtain ⟨Y, hY⟩ : ∃ Y : Ry, Y = ⟨2, 0, .slice none 0 0, .slice none 0 0, .slice none 0 0, ⟨[], [], []⟩, ⟨2, 0, 0⟩⟩ := ⟨_, rfl⟩
  have x3 : BoxY W3 w1.heap.size X := by
    rw [hW3, hX]
    exact (BoxY.new w1 ⟨1, 0, .slice o1 p1 q1, .slice o2 p2 q2, .slice o3 p3 q3, ⟨[mU], [], []⟩, ⟨0, 0, 0⟩⟩).below ((Below.refl _ _).alloc (Nat.le_refl _) _)
  have y3 : BoxY W3 (w1.heap.size + 1) Y := by
    rw [hW3, hY]
    have := BoxY.new (w1.alloc (.cells #[.int .i64 1, .int .i64 0, .slice o1 p1 q1, .slice o2 p2 q2, .slice o3 p3 q3, .int .i64 0, .int .i64 0, .int .i64 0] 62)) ⟨2, 0, .slice none 0 0, .slice none 0 0, .slice none 0 0, ⟨[], [], []⟩, ⟨2, 0, 0⟩⟩
    rwa [World.size_alloc] at this
  obtain ⟨n2, hn2⟩ : ∃ n2, n2 = w1.heap.size := ⟨_, rfl⟩
  rw [← hn2] at x3 y3 ⊢
  have HX3 := Lib.hid x3
  have HY3 := Lib.hid y3
  have HL3 := Lib.hid (HL1.out.below hb3)
  have HB3 := Lib.hid (below_then HB1.out (Nat.le_refl _) hb3)
  clear hW3 hb3 x3 y3 hn2 HB1 HL1
  obtain ⟨x0, x2, x3, x4, x5, x6, x7⟩ := HX3.out.cells
  have x1 := HX3.out.no
  obtain ⟨y0, y2, y3, y4, y5, y6, y7⟩ := HY3.out.cells
  have y1 := HY3.out.no
  have HXE := Lib.hid hX
  have HYE := Lib.hid hY
  rw [hX] at x0 x1 x2 x3 x4 x5 x6 x7
  rw [hY] at y0 y1 y2 y3 y4 y5 y6 y7
  simp only [] at x0 x1 x2 x3 x4 x5 x6 x7 y0 y1 y2 y3 y4 y5 y6 y7
  clear hX hY
  go_wp2_with fail
  have hR1 : ∀ V : World, Lies V (.slice o1 p1 q1) (.slice o2 p2 q2) (.slice o3 p3 q3) ⟨[mU], [], []⟩ → YRow (V.alloc (.cells ⟨[(⟨1, 0, .slice o1 p1 q1, .slice o2 p2 q2, .slice o3 p3 q3, ⟨[mU], [], []⟩, ⟨0, 0, 0⟩⟩ : Ry), ⟨2, 0, .slice none 0 0, .slice none 0 0, .slice none 0 0, ⟨[], [], []⟩, ⟨2, 0, 0⟩⟩].flatMap enY⟩ 62)) (.slice (some ⟨V.heap.size, 0, none⟩) 2 2) _ := fun V hV => lit_replies _ V 62 (fun x hx => by
    simp only [List.mem_cons, List.not_mem_nil, or_false] at hx
    rcases hx with rfl | rfl
    · exact hV
    · exact Lies.none _) (by simp [maxLen])
  have HR1 := Lib.hid hR1
  clear hR1
  have hcb := merge_any _ _ 1 _ (HT.out.below (below_then HB3.out (Nat.le_refl _) ((Below.refl _ W3).alloc (Nat.le_refl _) _))) (HR1.out W3 HL3.out) (fun x hx => by
    simp only [List.mem_cons, List.not_mem_nil, or_false] at hx
    rcases hx with rfl | rfl
    · exact goodU
    · exact empty_good.more (Nat.zero_le 1)) (by simp) (by decide)
  rw [mergeU] at hcb
  refine hcb.mono ?_
  rintro e w2 ⟨v2, rfl, hc2, hb⟩
  obtain ⟨o4, p4, q4, o5, p5, q5, o6, p6, q6, rfl, hl4⟩ := hc2.form
  have hb12 := below_then ((Below.refl _ W3).alloc (Nat.le_refl _) _) (Nat.le_refl _) hb
  have HB4 := Lib.hid (below_then HB3.out (Nat.le_refl _) hb12)
  have HX4 := Lib.hid (HX3.out.below hb12)
  have HY4 := Lib.hid (HY3.out.below hb12)
  have HL4 := Lib.hid (HL3.out.below hb12)
  have HL5 := Lib.hid hl4
  clear hcb hc2 hb hl4 hb12 HB3 HX3 HY3 HL3 x0 x1 x2 x3 x4 x5 x6 x7 y0 y1 y2 y3 y4 y5 y6 y7
  go_wp2_with fail
  refine (c_all (n := 1) HL5.out.is (empty_good.more (by decide)) (by decide)).mono ?_
  rintro e w7 ⟨g, cap, R, rfl, -, hm, hb⟩
  rw [allU0] at hm
  have e1 : R.length = 0 := by have := congrArg List.length hm; simpa using this
  rw [e1]
  have HB7 := Lib.hid (below_then HB4.out (Nat.le_refl _) hb)
  have HX7 := Lib.hid (HX4.out.below hb)
  have HY7 := Lib.hid (HY4.out.below hb)
  have HL7 := Lib.hid (HL4.out.below hb)
  clear hm hb e1 HB4 HX4 HY4 HL4 HL5
  obtain ⟨x0, x2, x3, x4, x5, x6, x7⟩ := HX7.out.cells
  have x1 := HX7.out.no
  rw [HXE.out] at x0 x1 x2 x3 x4 x5 x6 x7
  simp only [] at x0 x1 x2 x3 x4 x5 x6 x7
  go_wp2_with fail
  have hR2 := lit_replies [(⟨1, 0, .slice o1 p1 q1, .slice o2 p2 q2, .slice o3 p3 q3, ⟨[mU], [], []⟩, ⟨0, 0, 0⟩⟩ : Ry)] w7 62 (fun x hx => by
    rw [List.mem_singleton.1 hx]
    exact HL7.out) (by simp [maxLen])
  have hcb := merge_any _ _ 1 _ (HT.out.below (below_then HB7.out (Nat.le_refl _) ((Below.refl _ w7).alloc (Nat.le_refl _) _))) hR2 (fun x hx => by
    rw [List.mem_singleton.1 hx]
    exact goodU) (by simp) (by decide)
  rw [mergeU1] at hcb
  refine hcb.mono ?_
  rintro e w8 ⟨v2, rfl, hc2, hb⟩
  obtain ⟨o4, p4, q4, o5, p5, q5, o6, p6, q6, rfl, hl4⟩ := hc2.form
  have hb12 := below_then ((Below.refl _ w7).alloc (Nat.le_refl _) _) (Nat.le_refl _) hb
  have HB8 := Lib.hid (below_then HB7.out (Nat.le_refl _) hb12)
  have HX8 := Lib.hid (HX7.out.below hb12)
  have HY8 := Lib.hid (HY7.out.below hb12)
  have HL8 := Lib.hid (HL7.out.below hb12)
  have HL5 := Lib.hid hl4
  clear hcb hc2 hb hl4 hb12 hR2 HB7 HX7 HY7 HL7 x0 x1 x2 x3 x4 x5 x6 x7
  go_wp2_with fail
  refine (c_all (n := 1) HL5.out.is goodU (by decide)).mono ?_
  rintro e w9 ⟨g2, cap2, R2, rfl, -, hm, hb⟩
  rw [allU] at hm
  have e1 : R2.length = 1 := by have := congrArg List.length hm; simpa using this
  rw [e1]
  have HB9 := Lib.hid (below_then HB8.out (Nat.le_refl _) hb)
  have HX9 := Lib.hid (HX8.out.below hb)
  have HY9 := Lib.hid (HY8.out.below hb)
  have HL9 := Lib.hid (HL8.out.below hb)
  clear hm hb e1 HB8 HX8 HY8 HL8 HL5
  obtain ⟨x0, x2, x3, x4, x5, x6, x7⟩ := HX9.out.cells
  have x1 := HX9.out.no
  rw [HXE.out] at x0 x1 x2 x3 x4 x5 x6 x7
  simp only [] at x0 x1 x2 x3 x4 x5 x6 x7
  obtain ⟨y0, y2, y3, y4, y5, y6, y7⟩ := HY9.out.cells
  have y1 := HY9.out.no
  rw [HYE.out] at y0 y1 y2 y3 y4 y5 y6 y7
  simp only [] at y0 y1 y2 y3 y4 y5 y6 y7
  go_wp2_with fail
  have hfl := floor_any _ _ _ (HR1.out w9 HL9.out) (by simp)
  rw [floorU] at hfl
  unfold RetS vS at hfl
  refine hfl.mono ?_
  rintro e w10 ⟨rfl, hb⟩
  have HB10 := Lib.hid (below_then HB9.out (Nat.le_refl _) (below_then ((Below.refl _ w9).alloc (Nat.le_refl _) _) (Nat.le_refl _) hb))
  clear hfl hb HB9 x0 x1 x2 x3 x4 x5 x6 x7 y0 y1 y2 y3 y4 y5 y6 y7
  go_wp2_with fail
  go_ret
  exact ⟨rfl, HB10.out⟩
end Go.Proofs.YtmfhmcegmeinnaaGreatDoor.Mut

namespace Go.Proofs.YtmfhmcegmeinnaaGreatDoor.Mut
open Go.RowKit Go.Sort Go.Proofs.YtmfhmcegmeinnaaGreatDoor.Ord Go.Proofs.YtmfhmcegmeinnaaGreatDoor.RegInv
set_option linter.unusedSectionVars false
variable [Inhabited Lim]

theorem Copied.filteredC {base : Nat} {w w' : World} {R K : List Ro} {v v' : Value} (h : Copied w v R base) (hk : ∀ x ∈ K, x ∈ R) (ho : w'.ownsRow base 51 10 v' K.length (K.flatMap enM)) (hg : w.grownBy w' v.ownBlock) : Copied w' v' K base :=
  ⟨ho, fun x hx => (h.over x (hk x hx)).kept hg (rows_apart (h.over x (hk x hx)) h.row (by decide))⟩
/-- A row of the callee's own that reads as these. -/
def CpR (W : World) (v : Value) (l : List Mu) (base : Nat) : Prop := ∃ R : List Ro, R.map (·.1) = l ∧ Copied W v R base
theorem CpR.below {W W' : World} {v : Value} {l : List Mu} {base : Nat} (h : CpR W v l base) (hb : RowKit.Below W.heap.size W W') : CpR W' v l base := by
  obtain ⟨R, h1, h2⟩ := h
  exact ⟨R, h1, h2.below hb⟩
theorem CpR.reads {W : World} {v : Value} {l : List Mu} {base : Nat} (h : CpR W v l base) : Reads W v l := by
  obtain ⟨R, h1, h2⟩ := h
  exact ⟨R, h1, h2.mrow⟩
theorem CpR.form {W : World} {v : Value} {l : List Mu} {base : Nat} (h : CpR W v l base) : ∃ ao cap, v = .slice ao l.length cap ∧ l.length ≤ cap ∧ cap ≤ maxLen := h.reads.form
theorem CpR.base {W : World} {v : Value} {l : List Mu} {base b0 : Nat} (h : CpR W v l base) (hb : b0 ≤ base) : CpR W v l b0 := by
  obtain ⟨R, h1, h2⟩ := h
  exact ⟨R, h1, h2.base hb⟩
theorem own_grown {W W' : World} {base k : Nat} {e : TypeId} {size n : Nat} {v : Value} {xs : List Value} (h : W.ownsRow base e size v n xs) (hg : W.grownBy W' (some k)) (hk : k < base) : W'.ownsRow base e size v n xs :=
  h.kept hg (by
    cases hv : v.ownBlock with
    | none => exact Or.inl rfl
    | some m =>
      refine Or.inr fun e => ?_
      have := (h.lt m hv).1
      cases e
      omega)
theorem CpR.grown {W W' : World} {v : Value} {l : List Mu} {base k : Nat} (h : CpR W v l base) (hg : W.grownBy W' (some k)) (hk : k < base) : CpR W' v l base := by
  obtain ⟨R, h1, h2⟩ := h
  exact ⟨R, h1, own_grown h2.row hg hk, fun x hx => own_grown (h2.over x hx) hg hk⟩
theorem grown_put3B (w : World) (k : Nat) (a b d : Value) : w.grownBy (((w.setCell ⟨k, 0, none⟩ a).setCell ⟨k, 1, none⟩ b).setCell ⟨k, 2, none⟩ d) (some k) := by
  refine ⟨rfl, rfl, rfl, by simp, fun i hi hne => ?_⟩
  have hik : k ≠ i := fun e => hne (by rw [e])
  exact (heap_setCell_far _ ⟨k, 2, none⟩ d i hik).trans ((heap_setCell_far _ ⟨k, 1, none⟩ b i hik).trans (heap_setCell_far w ⟨k, 0, none⟩ a i hik))
def PartB (w : World) (l : List Mu) (e : Ending) (w' : World) : Prop := ∃ v, e = .returned v ∧ CpR w' v l w.heap.size ∧ RowKit.Below w.heap.size w w'
/-- A content of the callee's own. -/
def CpC (c : Con) (v : Value) (W : World) (base : Nat) : Prop := ∃ a b d, v = .agg #[a, b, d] ∧ CpR W a c.cells base ∧ CpR W b c.wipes base ∧ CpR W d c.sibs base
theorem CpC.below {c : Con} {v : Value} {W W' : World} {base : Nat} (h : CpC c v W base) (hb : RowKit.Below W.heap.size W W') : CpC c v W' base := by
  obtain ⟨a, b, d, e, h1, h2, h3⟩ := h
  exact ⟨a, b, d, e, h1.below hb, h2.below hb, h3.below hb⟩
theorem CpC.base {c : Con} {v : Value} {W : World} {base b0 : Nat} (h : CpC c v W base) (hb : b0 ≤ base) : CpC c v W b0 := by
  obtain ⟨a, b, d, e, h1, h2, h3⟩ := h
  exact ⟨a, b, d, e, h1.base hb, h2.base hb, h3.base hb⟩
theorem CpC.grown {c : Con} {v : Value} {W W' : World} {base k : Nat} (h : CpC c v W base) (hg : W.grownBy W' (some k)) (hk : k < base) : CpC c v W' base := by
  obtain ⟨a, b, d, e, h1, h2, h3⟩ := h
  exact ⟨a, b, d, e, h1.grown hg hk, h2.grown hg hk, h3.grown hg hk⟩
theorem CpC.is {c : Con} {v : Value} {W : World} {base : Nat} (h : CpC c v W base) : IsC c v W := by
  obtain ⟨a, b, d, e, h1, h2, h3⟩ := h
  exact ⟨a, b, d, e, ⟨h1.reads, h2.reads, h3.reads⟩⟩
def RetB2 (c : Con) (w : World) (e : Ending) (w' : World) : Prop := ∃ v, e = .returned v ∧ CpC c v w' w.heap.size ∧ RowKit.Below w.heap.size w w'
set_option maxHeartbeats 2000000 in
set_option maxRecDepth 100000 in
theorem leftofB_any {c : Con} {n : Nat} {a b d : Value} {Wb : World} (v : Value) (R : List Ro) (kb kc : Nat) (s : Stp) (w : World) (hcv : IsC c (.agg #[a, b, d]) Wb) (hG : Good c n) (hn0 : n ≤ 100000) (hP : C3 Wb kb a b d) (hc : kc < Wb.heap.size) (f0 : Wb.cell? ⟨kc, 0, none⟩ = some (.int .i64 s.p)) (f1 : Wb.cell? ⟨kc, 1, none⟩ = some (.int .i64 s.l)) (f2 : Wb.cell? ⟨kc, 2, none⟩ = some (.int .i64 s.w)) (hWb : RowKit.Below Wb.heap.size Wb w) (hv : MRow w v R) (hs : ∀ x ∈ R, Small x.1) (hn : R.length ≤ 100000) :
    Calls Tryz.prog 58 #[v, .pointer (some ⟨kb, 0, none⟩), .pointer (some ⟨kc, 0, none⟩)] w (PartB w ((R.map (·.1)).filter fun m => !deadF c s m)) := by
  have HC := Lib.hid (copies_any v R w hv (fun x hx => (hs x hx).over) hn)
  have HD := Lib.hid (fun (W : World) (hW : RowKit.Below w.heap.size w W) (g cap : Nat) (R1 : List Ro) (hcp : Copied W (.slice (some ⟨g, 0, none⟩) R1.length cap) R1 w.heap.size) (hl : R1.length ≤ 100000) =>
    delete_any w.heap.size (.slice (some ⟨g, 0, none⟩) R1.length cap) R1 61 #[.pointer (some ⟨kb, 0, none⟩), .pointer (some ⟨kc, 0, none⟩)] (fun x => deadF c s x) W hcp.row hcp.mrow.forms (by omega)
      (ask_sweep (n := n) kb kc s hcv hG hn0 hP hc f0 f1 f2 W (below_then hWb (Nat.le_refl _) hW) _ (fun k hk => Nat.le_trans hWb.size (hcp.row.lt k hk).1))
      (enters_of Tryz.func61 (by kernel_rfl) rfl))
  obtain ⟨ao, cap, rfl, -, -⟩ := hv.form
  obtain ⟨m, hN⟩ : ∃ n, n = R.length := ⟨_, rfl⟩
  unfold CopiesP at HC
  rw [← hN] at HC hn ⊢
  have HN := Lib.hid hN
  clear hv hs hc f0 f1 f2 hcv hG hn0 hP hN hWb
  go_enter Tryz.func58, Tryz.ntmps58
  go_wp2_with fail
  refine HC.out.mono ?_
  rintro e w1 ⟨v1, R1, rfl, ⟨g, cap1, rfl⟩, hm, hcp, hb⟩
  have hl1 : m = R1.length := by have h := congrArg List.length hm; simp only [List.length_map] at h; rw [HN.out]; exact h.symm
  rw [hl1] at hcp
  have HD1 := Lib.hid (HD.out w1 hb g cap1 R1 hcp (by omega))
  rw [← hl1] at HD1
  have HP := Lib.hid (And.intro hm (And.intro hcp (And.intro hl1 hb)))
  clear hm hcp hb hl1 HC HD
  go_wp2_with fail
  refine HD1.out.mono ?_
  rintro e w2 ⟨v2, rfl, ho, hg, -⟩
  have hb2 : RowKit.Below w.heap.size w w2 := HP.out.2.2.2.grown hg HP.out.2.2.2.size (fun k hk => (HP.out.2.1.row.lt k (by rw [HP.out.2.2.1] at hk; exact hk)).1)
  have hmr := HP.out.2.1.filteredC (K := R1.filter fun x => !deadF c s x.1) (fun x hx => (List.mem_filter.1 hx).1) ho (by rw [← HP.out.2.2.1]; exact hg)
  have HF := Lib.hid (And.intro hmr hb2)
  clear ho hg hmr hb2
  go_wp2_with fail
  go_ret
  refine ⟨_, rfl, ⟨_, ?_, HF.out.1⟩, HF.out.2⟩
  rw [← HP.out.1, List.filter_map]
  rfl

set_option maxHeartbeats 4000000 in
set_option maxRecDepth 100000 in
theorem c_sweepB {c : Con} {n : Nat} {v : Value} {w : World} (s : Stp) (hv : IsC c v w) (h : Good c n) (hn : n ≤ 100000) :
    Calls Tryz.prog 22 #[v, vS s] w (RetB2 (c.filter fun m => !deadF c s m) w) := by
  obtain ⟨f, hf⟩ : ∃ f : Mu → Bool, f = fun m => !deadF c s m := ⟨_, rfl⟩
  rw [← hf]
  obtain ⟨o1, n1, k1, o2, n2, k2, o3, n3, k3, rfl, hl⟩ := hv.form
  have hlo := h.okc.lens
  obtain ⟨⟨RA, ea, hra⟩, ⟨RB, eb, hrb⟩, ⟨RD, ed, hrd⟩⟩ := hl
  have la : RA.length ≤ 100000 := by have h1 : c.cells.length = RA.length := by rw [← ea]; simp
                                     omega
  have lb : RB.length ≤ 100000 := by have h1 : c.wipes.length = RB.length := by rw [← eb]; simp
                                     omega
  have ld : RD.length ≤ 100000 := by have h1 : c.sibs.length = RD.length := by rw [← ed]; simp
                                     omega
  have sa : ∀ x ∈ RA, Small x.1 := fun x hx => small_right (h.okc.right _ (Con.mem_all.2 (Or.inl (ea ▸ List.mem_map.2 ⟨x, hx, rfl⟩))))
  have sb : ∀ x ∈ RB, Small x.1 := fun x hx => small_right (h.okc.right _ (Con.mem_all.2 (Or.inr (Or.inl (eb ▸ List.mem_map.2 ⟨x, hx, rfl⟩)))))
  have sd : ∀ x ∈ RD, Small x.1 := fun x hx => small_right (h.okc.right _ (Con.mem_all.2 (Or.inr (Or.inr (ed ▸ List.mem_map.2 ⟨x, hx, rfl⟩)))))
  obtain ⟨sp, sl, sw⟩ := s
  obtain ⟨W0, hW0⟩ : ∃ W0, W0 = ((w.alloc (.cells #[.slice o1 n1 k1, .slice o2 n2 k2, .slice o3 n3 k3] 28)).alloc (.cells #[.int .i64 sp, .int .i64 sl, .int .i64 sw] 43)).alloc (.cells #[.slice none 0 0, .slice none 0 0, .slice none 0 0] 28) := ⟨_, rfl⟩
  have hb0 : RowKit.Below w.heap.size w W0 := by rw [hW0]; exact (((Below.refl _ w).alloc (Nat.le_refl _) _).alloc (by simp) _).alloc (by simp; omega) _
  have hP : C3 W0 w.heap.size (.slice o1 n1 k1) (.slice o2 n2 k2) (.slice o3 n3 k3) := by
    rw [hW0]
    exact ((C3.new w _ _ _).below ((Below.refl _ _).alloc (Nat.le_refl _) _)).below ((Below.refl _ _).alloc (Nat.le_refl _) _)
  have hT : C3 W0 (w.heap.size + 1 + 1) (.slice none 0 0) (.slice none 0 0) (.slice none 0 0) := by
    rw [hW0]
    have := C3.new ((w.alloc (.cells #[.slice o1 n1 k1, .slice o2 n2 k2, .slice o3 n3 k3] 28)).alloc (.cells #[.int .i64 sp, .int .i64 sl, .int .i64 sw] 43)) (.slice none 0 0) (.slice none 0 0) (.slice none 0 0)
    rwa [World.size_alloc, World.size_alloc] at this
  have z0 : W0.cell? ⟨w.heap.size + 1, 0, none⟩ = some (.int .i64 sp) := by rw [hW0]; go_simp
  have z1 : W0.cell? ⟨w.heap.size + 1, 1, none⟩ = some (.int .i64 sl) := by rw [hW0]; go_simp
  have z2 : W0.cell? ⟨w.heap.size + 1, 2, none⟩ = some (.int .i64 sw) := by rw [hW0]; go_simp
  have hz : w.heap.size + 1 < W0.heap.size := by have := hT.lt; omega
  have key : ∀ (v : Value) (R : List Ro) (l : List Mu), R.map (·.1) = l → MRow w v R → (∀ x ∈ R, Small x.1) → R.length ≤ 100000 → ∀ W, RowKit.Below W0.heap.size W0 W → Calls Tryz.prog 58 #[v, .pointer (some ⟨w.heap.size, 0, none⟩), .pointer (some ⟨w.heap.size + 1, 0, none⟩)] W fun e w' => ∃ v, e = .returned v ∧ CpR w' v (l.filter f) W0.heap.size ∧ RowKit.Below W.heap.size W w' := fun v R l hl hv' hs' hn' W hW => by
    refine (leftofB_any (n := n) v R w.heap.size (w.heap.size + 1) ⟨sp, sl, sw⟩ W (hv.below hb0) h hn hP hz z0 z1 z2 hW (hv'.below (below_then hb0 (Nat.le_refl _) hW)) hs' hn').mono ?_
    rintro e w' ⟨v1, rfl, ⟨R1, h1, h2⟩, h3⟩
    exact ⟨v1, rfl, ⟨R1, by rw [h1, hl, hf], h2.base hW.size⟩, h3⟩
  have HA := Lib.hid (key _ _ _ ea hra sa la)
  have HB := Lib.hid (key _ _ _ eb hrb sb lb)
  have HD := Lib.hid (key _ _ _ ed hrd sd ld)
  have HZ := Lib.hid (And.intro hz (And.intro z0 (And.intro z1 z2)))
  have HP := Lib.hid hP
  have HT := Lib.hid hT
  have HB0 := Lib.hid hb0
  have HW := Lib.hid hW0
  have HI := Lib.hid (fun W (hW : RowKit.Below W0.heap.size W0 W) => hv.below (below_then hb0 (Nat.le_refl _) hW))
  have he1 : ∀ args w, (callFunc 58 args).run Tryz.prog w = .ok (.enter 58 args) w := enters_of Tryz.func58 (by kernel_rfl) rfl
  clear key hlo ea eb ed hra hrb hrd la lb ld sa sb sd hb0 hP hT hW0 z0 z1 z2 hz hf hv h hn
  unfold vS
  simp only []
  go_enter Tryz.func22, Tryz.ntmps22
  go_upto_region 2 with fail
  rw [← HW.out]
  clear HW
  go_wp2_with fail
  refine wp_region_told [] 13 [false, false, false, false, false, false, false, true, true, true, true, true, true, true, true, true, true, true, true, true]
    [sLit (.func (.func 58) #[] #[.pointer (some ⟨w.heap.size, 0, none⟩), .pointer (some ⟨w.heap.size + 1, 0, none⟩)]),
    sLit (.pointer (some ⟨w.heap.size, 0, none⟩)),
    sLit (.slice o1 n1 k1),
    sOne (fun v W => CpR W v (c.cells.filter f) W0.heap.size) (fun _ _ _ h hb => h.below hb),
    sLit (.func (.func 58) #[] #[.pointer (some ⟨w.heap.size, 0, none⟩), .pointer (some ⟨w.heap.size + 1, 0, none⟩)]),
    sLit (.pointer (some ⟨w.heap.size, 1, none⟩)),
    sLit (.slice o2 n2 k2),
    sOne (fun v W => CpR W v (c.wipes.filter f) W0.heap.size) (fun _ _ _ h hb => h.below hb),
    sLit (.func (.func 58) #[] #[.pointer (some ⟨w.heap.size, 0, none⟩), .pointer (some ⟨w.heap.size + 1, 0, none⟩)]),
    sLit (.pointer (some ⟨w.heap.size, 2, none⟩)),
    sLit (.slice o3 n3 k3),
    sOne (fun v W => CpR W v (c.sibs.filter f) W0.heap.size) (fun _ _ _ h hb => h.below hb),
    sFn3 10 14 18 (fun x0 x1 x2 => .agg #[x0, x1, x2])] (by kernel_rfl) (by kernel_rfl) (by kernel_rfl) (fun F hF => ?_)
  simp only [over, overL, Nat.reduceAdd] at hF
  obtain rfl := funext hF
  clear hF
  refine ⟨⟨?_, ?_, ?_, ?_, ?_, ?_, ?_, ?_, ?_, ?_, ?_, ?_, ?_, trivial⟩, ?_⟩
  · intro V W hb hd K hK _
    clear hd
    go_wp2_with fail
    refine hK _ _ ?_ ?_ ?_ ?_
    · rfl
    · exact Below.refl _ _
    · exact rfl
    · trivial
  · intro V W hb hd K hK _
    clear hd
    go_wp2_with fail
    refine hK _ _ ?_ ?_ ?_ ?_
    · rfl
    · exact Below.refl _ _
    · exact rfl
    · trivial
  · intro V W hb hd K hK _
    have h1 : (V 8) = .pointer (some ⟨w.heap.size, 0, none⟩) := hd 1 (by kernel_rfl)
    clear hd
    obtain ⟨-, s0, s1, s2, -⟩ := HP.out.below hb
    go_wp2_with fail
    refine hK _ _ ?_ ?_ ?_ ?_
    · rfl
    · exact Below.refl _ _
    · exact rfl
    · trivial
  · intro V W hb hd K hK _
    have h0 : (V 7) = .func (.func 58) #[] #[.pointer (some ⟨w.heap.size, 0, none⟩), .pointer (some ⟨w.heap.size + 1, 0, none⟩)] := hd 0 (by kernel_rfl)
    have h2 : (V 9) = .slice o1 n1 k1 := hd 2 (by kernel_rfl)
    clear hd
    go_wp2_with fail
    refine (HA.out _ hb).mono ?_
    rintro e w1 ⟨v1, rfl, hr1, hb1⟩
    go_wp2_with fail
    refine hK _ _ ?_ ?_ ?_ ?_
    · rfl
    · exact hb1
    · exact hr1
    · trivial
  · intro V W hb hd K hK _
    clear hd
    go_wp2_with fail
    refine hK _ _ ?_ ?_ ?_ ?_
    · rfl
    · exact Below.refl _ _
    · exact rfl
    · trivial
  · intro V W hb hd K hK _
    clear hd
    go_wp2_with fail
    refine hK _ _ ?_ ?_ ?_ ?_
    · rfl
    · exact Below.refl _ _
    · exact rfl
    · trivial
  · intro V W hb hd K hK _
    have h5 : (V 12) = .pointer (some ⟨w.heap.size, 1, none⟩) := hd 5 (by kernel_rfl)
    clear hd
    obtain ⟨-, s0, s1, s2, -⟩ := HP.out.below hb
    go_wp2_with fail
    refine hK _ _ ?_ ?_ ?_ ?_
    · rfl
    · exact Below.refl _ _
    · exact rfl
    · trivial
  · intro V W hb hd K hK _
    have h4 : (V 11) = .func (.func 58) #[] #[.pointer (some ⟨w.heap.size, 0, none⟩), .pointer (some ⟨w.heap.size + 1, 0, none⟩)] := hd 4 (by kernel_rfl)
    have h6 : (V 13) = .slice o2 n2 k2 := hd 6 (by kernel_rfl)
    clear hd
    go_wp2_with fail
    refine (HB.out _ hb).mono ?_
    rintro e w1 ⟨v1, rfl, hr1, hb1⟩
    go_wp2_with fail
    refine hK _ _ ?_ ?_ ?_ ?_
    · rfl
    · exact hb1
    · exact hr1
    · trivial
  · intro V W hb hd K hK _
    clear hd
    go_wp2_with fail
    refine hK _ _ ?_ ?_ ?_ ?_
    · rfl
    · exact Below.refl _ _
    · exact rfl
    · trivial
  · intro V W hb hd K hK _
    clear hd
    go_wp2_with fail
    refine hK _ _ ?_ ?_ ?_ ?_
    · rfl
    · exact Below.refl _ _
    · exact rfl
    · trivial
  · intro V W hb hd K hK _
    have h9 : (V 16) = .pointer (some ⟨w.heap.size, 2, none⟩) := hd 9 (by kernel_rfl)
    clear hd
    obtain ⟨-, s0, s1, s2, -⟩ := HP.out.below hb
    go_wp2_with fail
    refine hK _ _ ?_ ?_ ?_ ?_
    · rfl
    · exact Below.refl _ _
    · exact rfl
    · trivial
  · intro V W hb hd K hK _
    have h8 : (V 15) = .func (.func 58) #[] #[.pointer (some ⟨w.heap.size, 0, none⟩), .pointer (some ⟨w.heap.size + 1, 0, none⟩)] := hd 8 (by kernel_rfl)
    have h10 : (V 17) = .slice o3 n3 k3 := hd 10 (by kernel_rfl)
    clear hd
    go_wp2_with fail
    refine (HD.out _ hb).mono ?_
    rintro e w1 ⟨v1, rfl, hr1, hb1⟩
    go_wp2_with fail
    refine hK _ _ ?_ ?_ ?_ ?_
    · rfl
    · exact hb1
    · exact hr1
    · trivial
  · intro V W hb hd K hK _
    have h3 : CpR W (V 10) (c.cells.filter f) W0.heap.size := hd 3 (by kernel_rfl)
    have h7 : CpR W (V 14) (c.wipes.filter f) W0.heap.size := hd 7 (by kernel_rfl)
    have h11 : CpR W (V 18) (c.sibs.filter f) W0.heap.size := hd 11 (by kernel_rfl)
    clear hd
    obtain ⟨o13, k13, e3, -, -⟩ := h3.form
    obtain ⟨o17, k17, e7, -, -⟩ := h7.form
    obtain ⟨o21, k21, e11, -, -⟩ := h11.form
    go_wp2_with fail
    refine hK _ _ ?_ ?_ ?_ ?_
    · rfl
    · exact Below.refl _ _
    · exact (show _ = Value.agg #[V 10, V 14, V 18] by rw [e3, e7, e11]; rfl)
    · trivial
  · intro V W hb hd hap
    have h3 : CpR W (V 10) (c.cells.filter f) W0.heap.size := hd 3 (by decide)
    have h7 : CpR W (V 14) (c.wipes.filter f) W0.heap.size := hd 7 (by decide)
    have h11 : CpR W (V 18) (c.sibs.filter f) W0.heap.size := hd 11 (by decide)
    have h12 : (V 19) = .agg #[V 10, V 14, V 18] := hd 12 (by decide)
    clear hd hap
    simp only [List.drop_succ_cons, List.drop_zero]
    have HT4 := Lib.hid (HT.out.below hb)
    obtain ⟨-, t0, t1, t2, f0, f1, f2⟩ := HT4.out
    obtain ⟨o4, k4, e3, -, -⟩ := h3.form
    obtain ⟨o5, k5, e7, -, -⟩ := h7.form
    obtain ⟨o6, k6, e11, -, -⟩ := h11.form
    rw [e3] at h3
    rw [e7] at h7
    rw [e11] at h11
    have HRR := Lib.hid (And.intro h3 (And.intro h7 h11))
    clear h3 h7 h11
    obtain ⟨n4, hn4⟩ : ∃ n, n = (c.cells.filter f).length := ⟨_, rfl⟩
    obtain ⟨n5, hn5⟩ : ∃ n, n = (c.wipes.filter f).length := ⟨_, rfl⟩
    obtain ⟨n6, hn6⟩ : ∃ n, n = (c.sibs.filter f).length := ⟨_, rfl⟩
    rw [← hn4] at e3 HRR
    rw [← hn5] at e7 HRR
    rw [← hn6] at e11 HRR
    clear hn4 hn5 hn6
    go_wp2_with fail
    obtain ⟨-, u0, u1, u2, -⟩ := c3_put HT4.out (.slice o4 n4 k4) (.slice o5 n5 k5) (.slice o6 n6 k6)
    refine bodyPost_ret (v := .agg #[.slice o4 n4 k4, .slice o5 n5 k5, .slice o6 n6 k6]) (by simp [results, Tryz.f22, go_sem, u0, u1, u2]) rfl ?_
    have hk : w.heap.size + 1 + 1 < W0.heap.size := HT.out.lt
    have hgp := grown_put3B W (w.heap.size + 1 + 1) (.slice o4 n4 k4) (.slice o5 n5 k5) (.slice o6 n6 k6)
    exact ⟨_, rfl, ⟨_, _, _, rfl, (HRR.out.1.grown hgp hk).base HB0.out.size, (HRR.out.2.1.grown hgp hk).base HB0.out.size, (HRR.out.2.2.grown hgp hk).base HB0.out.size⟩, c3_put_below (below_then HB0.out (Nat.le_refl _) hb) (by omega) _ _ _⟩



end Go.Proofs.YtmfhmcegmeinnaaGreatDoor.Mut

namespace Go.Proofs.YtmfhmcegmeinnaaGreatDoor.Mut
open Go.RowKit Go.Sort Go.Proofs.YtmfhmcegmeinnaaGreatDoor.Ord Go.Proofs.YtmfhmcegmeinnaaGreatDoor.RegInv Go.Proofs.YtmfhmcegmeinnaaGreatDoor.Spare
set_option linter.unusedSectionVars false
variable [Inhabited Lim]

theorem spare_lit (w : World) (base : Nat) (e : TypeId) (zs : List Value) (hpos : 0 < zs.length) (hb : base ≤ w.heap.size) : Spare (w.alloc (.cells #[] e)) base e zs (.slice (some ⟨w.heap.size, 0, none⟩) 0 0) 0 [] := by
  have h := fresh_spare w base e zs hpos 0 0 [] (by simp) (Nat.le_refl _) (Nat.zero_le _) hb
  have e0 : (([] : List Value).toArray ++ Builtin.zeroCells zs.toArray (0 - 0)) = #[] := by simp [Builtin.zeroCells]
  rw [e0] at h
  exact h
theorem lst_src {α : Type} {sz : Nat} {en : α → List Value} {w : World} {ao : Option Addr} {n cap : Nat} {l : List α} (hen : ∀ x, (en x).length = sz) (hsz : 0 < sz) (h : Lst sz en w (.slice ao n cap) l) :
    n = 0 ∨ ∃ ad, ao = some ad ∧ ∀ j u, (l.flatMap en)[j]? = some u → w.cell? (ad.add j) = some u := by
  have hl := Lst.len h
  cases ao with
  | some a => exact Or.inr ⟨a, rfl, Lst.news hen hsz h⟩
  | none =>
    left
    cases l with
    | nil => exact hl
    | cons x l =>
      obtain ⟨b, off, e, -⟩ := Lst.get h (show 0 < (x :: l).length by simp)
      cases e
theorem S3.grown {w w' : World} {k : Nat} {s : Stp} {row : Option Nat} (h : S3 w k s) (hg : w.grownBy w' row) (hne : some k ≠ row) : S3 w' k s := by
  have hb := hg.block k h.lt hne
  have e : ∀ i, w'.cell? ⟨k, i, none⟩ = w.cell? ⟨k, i, none⟩ := fun i => World.cell?_of_block (a := ⟨k, i, none⟩) hb
  have f : ∀ i, w'.frozen? ⟨k, i, none⟩ = w.frozen? ⟨k, i, none⟩ := fun i => World.frozen?_of_block (a := ⟨k, i, none⟩) hb
  obtain ⟨h0, h1, h2, h3, h4, h5, h6⟩ := h
  exact ⟨Nat.lt_of_lt_of_le h0 hg.size, (e 0).trans h1, (e 1).trans h2, (e 2).trans h3, (f 0).trans h4, (f 1).trans h5, (f 2).trans h6⟩
theorem GrowY.besideM {w w' : World} {base base2 : Nat} {e2 : TypeId} {v v2 : Value} {n n2 : Nat} {R : List Ro} {R2 : List Ry} (h2 : GrowY w base2 e2 v2 n2 R2) (hs : Spare w base 51 zM v n (R.flatMap enM)) (hN : (default : Lim).n ≤ base) (hn : n = R.length)
    (hr : ∀ x ∈ R2, ∀ m ∈ x.c.all, rightF m = true) (hne : e2 ≠ 51) (hg : w.grownBy w' v.ownBlock) (hk : Kept w w' zM v n) : GrowY w' base2 e2 v2 n2 R2 :=
  ⟨h2.row.kept hg (rows_apart h2.row.own hs.own hne), fun y hy => lies_keptM (h2.con y hy) (hr y hy) hN hn hs hk hg.size, h2.len⟩
/-- Replies stay where a variable's three cells change. -/
theorem GrowY.moved {w w' : World} {base k : Nat} {e : TypeId} {v : Value} {n : Nat} {R : List Ry} (h : GrowY w base e v n R) (hg : w.grownBy w' (some k)) (hp : Plain3 w w') (hne : v.ownBlock = none ∨ v.ownBlock ≠ some k) : GrowY w' base e v n R :=
  ⟨h.row.kept hg hne, fun y hy => (h.con y hy).plain3 hp, h.len⟩
theorem Plain3.trans {a b c : World} (h : Plain3 a b) (k : Plain3 b c) : Plain3 a c := ⟨Nat.le_trans h.1 k.1, fun p v h1 h2 => k.2 p v (h.2 p v h1 h2) h2⟩
theorem Plain3.of_below {a b : World} (h : RowKit.Below a.heap.size a b) : Plain3 a b := ⟨h.size, fun p v h1 _ => (h.cell (World.block_lt_of_cell? a p h1)).trans h1⟩
theorem grown_trans {a b c : World} {k : Nat} (h : a.grownBy b (some k)) (h2 : b.grownBy c (some k)) : a.grownBy c (some k) :=
  ⟨h2.os.trans h.os, h2.tape.trans h.tape, h2.output.trans h.output, Nat.le_trans h.size h2.size, fun i hi hne => (h2.block i (Nat.lt_of_lt_of_le hi h.size) hne).trans (h.block i hi hne)⟩
theorem grown_put3 (w : World) (k : Nat) (a b d : Value) : w.grownBy (((w.setCell ⟨k, 0, none⟩ a).setCell ⟨k, 1, none⟩ b).setCell ⟨k, 2, none⟩ d) (some k) := by
  refine ⟨rfl, rfl, rfl, by simp, fun i hi hne => ?_⟩
  have hik : k ≠ i := fun e => hne (by rw [e])
  exact (heap_setCell_far _ ⟨k, 2, none⟩ d i hik).trans ((heap_setCell_far _ ⟨k, 1, none⟩ b i hik).trans (heap_setCell_far w ⟨k, 0, none⟩ a i hik))

section
variable (Wr : World) (n0 k11 bb : Nat) (f : Stp) (z : Con) (p1 : Option Addr) (q1 r1 : Nat) (p2 : Option Addr) (q2 r2 : Nat) (p3 : Option Addr) (q3 r3 : Nat)
def seAw (i j : Nat) : Bool := decide (i = 6 ∧ j = 0)
def seSp : Nat → Option (World → World → Prop) := fun i => if i = 6 then some (fun a b => a.grownBy b (some k11) ∧ Plain3 a b) else none
def seCom (W : World) : Prop := Wr.grownBy W (some k11) ∧ Plain3 Wr W
def sePre (j : Nat) (W : World) : Prop := if j = 0 ∨ j = 6 then C3 W k11 (.slice p1 q1 r1) (.slice p2 q2 r2) (.slice p3 q3 r3) else True
def seNew (l : List Value) (v : Value) (W : World) : Prop := ∃ o1 n1 c1 o2 n2 c2 o3 n3 c3, l.getD 0 undef = .agg #[.slice o1 n1 c1, .slice o2 n2 c2, .slice o3 n3 c3] ∧ C3 W k11 (.slice o1 n1 c1) (.slice o2 n2 c2) (.slice o3 n3 c3)
def seS : List RSpec := [sLit (.agg #[.slice p1 q1 r1, .slice p2 q2 r2, .slice p3 q3 r3]), sLit (.pointer (some ⟨n0, 1, none⟩)), sLit (.agg #[.int .i64 f.p, .int .i64 f.l, .int .i64 f.w]), sOne (fun v W => CpC (sweepC z f) v W bb) (fun _ _ _ h hb => h.below hb),
  sLit (.pointer (some ⟨n0, 1, none⟩)), sLit (.agg #[.int .i64 f.p, .int .i64 f.l, .int .i64 f.w]),
  ⟨[120], seNew k11, fun l v w w' h hb => by obtain ⟨o1, n1, c1, o2, n2, c2, o3, n3, c3, h1, h2⟩ := h; exact ⟨o1, n1, c1, o2, n2, c2, o3, n3, c3, h1, h2.below hb⟩⟩]
variable {Wr n0 k11 bb f z p1 q1 r1 p2 q2 r2 p3 q3 r3}
theorem seFits (hk : k11 < bb) : RegSp.Fits seAw (seSp k11) (seCom Wr k11) (sePre k11 p1 q1 r1 p2 q2 r2 p3 q3 r3) (seS n0 k11 bb f z p1 q1 r1 p2 q2 r2 p3 q3 r3) 7 := by
  have key : ∀ i r, seSp k11 i = some r → i = 6 ∧ r = fun a b => a.grownBy b (some k11) ∧ Plain3 a b := by
    intro i r h
    unfold seSp at h
    split at h
    · exact ⟨by assumption, (Option.some.inj h).symm⟩
    · cases h
  refine ⟨fun W W' h hb => ⟨grown_trans h.1 (grown_below hb _), h.2.trans (.of_below hb)⟩, fun j W W' h hb => ?_, fun i r hi hs W W' hc hp hr => ?_, fun i r hi hs j hj hne haw W W' hc hp hr hq => ?_, fun i r hi hs j hj hne W W' hc hp hr l v ht => ?_⟩
  · unfold sePre at *
    split
    · rename_i h1; rw [if_pos h1] at h; exact h.below hb
    · trivial
  · obtain ⟨rfl, rfl⟩ := key i r hs
    exact ⟨grown_trans hc.1 hr.1, hc.2.trans hr.2⟩
  · obtain ⟨rfl, rfl⟩ := key i r hs
    unfold sePre
    rw [if_neg]
    · trivial
    · rintro (rfl | rfl)
      · simp [seAw] at haw
      · exact hne rfl
  · obtain ⟨rfl, rfl⟩ := key i r hs
    match j, hj, hne with
    | 0, _, _ => exact ht
    | 1, _, _ => exact ht
    | 2, _, _ => exact ht
    | 3, _, _ => exact CpC.grown ht hr.1 hk
    | 4, _, _ => exact ht
    | 5, _, _ => exact ht
    | 6, _, hne => exact absurd rfl hne
    | j + 7, hj, _ => omega
end
end Go.Proofs.YtmfhmcegmeinnaaGreatDoor.Mut
