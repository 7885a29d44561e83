/- What one content lacks of another one; joins of many (layers 25, 29), in plain Lean. · Stamps in rows; whether one is superseded; what a key of a causal table has (layer 8). PRINTED by wip/gensup.py. · Stamps' maxima; rows of reports; the greatest floor (layers 4, 25). · Layer 12 (engine): versions that have but a fence: Right, Same; a record's bytes. PRINTED by wip/genengver.py. · Layer 11 (disk), of a disk that works: of, Sync, and Append of a new file; what they leave alone. · Layer 12 (engine): a record's bytes; store of a first file. · Layer 12 (engine): write of a first version. PRINTED by wip/genengwrite.py. -/
import Derived.Test.YtmjelcjdfamikaaGreatDoorConKnown
import Derived.Test.YtmjelcjdfamikaaGreatDoorPkA
import Derived.Test.YtmjelcjdfamikaaGreatDoorMutWords
import Derived.Test.YtmjelcjdfamikaaGreatDoorAppendLoc
import Derived.Test.YtmjelcjdfamikaaGreatDoorPkB
set_option linter.unusedSimpArgs false
set_option linter.unusedVariables false
namespace Go.Proofs.YtmjelcjdfamikaaGreatDoor.Mut
open Go.Proofs.YtmjelcjdfamikaaGreatDoor.Ord
set_option linter.unusedSectionVars false
variable [Inhabited Lim]

/-- Are two contents the same? -/
def conB (c d : Con) : Bool := eqF c.cells d.cells && (eqF c.wipes d.wipes && eqF c.sibs d.sibs)
theorem conB_iff (c d : Con) : conB c d = true ↔ c = d := by
  unfold conB
  rw [Bool.and_eq_true, Bool.and_eq_true, eqF_iff, eqF_iff, eqF_iff]
  constructor
  · rintro ⟨h1, h2, h3⟩
    cases c
    cases d
    simp only at h1 h2 h3
    rw [h1, h2, h3]
  · rintro rfl
    exact ⟨rfl, rfl, rfl⟩
/-- What is in one content and adds something to another one. -/
def missF (x y : Con) : List Mu := (allF x).filter fun m => !conB (addC y m) y
theorem mem_missF {x y : Con} {m : Mu} : m ∈ missF x y ↔ m ∈ x.all ∧ ¬ addC y m = y := by
  unfold missF
  rw [List.mem_filter, mem_allF, Bool.not_eq_true', ← Bool.not_eq_true, conB_iff]
theorem foldl_addC (k l : List Mu) : l.foldl addC (leftOf k) = leftOf (k ++ l) := by
  induction l generalizing k with
  | nil => rw [List.append_nil]; rfl
  | cons m l ih =>
    rw [List.foldl_cons, addC_left, ih, List.append_assoc]
    rfl
theorem fold_good {c : Con} {n : Nat} (h : Good c n) (l : List Mu) : l.foldl addC c = leftOf (c.all ++ l) := by
  conv => lhs; rw [← h.left]
  exact foldl_addC _ _
/-- What adds nothing to a content adds nothing to that and more. -/
theorem adds_nothing {y : Con} {m : Mu} (h : addC y m = y) (l : List Mu) : leftOf (y.all ++ l ++ [m]) = leftOf (y.all ++ l) := by
  have e : leftOf (y.all ++ l ++ [m]) = leftOf ((y.all ++ [m]) ++ l) := leftOf_congr fun u => by
    simp only [fits_append]
    exact ⟨fun g => g.elim (fun g => g.elim (fun g => Or.inl (Or.inl g)) Or.inr) (fun g => Or.inl (Or.inr g)), fun g => g.elim (fun g => g.elim (fun g => Or.inl (Or.inl g)) Or.inr) (fun g => Or.inl (Or.inr g))⟩
  rw [e, ← leftOf_swallow]
  have h2 : leftOf (y.all ++ [m]) = y := h
  rw [h2]
theorem miss_done {x y : Con} {m : Mu} (hm : m ∈ x.all) : addC (leftOf (y.all ++ missF x y)) m = leftOf (y.all ++ missF x y) := by
  rw [addC_left]
  by_cases h : addC y m = y
  · exact adds_nothing h _
  · have hin : m ∈ missF x y := mem_missF.2 ⟨hm, h⟩
    refine leftOf_congr fun u => ?_
    rw [fits_append]
    unfold Fits
    rw [List.mem_singleton]
    constructor
    · rintro (g | ⟨rfl, g⟩)
      · exact g
      · exact ⟨List.mem_append.2 (Or.inr hin), g⟩
    · exact Or.inl
/-- With what it lacks a content has all of the other one. -/
theorem miss_none (x y : Con) : missF x (leftOf (y.all ++ missF x y)) = [] := by
  apply List.eq_nil_iff_forall_not_mem.2
  intro m hm
  exact (mem_missF.1 hm).2 (miss_done (mem_missF.1 hm).1)
/-- Rows that add nothing may be left out. -/
theorem add_all {y : Con} (h : List Mu) (hs : ∀ m ∈ h, addC y m = y) (l : List Mu) : leftOf (y.all ++ l ++ h) = leftOf (y.all ++ l) := by
  induction h with
  | nil => rw [List.append_nil]
  | cons m h ih =>
    have e : leftOf (y.all ++ l ++ (m :: h)) = leftOf (y.all ++ (l ++ h) ++ [m]) := leftOf_congr fun u => by
      rw [show m :: h = [m] ++ h from rfl]
      simp only [fits_append]
      constructor
      · rintro ((g | g) | g | g)
        · exact Or.inl (Or.inl g)
        · exact Or.inl (Or.inr (Or.inl g))
        · exact Or.inr g
        · exact Or.inl (Or.inr (Or.inr g))
      · rintro ((g | g | g) | g)
        · exact Or.inl (Or.inl g)
        · exact Or.inl (Or.inr g)
        · exact Or.inr (Or.inr g)
        · exact Or.inr (Or.inl g)
    rw [e, adds_nothing (hs m (List.mem_cons_self ..)), ← List.append_assoc, ih fun m hm => hs m (List.mem_cons_of_mem _ hm)]
theorem miss_join (x y : Con) : leftOf (y.all ++ missF x y) = joinC y x := by
  have h1 := add_all (y := y) ((allF x).filter fun m => conB (addC y m) y) (fun m hm => (conB_iff _ _).1 (List.mem_filter.1 hm).2) (missF x y)
  rw [← h1]
  unfold joinC
  refine leftOf_congr fun u => ?_
  have key : ∀ u, u ∈ x.all ↔ u ∈ missF x y ∨ u ∈ (allF x).filter fun m => conB (addC y m) y := fun u => by
    rw [mem_missF, List.mem_filter, mem_allF, conB_iff]
    constructor
    · intro h
      by_cases g : addC y u = y
      · exact Or.inr ⟨h, g⟩
      · exact Or.inl ⟨h, g⟩
    · exact fun h => h.elim (fun g => g.1) (fun g => g.1)
  unfold Fits
  rw [List.mem_append, List.mem_append, List.mem_append, key u, or_assoc]

/-! ## Joins of many -/
theorem joinC_fold (k : List Mu) (l : List Con) : l.foldl joinC (leftOf k) = leftOf (k ++ l.flatMap Con.all) := by
  induction l generalizing k with
  | nil => rw [List.flatMap_nil, List.append_nil]; rfl
  | cons c l ih =>
    rw [List.foldl_cons, List.flatMap_cons, ← List.append_assoc, ← ih]
    unfold joinC
    rw [leftOf_swallow]
theorem empty_left : leftOf [] = ⟨[], [], []⟩ := by rfl
theorem join_many (l : List Con) : l.foldl joinC ⟨[], [], []⟩ = leftOf (l.flatMap Con.all) := by
  rw [← empty_left, joinC_fold, List.nil_append]
theorem join_perm {l k : List Con} (h : l.Perm k) : l.foldl joinC ⟨[], [], []⟩ = k.foldl joinC ⟨[], [], []⟩ := by
  rw [join_many, join_many]
  refine leftOf_congr fun u => ?_
  unfold Fits
  rw [List.mem_flatMap, List.mem_flatMap]
  exact and_congr_left fun _ => ⟨fun ⟨c, h1, h2⟩ => ⟨c, h.mem_iff.1 h1, h2⟩, fun ⟨c, h1, h2⟩ => ⟨c, h.mem_iff.2 h1, h2⟩⟩
theorem join_good : ∀ (l : List Con) (c : Con) (n k : Nat), Good c n → (∀ d ∈ l, Good d k) → Good (l.foldl joinC c) (n + k * l.length)
  | [], c, n, k, h, _ => by simpa using h
  | d :: l, c, n, k, h, g => by
    have := join_good l (joinC c d) (n + k) k (joinC_good h (g d (List.mem_cons_self ..))) fun e he => g e (List.mem_cons_of_mem _ he)
    refine this.more ?_
    rw [List.length_cons, Nat.mul_add]
    omega
end Go.Proofs.YtmjelcjdfamikaaGreatDoor.Mut

namespace Go.Proofs.YtmjelcjdfamikaaGreatDoor.Mut
open Go.RowKit Go.Sort Go.Proofs.YtmjelcjdfamikaaGreatDoor.Ord Go.Proofs.YtmjelcjdfamikaaGreatDoor.RegInv
set_option linter.unusedSectionVars false
variable [Inhabited Lim]

/-! ## Stamps -/
def eqT (x y : Stp) : Bool := (x.p == y.p) && ((x.l == y.l) && (x.w == y.w))
theorem eqT_comm (x y : Stp) : eqT x y = eqT y x := by
  unfold eqT
  rw [Bool.beq_comm (a := x.p), Bool.beq_comm (a := x.l), Bool.beq_comm (a := x.w)]
theorem eqT_iff (x y : Stp) : eqT x y = true ↔ x = y := by
  obtain ⟨a, b, c⟩ := x
  obtain ⟨d, e, f⟩ := y
  simp [eqT]
theorem heldT : Tryz.prog.stoodInHeld 37 = false := by kernel_rfl
theorem guardT : Tryz.prog.eqGuardType Tryz.prog.depth 37 = false := by kernel_rfl
theorem fieldsT : Tryz.prog.underlying 37 = some (.struct (Tryz.prog.fieldsOf 37)) := by unfold Program.fieldsOf; rw [Tryz.underlying37]
theorem eqT_run (x y : Stp) (w : World) : (Op.equalIn 10000 37 (.agg #[.int .i64 x.p, .int .i64 x.l, .int .i64 x.w]) (.agg #[.int .i64 y.p, .int .i64 y.l, .int .i64 y.w])).run Tryz.prog w = .ok (eqT x y) w := by
  rw [run_equalIn_agg w 9999 _ _ _ fieldsT heldT]
  unfold Program.fieldsOf
  rw [Tryz.underlying37]
  unfold eqT
  go_simp
  by_cases h2 : x.p = y.p <;> by_cases h3 : x.l = y.l <;> by_cases h4 : x.w = y.w <;> simp [h2, h3, h4]
theorem eqlT_run (x y : Stp) (q : Bool) (h : eqT x y = q) (w : World) : (binOp .eql 37 (.agg #[.int .i64 x.p, .int .i64 x.l, .int .i64 x.w]) (.agg #[.int .i64 y.p, .int .i64 y.l, .int .i64 y.w])).run Tryz.prog w = .ok (.bool q) w := by
  rw [run_eql_struct, eqT_run, h]; rfl
theorem guardT_run (op : BinOp) (a b : Operand) (xs ys : Array Value) (w : World) : (eqGuard op 37 a b (.agg xs) (.agg ys)).run Tryz.prog w = .ok () w := run_eqGuard_agg w op _ a b xs ys guardT
theorem stamp_cells {w : World} {ao : Option Addr} {n cap : Nat} {l : List Stp} (h : Lst 3 enS w (.slice ao n cap) l) {k : Nat} (hk : k < l.length) :
    ∃ b off, ao = some ⟨b, off, none⟩ ∧ b < w.heap.size ∧ w.cell? ⟨b, off + k * 3, none⟩ = some (.int .i64 l[k].p) ∧ w.cell? ⟨b, off + k * 3 + 1, none⟩ = some (.int .i64 l[k].l) ∧ w.cell? ⟨b, off + k * 3 + 2, none⟩ = some (.int .i64 l[k].w) := by
  obtain ⟨b, off, e, h1, h2⟩ := Lst.get h hk
  exact ⟨b, off, e, h1, h2 0 (by omega), h2 1 (by omega), h2 2 (by omega)⟩
def hasS (l : List Stp) (s : Stp) : Bool := l.any fun y => eqT y s

/-! ## Superseded -/
def supM (key : ByteArray) (s : Stp) (m : Mu) : Bool := (m.key.toList == key.toList) && hasS m.over s
def supF (c : Con) (key : ByteArray) (s : Stp) : Bool := c.sibs.any (supM key s)
/-- A question whose function looks at the superseded stamps too. -/
def AsksO (w₀ : World) (g : FuncId) (cb : Array Value) (p : Mu → Bool) : Prop :=
  ∀ (x : Ro) (w : World), RowKit.Below w₀.heap.size w₀ w → Over w x → x.1.over.length ≤ 1000000 → Calls Tryz.prog g (#[vM x] ++ cb) w fun e w' => e = .returned (.bool (p x.1)) ∧ RowKit.Below w.heap.size w w'
set_option maxHeartbeats 2000000 in
set_option maxRecDepth 100000 in
theorem indexO_any (v : Value) (R : List Ro) (g : FuncId) (cb : Array Value) (p : Mu → Bool) (w : World) (hv : MRow w v R) (hf : ∀ x ∈ R, x.1.over.length ≤ 1000000) (hn : R.length ≤ 1000000) (hp : AsksO w g cb p)
    (he : ∀ args w, (callFunc g args).run Tryz.prog w = .ok (.enter g args) w) :
    Calls Tryz.prog 29 #[v, .func (.func g) #[] cb] w fun e w' => e = .returned (.int .i64 (idxF p (R.map (·.1)) 0)) ∧ RowKit.Below w.heap.size w w' := by
  obtain ⟨ao, cap, rfl, -, -⟩ := hv.form
  obtain ⟨n, hnn⟩ : ∃ n, n = R.length := ⟨_, rfl⟩
  rw [← hnn] at hv hn ⊢
  obtain ⟨Q, hQ⟩ : ∃ Q, Q = idxF p (R.map (·.1)) 0 := ⟨_, rfl⟩
  rw [← hQ]
  have HV := Lib.hid hv
  have HF := Lib.hid hf
  have HP := Lib.hid hp
  have HN := Lib.hid hnn
  have HQ := Lib.hid hQ
  clear hv hf hp hnn hQ
  go_enter Tryz.func29, Tryz.ntmps29
  go_wp2_with fail
  go_loopw [8] (fun iv wr => ∃ k : Nat, k ≤ n ∧ iv = .int .i64 k ∧ Hid (idxF p ((R.drop k).map (·.1)) k = Q) ∧ RowKit.Below w.heap.size w wr) (fun iv _ => n - (intOf iv).toNat)
  case atStart => exact ⟨0, by omega, rfl, Lib.hid (by rw [HQ.out]; rfl), Below.refl _ _⟩
  case round =>
    obtain ⟨k, hk, rfl, hi, hb⟩ := hrel
    by_cases hlt : k < n
    · have hkl : k < R.length := by have := HN.out; omega
      obtain ⟨x, hx⟩ : ∃ x, R[k]? = some x := ⟨_, List.getElem?_eq_getElem hkl⟩
      have hxe : R[k] = x := (List.getElem?_eq_some_iff.1 hx).2
      have hmr := HV.out.below hb
      obtain ⟨xb, xoff, hao, hblt, hcell⟩ := Lst.get hmr.row hkl
      subst hao
      rw [hxe] at hcell
      obtain ⟨hlt0, a0, a1, a2, a3, a4, a5, a6, a7, a8, a9⟩ := At.of (x := x) hblt hcell
      have hcall := HP.out x wr hb (hmr.over x (List.mem_of_getElem? hx)) (HF.out x (List.mem_of_getElem? hx))
      have hi' : (if p x.1 then (k : Int) else idxF p ((R.drop (k + 1)).map (·.1)) (k + 1)) = Q := by rw [← hi.out, List.drop_eq_getElem_cons hkl, hxe]; rfl
      obtain ⟨q, hq⟩ : ∃ q, q = p x.1 := ⟨_, rfl⟩
      rw [← hq] at hcall hi'
      unfold vM at hcall
      have HC := Lib.hid hcall
      have HI := Lib.hid hi'
      clear hmr hcell hcall hi' hq hx hxe hi
      cases q
      · go_wp2_with fail
        refine HC.out.mono ?_
        rintro e w1 ⟨rfl, hb1⟩
        go_wp2_with fail
        go_roundw
        case rel => exact ⟨k + 1, by omega, by go_num, HI, hb.trans (hb1.mono hb.size)⟩
        case measure => simp [intOf]; omega
      · go_wp2_with fail
        refine HC.out.mono ?_
        rintro e w1 ⟨rfl, hb1⟩
        go_wp2_with fail
        go_ret
        exact ⟨ret_int HI.out, hb.trans (hb1.mono hb.size)⟩
    · obtain rfl : k = n := by omega
      have he : (-1 : Int) = Q := by rw [← hi.out, List.drop_of_length_le (by have := HN.out; omega)]; rfl
      have HE := Lib.hid he
      clear he
      go_wp2_with fail
      go_ret
      exact ⟨ret_int HE.out, hb⟩

theorem containsO_any (v : Value) (R : List Ro) (g : FuncId) (cb : Array Value) (p : Mu → Bool) (w : World) (hv : MRow w v R) (hf : ∀ x ∈ R, x.1.over.length ≤ 1000000) (hn : R.length ≤ 1000000) (hp : AsksO w g cb p)
    (he : ∀ args w, (callFunc g args).run Tryz.prog w = .ok (.enter g args) w) :
    Calls Tryz.prog 60 #[v, .func (.func g) #[] cb] w fun e w' => e = .returned (.bool ((R.map (·.1)).any p)) ∧ RowKit.Below w.heap.size w w' := by
  have h := indexO_any v R g cb p w hv hf hn hp he
  rw [← idxF_any]
  obtain ⟨Q, hQ⟩ : ∃ Q, Q = idxF p (R.map (·.1)) 0 := ⟨_, rfl⟩
  rw [← hQ] at h ⊢
  obtain ⟨ao, cap, rfl, -, -⟩ := hv.form
  generalize R.length = n at *
  have H := Lib.hid h
  clear h hv hf hn hp he hQ
  go_enter Tryz.func60, Tryz.ntmps60
  go_wp2_with fail
  refine H.out.mono ?_
  rintro e w1 ⟨rfl, hb1⟩
  go_wp2_with fail
  go_ret
  exact ⟨rfl, hb1⟩

end Go.Proofs.YtmjelcjdfamikaaGreatDoor.Mut

namespace Go.Proofs.YtmjelcjdfamikaaGreatDoor.Mut
open Go.RowKit Go.Sort Go.Proofs.YtmjelcjdfamikaaGreatDoor.Ord Go.Proofs.YtmjelcjdfamikaaGreatDoor.RegInv
set_option linter.unusedSectionVars false
variable [Inhabited Lim]

/-! ## A stamp's variable -/
structure S3 (w : World) (k : Nat) (s : Stp) : Prop where
  lt : k < w.heap.size
  c0 : w.cell? ⟨k, 0, none⟩ = some (.int .i64 s.p)
  c1 : w.cell? ⟨k, 1, none⟩ = some (.int .i64 s.l)
  c2 : w.cell? ⟨k, 2, none⟩ = some (.int .i64 s.w)
  f0 : w.frozen? ⟨k, 0, none⟩ = false
  f1 : w.frozen? ⟨k, 1, none⟩ = false
  f2 : w.frozen? ⟨k, 2, none⟩ = false
theorem S3.new (w : World) (s : Stp) : S3 (w.alloc (.cells #[.int .i64 s.p, .int .i64 s.l, .int .i64 s.w] 37)) w.heap.size s :=
  ⟨by simp, by go_simp, by go_simp, by go_simp, by go_simp, by go_simp, by go_simp⟩
theorem S3.below {w w' : World} {k : Nat} {s : Stp} (h : S3 w k s) (hb : RowKit.Below w.heap.size w w') : S3 w' k s := by
  have e : ∀ o, w'.cell? ⟨k, o, none⟩ = w.cell? ⟨k, o, none⟩ := fun o => hb.cell (p := ⟨k, o, none⟩) h.lt
  have f : ∀ o, w'.frozen? ⟨k, o, none⟩ = w.frozen? ⟨k, o, none⟩ := fun o => hb.frozen (p := ⟨k, o, none⟩) h.lt
  obtain ⟨h0, h1, h2, h3, h4, h5, h6⟩ := h
  exact ⟨Nat.lt_of_lt_of_le h0 hb.size, (e _).trans h1, (e _).trans h2, (e _).trans h3, (f _).trans h4, (f _).trans h5, (f _).trans h6⟩
theorem s3_put {w : World} {k : Nat} {s : Stp} (h : S3 w k s) (t : Stp) : S3 (((w.setCell ⟨k, 0, none⟩ (.int .i64 t.p)).setCell ⟨k, 1, none⟩ (.int .i64 t.l)).setCell ⟨k, 2, none⟩ (.int .i64 t.w)) k t := by
  obtain ⟨h0, h1, h2, h3, h4, h5, h6⟩ := h
  exact ⟨by simpa using h0, by go_simp, by go_simp, by go_simp, by go_simp, by go_simp, by go_simp⟩
theorem S3.other {w : World} {k j o : Nat} {s : Stp} {u : Value} (h : S3 w k s) (hj : j ≠ k) : S3 (w.setCell ⟨j, o, none⟩ u) k s := by
  have e : ∀ i, (w.setCell ⟨j, o, none⟩ u).cell? ⟨k, i, none⟩ = w.cell? ⟨k, i, none⟩ := fun i => World.cell?_of_block (a := ⟨k, i, none⟩) (heap_setCell_far w ⟨j, o, none⟩ u k hj)
  have f : ∀ i, (w.setCell ⟨j, o, none⟩ u).frozen? ⟨k, i, none⟩ = w.frozen? ⟨k, i, none⟩ := fun i => by
    unfold World.frozen?
    rw [heap_setCell_far w ⟨j, o, none⟩ u k hj]
  obtain ⟨h0, h1, h2, h3, h4, h5, h6⟩ := h
  exact ⟨by simpa using h0, (e _).trans h1, (e _).trans h2, (e _).trans h3, (f _).trans h4, (f _).trans h5, (f _).trans h6⟩
theorem s3_put_below {w0 w : World} {k n : Nat} (h : RowKit.Below n w0 w) (hk : n ≤ k) (a b d : Value) : RowKit.Below n w0 (((w.setCell ⟨k, 0, none⟩ a).setCell ⟨k, 1, none⟩ b).setCell ⟨k, 2, none⟩ d) :=
  ((h.setCell (p := ⟨k, 0, none⟩) hk _).setCell (p := ⟨k, 1, none⟩) hk _).setCell (p := ⟨k, 2, none⟩) hk _

def maxS (a b : Stp) : Stp := if stC a b < 0 then b else a
def zeroS : Stp := ⟨0, 0, 0⟩
/-- A known stamp comes back. -/
def RetS (s : Stp) (w : World) (e : Ending) (w' : World) : Prop := e = .returned (vS s) ∧ RowKit.Below w.heap.size w w'

set_option maxHeartbeats 2000000 in
set_option maxRecDepth 100000 in
theorem max_any (a b : Stp) (w : World) : Calls Tryz.prog 43 #[vS a, vS b] w (RetS (maxS a b) w) := by
  have HL := Lib.hid (fun W => stless_any a b W)
  obtain ⟨Q, hQ⟩ : ∃ Q, Q = decide (stC a b < 0) := ⟨_, rfl⟩
  rw [← hQ] at HL
  obtain ⟨M, hM⟩ : ∃ M, M = maxS a b := ⟨_, rfl⟩
  have HM := Lib.hid (show M = if Q = true then b else a by rw [hM, hQ]; unfold maxS; simp only [decide_eq_true_eq])
  rw [← hM]
  obtain ⟨W0, hW0⟩ : ∃ W0, W0 = ((w.alloc (.cells #[.int .i64 a.p, .int .i64 a.l, .int .i64 a.w] 37)).alloc (.cells #[.int .i64 b.p, .int .i64 b.l, .int .i64 b.w] 37)).alloc (.cells #[.int .i64 0, .int .i64 0, .int .i64 0] 37) := ⟨_, rfl⟩
  have hb0 : RowKit.Below w.heap.size w W0 := by rw [hW0]; exact (((Below.refl _ w).alloc (Nat.le_refl _) _).alloc (by simp) _).alloc (by simp; omega) _
  have hA : S3 W0 w.heap.size a := by
    rw [hW0]
    exact ((S3.new w a).below ((Below.refl _ _).alloc (Nat.le_refl _) _)).below ((Below.refl _ _).alloc (Nat.le_refl _) _)
  have hB : S3 W0 (w.heap.size + 1) b := by
    rw [hW0]
    have := S3.new (w.alloc (.cells #[.int .i64 a.p, .int .i64 a.l, .int .i64 a.w] 37)) b
    rw [World.size_alloc] at this
    exact this.below ((Below.refl _ _).alloc (Nat.le_refl _) _)
  have hT : S3 W0 (w.heap.size + 1 + 1) zeroS := by
    rw [hW0]
    have := S3.new ((w.alloc (.cells #[.int .i64 a.p, .int .i64 a.l, .int .i64 a.w] 37)).alloc (.cells #[.int .i64 b.p, .int .i64 b.l, .int .i64 b.w] 37)) zeroS
    rw [World.size_alloc, World.size_alloc] at this
    exact this
  have HA := Lib.hid hA
  have HB := Lib.hid hB
  have HT := Lib.hid hT
  have HB0 := Lib.hid hb0
  have HW := Lib.hid hW0
  clear hA hB hT hb0 hW0 hQ hM
  obtain ⟨ap, al, aw⟩ := a
  obtain ⟨bp, bl, bw⟩ := b
  unfold RetS
  unfold vS at HL ⊢
  simp only [] at HL ⊢
  go_enter Tryz.func43, Tryz.ntmps43
  go_upto_region 1 with fail
  rw [← HW.out]
  clear HW
  obtain ⟨-, a0, a1, a2, -⟩ := HA.out
  obtain ⟨-, b0, b1, b2, -⟩ := HB.out
  simp only [] at a0 a1 a2 b0 b1 b2
  go_wp2_with fail
  refine (HL.out _).mono ?_
  rintro e w1 ⟨rfl, hb⟩
  have HB1 := Lib.hid (show RowKit.Below W0.heap.size W0 w1 from hb.below)
  have HT1 := Lib.hid (HT.out.below hb.below)
  have HA1 := Lib.hid (HA.out.below hb.below)
  have HBb := Lib.hid (HB.out.below hb.below)
  clear hb a0 a1 a2 b0 b1 b2
  obtain ⟨-, a0, a1, a2, -⟩ := HA1.out
  obtain ⟨-, b0, b1, b2, -⟩ := HBb.out
  obtain ⟨-, t0, t1, t2, f0, f1, f2⟩ := HT1.out
  simp only [] at a0 a1 a2 b0 b1 b2 t0 t1 t2
  cases Q
  · go_wp2_with fail
    obtain ⟨-, u0, u1, u2, -⟩ := s3_put HT1.out ⟨ap, al, aw⟩
    simp only [] at u0 u1 u2
    refine bodyPost_ret (v := .agg #[.int .i64 ap, .int .i64 al, .int .i64 aw]) (by simp [results, Tryz.f43, go_sem, u0, u1, u2]) rfl ?_
    exact ⟨by rw [HM.out]; rfl, s3_put_below (below_then HB0.out (Nat.le_refl _) HB1.out) (by omega) _ _ _⟩
  · go_wp2_with fail
    obtain ⟨-, u0, u1, u2, -⟩ := s3_put HT1.out ⟨bp, bl, bw⟩
    simp only [] at u0 u1 u2
    refine bodyPost_ret (v := .agg #[.int .i64 bp, .int .i64 bl, .int .i64 bw]) (by simp [results, Tryz.f43, go_sem, u0, u1, u2]) rfl ?_
    exact ⟨by rw [HM.out]; rfl, s3_put_below (below_then HB0.out (Nat.le_refl _) HB1.out) (by omega) _ _ _⟩

/-! ## Rows of reports -/
structure Rp where
  a : Value
  b : Value
  d : Value
  c : Con
  f : Stp
  q : Bool
def enR (x : Rp) : List Value := [x.a, x.b, x.d, .int .i64 x.f.p, .int .i64 x.f.l, .int .i64 x.f.w, .bool x.q]
def vR (x : Rp) : Value := .agg #[x.a, x.b, x.d, .int .i64 x.f.p, .int .i64 x.f.l, .int .i64 x.f.w, .bool x.q]
theorem enR_len (x : Rp) : (enR x).length = 7 := rfl
structure RRow (w : World) (v : Value) (R : List Rp) : Prop where
  row : Lst 7 enR w v R
  con : ∀ x ∈ R, Lies w x.a x.b x.d x.c
theorem RRow.below {w w' : World} {v : Value} {R : List Rp} (h : RRow w v R) (hb : RowKit.Below w.heap.size w w') : RRow w' v R := ⟨Lst.below h.row hb, fun x hx => (h.con x hx).below hb⟩
theorem RRow.form {w : World} {v : Value} {R : List Rp} (h : RRow w v R) : ∃ ao cap, v = .slice ao R.length cap ∧ R.length ≤ cap ∧ cap ≤ maxLen := Lst.form h.row
theorem RRow.get {w : World} {ao : Option Addr} {n cap : Nat} {R : List Rp} (h : RRow w (.slice ao n cap) R) {k : Nat} (hk : k < R.length) :
    ∃ b off, ao = some ⟨b, off, none⟩ ∧ b < w.heap.size ∧ w.cell? ⟨b, off + k * 7, none⟩ = some R[k].a ∧ w.cell? ⟨b, off + k * 7 + 1, none⟩ = some R[k].b ∧ w.cell? ⟨b, off + k * 7 + 2, none⟩ = some R[k].d ∧
      w.cell? ⟨b, off + k * 7 + 3, none⟩ = some (.int .i64 R[k].f.p) ∧ w.cell? ⟨b, off + k * 7 + 4, none⟩ = some (.int .i64 R[k].f.l) ∧ w.cell? ⟨b, off + k * 7 + 5, none⟩ = some (.int .i64 R[k].f.w) ∧ w.cell? ⟨b, off + k * 7 + 6, none⟩ = some (.bool R[k].q) := by
  obtain ⟨b, off, e, h1, h2⟩ := Lst.get h.row hk
  exact ⟨b, off, e, h1, h2 0 (by omega), h2 1 (by omega), h2 2 (by omega), h2 3 (by omega), h2 4 (by omega), h2 5 (by omega), h2 6 (by omega)⟩
/-- The greatest floor of those that aren't in quarantine; is there one? -/
def baseStep (acc : Stp × Bool) (x : Rp) : Stp × Bool := if x.q then acc else (maxS acc.1 x.f, true)
def baseF (R : List Rp) : Stp × Bool := R.foldl baseStep (zeroS, false)
end Go.Proofs.YtmjelcjdfamikaaGreatDoor.Mut

namespace Go.Proofs.YtmjelcjdfamikaaGreatDoor.Eng
open Go.RowKit Go.Maps Go.Proofs.YtmjelcjdfamikaaGreatDoor.Dsk Go.Proofs.YtmjelcjdfamikaaGreatDoor.Trc Go.Proofs.YtmjelcjdfamikaaGreatDoor.Mut Go.Proofs.YtmjelcjdfamikaaGreatDoor.Rd Go.Proofs.YtmjelcjdfamikaaGreatDoor.RegInv Go.Proofs.YtmjelcjdfamikaaGreatDoor.Mrk
set_option linter.unusedSectionVars false
variable [Inhabited Lim]

theorem right_0 (w : World) : Calls Tryz.prog 120 #[.agg #[.int .i64 0, .int .i64 0, .int .i64 0]] w fun e w' => e = .returned (.bool true) ∧ Below w.heap.size w w' := by
  go_enter Tryz.func120, Tryz.ntmps120
  go_wp2_with fail
  go_ret
  exact ⟨rfl, (Below.refl _ _).alloc (Nat.le_refl _) _⟩
theorem right_5 (w : World) : Calls Tryz.prog 120 #[.agg #[.int .i64 5, .int .i64 0, .int .i64 0]] w fun e w' => e = .returned (.bool true) ∧ Below w.heap.size w w' := by
  have HR := Lib.hid (fun W => stright_any ⟨5, 0, 0⟩ W)
  go_enter Tryz.func120, Tryz.ntmps120
  go_wp2_with fail
  refine (HR.out _).mono ?_
  rintro e w1 ⟨rfl, hb0⟩
  have hb := hb0.below
  clear hb0
  rw [show stR ⟨5, 0, 0⟩ = true from by decide]
  have HB := Lib.hid (((Below.refl w.heap.size w).alloc (Nat.le_refl _) (.cells #[.int .i64 5, .int .i64 0, .int .i64 0] 37)).trans (hb.mono (by simp)))
  clear hb
  go_wp2_with fail
  go_ret
  exact ⟨rfl, HB.out⟩
/-- A version's variable. -/
structure VerC (w : World) (k : Nat) (p : Int) : Prop where
  lt : k < w.heap.size
  c0 : w.cell? ⟨k, 0, none⟩ = some (.int .i64 0)
  c1 : w.cell? ⟨k, 1, none⟩ = some (.int .i64 0)
  c2 : w.cell? ⟨k, 2, none⟩ = some (.slice none 0 0)
  c3 : w.cell? ⟨k, 3, none⟩ = some (.int .i64 0)
  c4 : w.cell? ⟨k, 4, none⟩ = some (.int .i64 0)
  c5 : w.cell? ⟨k, 5, none⟩ = some (.int .i64 0)
  c6 : w.cell? ⟨k, 6, none⟩ = some (.int .i64 p)
  c7 : w.cell? ⟨k, 7, none⟩ = some (.int .i64 0)
  c8 : w.cell? ⟨k, 8, none⟩ = some (.int .i64 0)
  c9 : w.cell? ⟨k, 9, none⟩ = some (.int .i64 0)
  c10 : w.cell? ⟨k, 10, none⟩ = some (.int .i64 0)
  c11 : w.cell? ⟨k, 11, none⟩ = some (.int .i64 0)
  c12 : w.cell? ⟨k, 12, none⟩ = some (.bool false)
theorem VerC.new (w : World) (p : Int) : VerC (w.alloc (.cells #[.int .i64 0, .int .i64 0, .slice none 0 0, .int .i64 0, .int .i64 0, .int .i64 0, .int .i64 p, .int .i64 0, .int .i64 0, .int .i64 0, .int .i64 0, .int .i64 0, .bool false] 95)) w.heap.size p := ⟨by simp, by go_simp, by go_simp, by go_simp, by go_simp, by go_simp, by go_simp, by go_simp, by go_simp, by go_simp, by go_simp, by go_simp, by go_simp, by go_simp⟩
theorem VerC.below {w w' : World} {k : Nat} {p : Int} (h : VerC w k p) (hb : Below w.heap.size w w') : VerC w' k p := by
  have e : ∀ o, w'.cell? ⟨k, o, none⟩ = w.cell? ⟨k, o, none⟩ := fun o => hb.cell (p := ⟨k, o, none⟩) h.lt
  obtain ⟨h0, c0, c1, c2, c3, c4, c5, c6, c7, c8, c9, c10, c11, c12⟩ := h
  exact ⟨Nat.lt_of_lt_of_le h0 hb.size, (e _).trans c0, (e _).trans c1, (e _).trans c2, (e _).trans c3, (e _).trans c4, (e _).trans c5, (e _).trans c6, (e _).trans c7, (e _).trans c8, (e _).trans c9, (e _).trans c10, (e _).trans c11, (e _).trans c12⟩
theorem ver_cells {w : World} {k : Nat} {p : Int} (h : VerC w k p) : VerC w k p := h
set_option maxRecDepth 100000 in
set_option maxHeartbeats 4000000 in
theorem verRight_5 (w : World) : Calls Tryz.prog 79 #[ver 5] w fun e w' => e = .returned (.bool true) ∧ Below w.heap.size w w' := by
  obtain ⟨W, hW⟩ : ∃ W, W = w.alloc (.cells #[.int .i64 0, .int .i64 0, .slice none 0 0, .int .i64 0, .int .i64 0, .int .i64 0, .int .i64 5, .int .i64 0, .int .i64 0, .int .i64 0, .int .i64 0, .int .i64 0, .bool false] 95) := ⟨_, rfl⟩
  have HV := Lib.hid (show VerC W w.heap.size 5 from by rw [hW]; exact VerC.new w 5)
  have HB := Lib.hid (show Below w.heap.size w W from by rw [hW]; exact (Below.refl _ _).alloc (Nat.le_refl _) _)
  go_enter Tryz.func79, Tryz.ntmps79
  go_upto_region 1 with fail
  rw [← hW]
  obtain ⟨-, c0, c1, c2, c3, c4, c5, c6, c7, c8, c9, c10, c11, c12⟩ := HV.out
  clear hW
  go_wp2_with fail
  go_loopw [31] (fun iv wr => iv = .int .i64 0 ∧ wr = W) (fun _ _ => 0)
  case atStart => exact ⟨rfl, rfl⟩
  case round =>
    obtain ⟨rfl, h⟩ := hrel
    obtain ⟨wq, hw⟩ : ∃ W, W = wr := ⟨_, rfl⟩
    subst hw
    subst h
    have HR0 := Lib.hid (right_0 wq)
    go_wp2_with fail
    refine HR0.out.mono ?_
    rintro e w1 ⟨rfl, hb1⟩
    have HB1 := Lib.hid (below_then HB.out (Nat.le_refl _) hb1)
    have HV1 := Lib.hid (HV.out.below hb1)
    clear hb1 c0 c1 c2 c3 c4 c5 c6 c7 c8 c9 c10 c11 c12
    obtain ⟨-, c0, c1, c2, c3, c4, c5, c6, c7, c8, c9, c10, c11, c12⟩ := HV1.out
    have HR5 := Lib.hid (right_5 w1)
    go_wp2_with fail
    refine HR5.out.mono ?_
    rintro e w2 ⟨rfl, hb2⟩
    have HB2 := Lib.hid (below_then HB1.out (Nat.le_refl _) hb2)
    have HV2 := Lib.hid (HV1.out.below hb2)
    clear hb2 c0 c1 c2 c3 c4 c5 c6 c7 c8 c9 c10 c11 c12
    obtain ⟨-, c0, c1, c2, c3, c4, c5, c6, c7, c8, c9, c10, c11, c12⟩ := HV2.out
    have HR6 := Lib.hid (right_0 w2)
    go_wp2_with fail
    refine HR6.out.mono ?_
    rintro e w3 ⟨rfl, hb3⟩
    have HB3 := Lib.hid (below_then HB2.out (Nat.le_refl _) hb3)
    clear hb3 c0 c1 c2 c3 c4 c5 c6 c7 c8 c9 c10 c11 c12
    go_wp2_with fail
    go_ret
    exact ⟨rfl, HB3.out⟩
theorem conv_own {W : World} {base : Nat} {v : Value} {L : List Nat} (h : OwnB W base v L) (hl : L ≠ []) : ∃ ad c, v = .slice (some ad) L.length c ∧ ∀ j c', L[j]? = some c' → W.cell? (ad.add j) = some (.int .u8 (c' : Nat)) := by
  rcases h.2 with ⟨_, h0⟩ | ⟨g, cap, cur, rfl, _⟩
  · exact absurd (List.eq_nil_of_length_eq_zero h0) hl
  · refine ⟨_, _, rfl, fun j c' hj => ?_⟩
    exact World.ownsRow.cells h (g := g) rfl j _ (by rw [flat_enB, List.getElem?_map, hj]; rfl)
set_option maxRecDepth 100000 in
set_option maxHeartbeats 4000000 in
theorem same_50 (w : World) : Calls Tryz.prog 80 #[ver 5, ver 0] w fun e w' => e = .returned (.bool false) ∧ Below w.heap.size w w' := by
  obtain ⟨S5, hS5⟩ : ∃ S, S = Rd.strOf (verL 5 0 0) := ⟨_, rfl⟩
  obtain ⟨S0, hS0⟩ : ∃ S, S = Rd.strOf (verL 0 0 0) := ⟨_, rfl⟩
  have hne : (S5.toList == S0.toList) = false := by rw [hS5, hS0]; decide +kernel
  have HS5 := Lib.hid hS5
  have HS0 := Lib.hid hS0
  clear hS5 hS0
  obtain ⟨a1, ha1⟩ : ∃ W, W = w.alloc (.cells #[.int .i64 0, .int .i64 0, .slice none 0 0, .int .i64 0, .int .i64 0, .int .i64 0, .int .i64 5, .int .i64 0, .int .i64 0, .int .i64 0, .int .i64 0, .int .i64 0, .bool false] 95) := ⟨_, rfl⟩
  obtain ⟨W0, hW0⟩ : ∃ W, W = a1.alloc (.cells #[.int .i64 0, .int .i64 0, .slice none 0 0, .int .i64 0, .int .i64 0, .int .i64 0, .int .i64 0, .int .i64 0, .int .i64 0, .int .i64 0, .int .i64 0, .int .i64 0, .bool false] 95) := ⟨_, rfl⟩
  have z1 : a1.heap.size = w.heap.size + 1 := by rw [ha1]; simp
  obtain ⟨k5, hk5⟩ : ∃ k, k = w.heap.size := ⟨_, rfl⟩
  obtain ⟨k0, hk0⟩ : ∃ k, k = w.heap.size + 1 := ⟨_, rfl⟩
  have HK5 := Lib.hid (show VerC W0 k5 5 from by rw [hW0, hk5]; exact (show VerC a1 w.heap.size 5 from by rw [ha1]; exact VerC.new w 5).below ((Below.refl _ _).alloc (Nat.le_refl _) _))
  have HK0 := Lib.hid (show VerC W0 k0 0 from by rw [hW0, hk0, ← z1]; exact VerC.new a1 0)
  have HBW := Lib.hid (show Below w.heap.size w W0 from by rw [hW0, ha1]; exact ((Below.refl _ _).alloc (Nat.le_refl _) _).alloc (by simp) _)
  obtain ⟨b0, hb0⟩ : ∃ b, b = W0.heap.size := ⟨_, rfl⟩
  have HB0 := Lib.hid hb0
  go_enter Tryz.func80, Tryz.ntmps80
  go_upto_region 1 with fail
  rw [← ha1, ← hW0, ← hk0, ← hk5]
  clear ha1 hW0 z1 hk5 hk0 hb0
  refine wp_region_told [] 6 [false, false, false, false, false, true, true, true, true, true, true, false]
    [sLit (.agg #[.int .i64 0, .int .i64 0, .slice none 0 0, .int .i64 0, .int .i64 0, .int .i64 0, .int .i64 5, .int .i64 0, .int .i64 0, .int .i64 0, .int .i64 0, .int .i64 0, .bool false]),
    sOne (fun v W => OwnB W b0 v (verL 5 0 0)) (fun _ _ _ h hb => row_below h hb),
    sLit (.string S5),
    sLit (.agg #[.int .i64 0, .int .i64 0, .slice none 0 0, .int .i64 0, .int .i64 0, .int .i64 0, .int .i64 0, .int .i64 0, .int .i64 0, .int .i64 0, .int .i64 0, .int .i64 0, .bool false]),
    sOne (fun v W => OwnB W b0 v (verL 0 0 0)) (fun _ _ _ h hb => row_below h hb),
    sLit (.string S0)] (by kernel_rfl) (by kernel_rfl) (by kernel_rfl) (fun F hF => ?_)
  simp only [over, overL, Nat.reduceAdd] at hF
  obtain rfl := funext hF
  clear hF
  refine ⟨⟨?_, ?_, ?_, ?_, ?_, ?_, trivial⟩, ?_⟩
  · intro V W hb hd K hK _
    clear hd
    obtain ⟨-, g0, g1, g2, g3, g4, g5, g6, g7, g8, g9, g10, g11, g12⟩ := ver_cells (HK5.out.below hb)
    go_wp2_with fail
    refine hK _ _ ?_ ?_ ?_ ?_
    · rfl
    · exact Below.refl _ _
    · exact rfl
    · trivial
  · intro V W hb hd K hK _
    have h0 : (V 5) = .agg #[.int .i64 0, .int .i64 0, .slice none 0 0, .int .i64 0, .int .i64 0, .int .i64 0, .int .i64 5, .int .i64 0, .int .i64 0, .int .i64 0, .int .i64 0, .int .i64 0, .bool false] := hd 0 (by kernel_rfl)
    clear hd
    go_wp2_with fail
    refine (verPut_any 5 0 0 W (by decide) (by decide) (by decide)).mono ?_
    rintro e w1 ⟨v1, rfl, ho1, hb1⟩
    obtain ⟨vo, vc, rfl⟩ := ho1.form
    have HO1 := Lib.hid ho1
    clear ho1
    go_wp2_with fail
    refine hK _ _ ?_ ?_ ?_ ?_
    · rfl
    · exact hb1
    · exact own_base HO1.out (Nat.le_trans (by rw [HB0.out]; exact Nat.le_refl _) hb.size)
    · trivial
  · intro V W hb hd K hK _
    have h1 : OwnB W b0 (V 6) (verL 5 0 0) := hd 1 (by kernel_rfl)
    clear hd
    obtain ⟨ad, c, e1, hrd⟩ := conv_own h1 (by decide +kernel)
    have hcv := conv_bytes W ad (verL 5 0 0) _ c rfl hrd
    go_wp2_with (rw [e1])
    refine hK _ _ ?_ ?_ ?_ ?_
    · rfl
    · exact Below.refl _ _
    · show _ = Value.string S5
      rw [HS5.out]
      rfl
    · trivial
  · intro V W hb hd K hK _
    clear hd
    obtain ⟨-, g0, g1, g2, g3, g4, g5, g6, g7, g8, g9, g10, g11, g12⟩ := ver_cells (HK0.out.below hb)
    go_wp2_with fail
    refine hK _ _ ?_ ?_ ?_ ?_
    · rfl
    · exact Below.refl _ _
    · exact rfl
    · trivial
  · intro V W hb hd K hK _
    have h3 : (V 8) = .agg #[.int .i64 0, .int .i64 0, .slice none 0 0, .int .i64 0, .int .i64 0, .int .i64 0, .int .i64 0, .int .i64 0, .int .i64 0, .int .i64 0, .int .i64 0, .int .i64 0, .bool false] := hd 3 (by kernel_rfl)
    clear hd
    go_wp2_with fail
    refine (verPut_any 0 0 0 W (by decide) (by decide) (by decide)).mono ?_
    rintro e w1 ⟨v1, rfl, ho1, hb1⟩
    obtain ⟨vo, vc, rfl⟩ := ho1.form
    have HO1 := Lib.hid ho1
    clear ho1
    go_wp2_with fail
    refine hK _ _ ?_ ?_ ?_ ?_
    · rfl
    · exact hb1
    · exact own_base HO1.out (Nat.le_trans (by rw [HB0.out]; exact Nat.le_refl _) hb.size)
    · trivial
  · intro V W hb hd K hK _
    have h4 : OwnB W b0 (V 9) (verL 0 0 0) := hd 4 (by kernel_rfl)
    clear hd
    obtain ⟨ad, c, e4, hrd⟩ := conv_own h4 (by decide +kernel)
    have hcv := conv_bytes W ad (verL 0 0 0) _ c rfl hrd
    go_wp2_with (rw [e4])
    refine hK _ _ ?_ ?_ ?_ ?_
    · rfl
    · exact Below.refl _ _
    · show _ = Value.string S0
      rw [HS0.out]
      rfl
    · trivial
  · intro V W hb hd hap
    have h2 : (V 7) = .string S5 := hd 2 (by decide)
    have h5 : (V 10) = .string S0 := hd 5 (by decide)
    clear hd hap
    simp only [List.drop_succ_cons, List.drop_zero]
    have HBZ := Lib.hid (below_then HBW.out (Nat.le_refl _) hb)
    rw [h2, h5]
    clear hb h2 h5
    go_wp2_with fail
    go_ret
    exact ⟨rfl, HBZ.out⟩
end Go.Proofs.YtmjelcjdfamikaaGreatDoor.Eng

namespace Go.Proofs.YtmjelcjdfamikaaGreatDoor.Dsk
open Go.RowKit Go.Maps Go.Sort Go.Proofs.YtmjelcjdfamikaaGreatDoor.Mrk Go.Proofs.YtmjelcjdfamikaaGreatDoor.Spare

/-- Blocks that were there are as they were, but for two. -/
structure Save (a b : Nat) (w w' : World) : Prop where
  os : w'.os = w.os
  tape : w'.tape = w.tape
  output : w'.output = w.output
  size : w.heap.size ≤ w'.heap.size
  block : ∀ k, k < w.heap.size → k ≠ a → k ≠ b → w'.heap[k]? = w.heap[k]?
theorem Save.below {a b : Nat} {w w' : World} (h : Below w.heap.size w w') : Save a b w w' := ⟨h.os, h.tape, h.output, h.size, fun k hk _ _ => h.block k hk⟩
theorem Save.grown {a b : Nat} {w w' : World} {r : Option Nat} (h : w.grownBy w' r) (hr : ∀ k, r = some k → k = a ∨ k = b ∨ w.heap.size ≤ k) : Save a b w w' := ⟨h.os, h.tape, h.output, h.size, fun k hk ha hb => h.block k hk (fun e => by
  rcases hr k e.symm with h | h | h
  · exact ha h
  · exact hb h
  · omega)⟩
theorem Save.trans {a b : Nat} {w w' w'' : World} (h : Save a b w w') (g : Save a b w' w'') : Save a b w w'' := ⟨g.os.trans h.os, g.tape.trans h.tape, g.output.trans h.output, Nat.le_trans h.size g.size, fun k hk ha hb => (g.block k (Nat.lt_of_lt_of_le hk h.size) ha hb).trans (h.block k hk ha hb)⟩
/-- Two works, of which the second wrote to a block that the first had made. -/
theorem Save.then {a b F : Nat} {w w' w'' : World} (h : Save a b w w') (g : Save a F w' w'') (hF : w.heap.size ≤ F) : Save a b w w'' := ⟨g.os.trans h.os, g.tape.trans h.tape, g.output.trans h.output, Nat.le_trans h.size g.size, fun k hk ha hb => (g.block k (Nat.lt_of_lt_of_le hk h.size) ha (by omega)).trans (h.block k hk ha hb)⟩
theorem Save.under {a b B : Nat} {w0 w w' : World} (h0 : Below B w0 w) (h : Save a b w w') (ha : B ≤ a) (hb : B ≤ b) (hB : B ≤ w.heap.size) : Below B w0 w' := ⟨h.os.trans h0.os, h.tape.trans h0.tape, h.output.trans h0.output, Nat.le_trans h0.size h.size, fun k hk => (h.block k (by omega) (by omega) (by omega)).trans (h0.block k hk)⟩

set_option maxRecDepth 100000 in
set_option maxHeartbeats 1000000 in
theorem of_on (d m F : Nat) (room : Int) (s : St) (nm : ByteArray) (bv : Value) (l : List Nat) (k : Nat) (w : World) (h : One w d m F room s nm bv l k) (hs : Few s) (hnm : nm.size ≤ maxLen) (hoff : s.off = false) :
    Calls Tryz.prog 176 #[.pointer (some ⟨d, 0, none⟩), .string nm] w fun e w' => e = .returned (.tuple #[.pointer (some ⟨F, 0, none⟩), .int .i64 (goesS s).1]) ∧ One w' d m F room (goesS s).2 nm bv l k ∧ w.grownBy w' (some d) := by
  have HGO := Lib.hid (goes_any d m room s w h.dk hs.1 hs.2)
  have HO := Lib.hid h
  have hdk := h.dk
  unfold DkAt at hdk
  have c0 : w.cell? ⟨d, 0, none⟩ = some (.map (some m)) := by rw [cell_of_row w d 0 _ _ (0, 0) hdk]; rfl
  have c2 : w.cell? ⟨d, 2, none⟩ = some (.bool false) := by rw [cell_of_row w d 2 _ _ (0, 0) hdk, ← hoff]; rfl
  have HM := Lib.hid (show m ≤ d ∧ m ≤ w.heap.size from ⟨by have := h.md; omega, by have := h.files.lt; omega⟩)
  clear h hdk hs
  clear hoff
  go_enter Tryz.func176, Tryz.ntmps176
  go_wp2_with (first
    | (at_lookup; refine wpList_lookup_own_ok _ rfl _ _ 90 rfl 9 198 law Tryz.underlying90 ptrR (Tryz.zeroValue198 _) .nil [] rfl m _ _ rfl HO.out.files _ _ rfl (key hnm) ?_; intro v ps hv; rw [at_one] at hv; have hvp := ptrR_some hv; subst hvp; rw [has_one]; clear hv))
  refine HGO.out.mono ?_
  rintro e w1 ⟨rfl, hd1, hg1⟩
  have HE := Lib.hid (And.intro (HO.out.state hd1 hg1) hg1)
  clear hd1 hg1
  go_wp2_with fail
  go_ret2
  exact ⟨rfl, HE.out.1, HE.out.2⟩

set_option maxRecDepth 100000 in
set_option maxHeartbeats 1000000 in
theorem sync_on (d m F : Nat) (room : Int) (s : St) (nm : ByteArray) (bv : Value) (l : List Nat) (k : Nat) (w : World) (h : One w d m F room s nm bv l k) (hs : Few s) (hnm : nm.size ≤ maxLen) (hoff : s.off = false) (hg0 : (goesS s).1 = 0) :
    Calls Tryz.prog 134 #[.pointer (some ⟨d, 0, none⟩), .string nm] w fun e w' => e = .returned (.int .i64 0) ∧ One w' d m F room (goesS s).2 nm bv l l.length ∧ Save d F w w' := by
  have HOF := Lib.hid (of_on d m F room s nm bv l k w h hs hnm hoff)
  have HG := Lib.hid hg0
  obtain ⟨bo, bc, rfl⟩ := row_form (Spare.own h.row)
  clear h hs hg0 hoff
  go_enter Tryz.func134, Tryz.ntmps134
  go_wp2_with fail
  refine HOF.out.mono ?_
  rintro e w1 ⟨rfl, ho, hg⟩
  rw [HG.out]
  have HE := Lib.hid (And.intro ho hg)
  have hF := ho.file
  unfold FAt at hF
  have q0 : w1.cell? ⟨F, 0, none⟩ = some (.slice bo l.length bc) := by rw [cell_of_row w1 F 0 _ _ (0, 0) hF]; rfl
  have f1 := frozen_of_row w1 F 1 _ _ hF
  have q1 : w1.cell? ⟨F, 1, none⟩ = some (.int .i64 k) := by rw [cell_of_row w1 F 1 _ _ (0, 0) hF]; rfl
  clear ho hg hF
  go_wp2_with fail
  go_ret
  exact ⟨rfl, HE.out.1.sync l.length, (Save.grown HE.out.2 (fun k e => by injection e with e; exact Or.inl e.symm)).trans (Save.grown (grown_setCell (World.grownBy.refl _ _) (Or.inl rfl) _) (fun k e => by injection e with e; exact Or.inr (Or.inl e.symm)))⟩

set_option maxRecDepth 100000 in
set_option maxHeartbeats 2000000 in
theorem append_on (d m : Nat) (room : Int) (s : St) (nm : ByteArray) (vb : Value) (B : List Nat) (w : World) (hd0 : DkAt w d m room s) (hf0 : Files w m none) (hmd : m < d) (hoff : s.off = false) (hs : Few s) (hnm : nm.size ≤ maxLen)
    (hk : Calls Tryz.prog 53 #[.string nm] w fun e w' => e = .returned (.bool true) ∧ Below w.heap.size w w') (hb : BRow w vb B) (hroom : (B.length : Int) ≤ room) (hr : room ≤ 1073741824) (hB : B.length ≤ 100000) (hg0 : (goesS s).1 = 0) :
    Calls Tryz.prog 133 #[.pointer (some ⟨d, 0, none⟩), .string nm, vb] w fun e w' => ∃ F bv', e = .returned (.int .i64 0) ∧ One w' d m F room (goesS s).2 nm bv' B 0 ∧ Save d m w w' ∧ w.heap.size ≤ F := by
  obtain ⟨ao, ac, rfl, -, -⟩ := Lst.form hb
  obtain ⟨i0, hi, hz0, hz1, hz2⟩ := info_parts_B
  have HI := Lib.hid (And.intro hi (And.intro hz0 (And.intro hz1 hz2)))
  have HB := Lib.hid hb
  have HD := Lib.hid hd0
  have HF := Lib.hid hf0
  have HK := Lib.hid hk
  have HS := Lib.hid hs
  have HMD := Lib.hid hmd
  have hdk := hd0
  unfold DkAt at hdk
  have c0 : w.cell? ⟨d, 0, none⟩ = some (.map (some m)) := by rw [cell_of_row w d 0 _ _ (0, 0) hdk]; rfl
  have c2 : w.cell? ⟨d, 2, none⟩ = some (.bool false) := by rw [cell_of_row w d 2 _ _ (0, 0) hdk, ← hoff]; rfl
  obtain ⟨nb, hnb⟩ : ∃ n, n = B.length := ⟨_, rfl⟩
  rw [← hnb] at hroom
  rw [← hnb] at HB ⊢
  have HN := Lib.hid hnb
  have HG0 := Lib.hid hg0
  rw [← hnb] at hB
  have hdlt := hd0.lt
  clear hd0 hf0 hb hk hs hdk hnb hg0 hi hz0 hz1 hz2 hoff hmd
  go_enter Tryz.func133, Tryz.ntmps133
  go_wp2_with (first
    | (at_lookup; refine wpList_lookup_own_ok _ rfl _ _ 90 rfl 9 198 law Tryz.underlying90 ptrR (Tryz.zeroValue198 _) .nil [] rfl m _ _ rfl HF.out _ _ rfl (key hnm) ?_; intro v ps hv; have hvp := ptrR_nil (ps := ps) hv; subst hvp; rw [show Maps.has (.map (entr none)) (.string nm.data.toList) = false from rfl]; clear hv))
  refine HK.out.mono ?_
  rintro e w1 ⟨rfl, hb1⟩
  have hg1 : w.grownBy w1 none := ⟨hb1.os, hb1.tape, hb1.output, hb1.size, fun i hi _ => hb1.block i hi⟩
  have HD1 := Lib.hid (show DkAt w1 d m room s from (hb1.block d hdlt).trans HD.out)
  have HF1 := Lib.hid (HF.out.kept hg1 (by simp))
  have HB1 := Lib.hid hb1
  have HBR := Lib.hid (HB.out.below hb1)
  have gx : ∀ (x : BW w1), w1.grownBy x.at none := fun x => ⟨x.below.os, x.below.tape, x.below.output, x.below.size, fun i hi _ => x.below.block i hi⟩
  have hU := fun (x : BW w1) => used_any d m room s none 0 x.at ((x.below.block d HD1.out.lt).trans HD1.out) (HF1.out.kept (gx x) (by simp)) (fun nm' F' e => by cases e) (fun _ => rfl) (by omega)
  have HU := Lib.hid hU
  have hlen : ∀ (x : BW w1) (ty : TypeId), (Builtin.len_ #[90] ty #[.map (some m)]).run Tryz.prog x.at = .ok (.int .i64 0) x.at := fun x ty => World.ownsMap.len (HF1.out.kept (gx x) (by simp)) Tryz.underlying90 ty
  have hdk := HD1.out
  unfold DkAt at hdk
  have a0 : w1.cell? ⟨d, 0, none⟩ = some (.map (some m)) := by rw [cell_of_row w1 d 0 _ _ (0, 0) hdk]; rfl
  have a1 : w1.cell? ⟨d, 1, none⟩ = some (.int .i64 room) := by rw [cell_of_row w1 d 1 _ _ (0, 0) hdk]; rfl
  have hdl : d < w1.heap.size := HD1.out.lt
  clear c0 c2 hb1 hU hdk hg1 gx hdlt
  go_wp2_with fail
  refine wp_region_calm (by kernel_rfl) (by kernel_rfl) ?_
  repeat (go_big_quiet_step ((go_at_call 184; exact calm (HU.out _))))
  refine wpQuiet_nil ?_
  rintro _ ⟨y, rfl⟩
  obtain ⟨W1, hW1⟩ : ∃ W1, W1 = y.at := ⟨_, rfl⟩
  have hz := y.below
  rw [← hW1] at hz ⊢
  have hgz : w1.grownBy W1 none := ⟨hz.os, hz.tape, hz.output, hz.size, fun i hi _ => hz.block i hi⟩
  have HDW := Lib.hid (show DkAt W1 d m room s from (hz.block d HD1.out.lt).trans HD1.out)
  have HFW := Lib.hid (HF1.out.kept hgz (by simp))
  have HB2 := Lib.hid (below_then HB1.out (Nat.le_refl _) hz)
  have HBR2 := Lib.hid (HBR.out.below hz)
  have hdW : d < W1.heap.size := HDW.out.lt
  have hdk := HDW.out
  unfold DkAt at hdk
  have b0 : W1.cell? ⟨d, 0, none⟩ = some (.map (some m)) := by rw [cell_of_row W1 d 0 _ _ (0, 0) hdk]; rfl
  have n0 : ∀ o : Obj, (W1.alloc o).cell? ⟨d, 0, none⟩ = some (.map (some m)) := fun o => (((Below.refl W1.heap.size W1).alloc (Nat.le_refl _) o).cell (p := ⟨d, 0, none⟩) hdW).trans b0
  have HFA := Lib.hid (fun o : Obj => show (W1.alloc o).ownsMap Tryz.prog 9 ptrR m 0 (.map []) from HFW.out.kept (row := none) (World.grownBy_alloc _ _ none) (by simp))
  clear hW1 y hz hgz a0 a1 hdl hlen hdk b0
  go_upto_region 11 with (at_mapUpdate; refine wpList_mapUpdate_own _ rfl _ _ _ 90 rfl 9 198 law Tryz.underlying90 ptrR m 0 (.map []) rfl (HFA.out _) (by unfold maxLen; omega) _ _ (.string nm.data.toList) rfl rfl (key hnm) (.lit (.int .u64 W1.heap.size)) [] rfl ?_; intro w5 hf5 hg5)
  obtain ⟨F, hF⟩ : ∃ F, F = W1.heap.size := ⟨_, rfl⟩
  rw [← hF] at hf5 ⊢
  have hmd := HMD.out
  have HO5 := Lib.hid (show One w5 d m F room s nm (.slice none 0 0) [] 0 from ⟨(hg5.block d (by simp; omega) (fun e => by injection e with e; omega)).trans ((Below.heap_alloc W1 _ d hdW).trans HDW.out), hf5, (hg5.block F (by rw [hF]; simp) (fun e => by injection e with e; omega)).trans (by rw [hF]; exact heap_alloc_new W1 _), Spare.nil _ _ _ _, hmd, by omega⟩)
  have HG5 := Lib.hid hg5
  have hs5 : F + 1 ≤ w5.heap.size := by have := hg5.size; simp at this; omega
  have HBR5 := Lib.hid (row_kept (HBR2.out.below ((Below.refl W1.heap.size W1).alloc (Nat.le_refl _) (.cells #[.slice none 0 0, .int .i64 0] 202))) hg5 (by obtain ⟨es, clock, hh, _⟩ := (HFA.out (.cells #[.slice none 0 0, .int .i64 0] 202)); exact ⟨es, clock, hh⟩))
  have HSRC := Lib.hid (Mut.lst_src enB_len (by decide) HBR5.out)
  have hfl := HO5.out.file
  unfold FAt at hfl
  have q0 : w5.cell? ⟨F, 0, none⟩ = some (.slice none 0 0) := by rw [cell_of_row w5 F 0 _ _ (0, 0) hfl]; rfl
  have HFL := Lib.hid hfl
  have HSP := Lib.hid (show Spare w5 (F + 1) 5 [.int .u8 0] (.slice none 0 0) 0 [] from Spare.nil _ _ _ _)
  have HFE := Lib.hid hF
  clear hf5 hg5 hfl n0 hF
  go_wp2_with (at_builtin; refine wpList_append_spareAny rfl _ _ 110 rfl (F + 1) 5 i0 (.int .u8 0) [.int .u8 0] 1 Tryz.underlying110 HI.out.1 HI.out.2.1 rfl HI.out.2.2.1 HI.out.2.2.2 (by decide) (.slice none 0 0) 0 [] rfl HSP.out ao nb ac (B.flatMap enB) rfl ?qc1 ?qc2 ?qc3 ?qc4 ?qc5 ?qc6 ?_)
  case qc1 => rw [flat_enB, List.length_map, ← HN.out]; exact (Nat.mul_one _).symm
  case qc2 => exact HSRC.out
  case qc3 => exact bytes_one B
  case qc4 => unfold maxLen; omega
  case qc5 => omega
  case qc6 => omega
  intro v' w3 hs3 hg3 _ _
  obtain ⟨vo, vc, rfl⟩ := row_form (Spare.own hs3)
  have HG3 := Lib.hid hg3
  have hF3 : w3.heap[F]? = some (.cells #[.slice none 0 0, .int .i64 0] 202 (0, 0)) := (hg3.block F (by omega) (fun e => by simp [Value.ownBlock] at e)).trans HFL.out
  have q3 : w3.cell? ⟨F, 0, none⟩ = some (.slice none 0 0) := by rw [cell_of_row w3 F 0 _ _ (0, 0) hF3]; rfl
  have f3 := frozen_of_row w3 F 0 _ _ hF3
  have HO4 := Lib.hid (HO5.out.more (w3 := w3) (v' := .slice vo (0 + nb) vc) (l' := B) (by unfold SpB; rw [← HN.out]; simpa using hs3) hg3)
  have HGO := Lib.hid (goes_any d m room s _ HO4.out.dk HS.out.1 HS.out.2)
  clear hs3 hg3 hF3 q0
  go_wp2_with fail
  have HGO2 := HGO
  simp only [Nat.zero_add] at HGO2
  refine HGO2.out.mono ?_
  rintro e w6 ⟨rfl, hd6, hg6⟩
  have HE := Lib.hid (And.intro hd6 hg6)
  clear hd6 hg6 HGO HGO2
  go_wp2_with fail
  go_ret
  have hml := HF.out.lt
  have hs1 := HB2.out.size
  have hs3 := HG3.out.size
  have hfe := HFE.out
  have HO4' := HO4.out
  simp only [Nat.zero_add] at HO4'
  refine ⟨F, _, congrArg (fun x => Ending.returned (.int .i64 x)) HG0.out, HO4'.state HE.out.1 HE.out.2, ?_, by omega⟩
  have b1 : Save d m w W1 := Save.below HB2.out
  have b2 : Save d m W1 (W1.alloc (.cells #[.slice none 0 0, .int .i64 0] 202)) := Save.below ((Below.refl _ _).alloc (Nat.le_refl _) _)
  have b3 := Save.grown (a := d) (b := m) HG5.out (fun j e => by injection e with e; exact Or.inr (Or.inl e.symm))
  have b4 : Save d m w5 w3 := Save.grown HG3.out (fun j hj => by simp [Value.ownBlock] at hj)
  have b5 : Save d F w3 (w3.setCell ⟨F, 0, none⟩ (.slice vo nb vc)) := Save.grown (grown_setCell (World.grownBy.refl _ _) (Or.inl rfl) _) (fun j e => by injection e with e; exact Or.inr (Or.inl e.symm))
  have b6 : Save d F (w3.setCell ⟨F, 0, none⟩ (.slice vo nb vc)) w6 := Save.grown HE.out.2 (fun j e => by injection e with e; exact Or.inl e.symm)
  exact (((b1.trans b2).trans b3).trans b4).then (b5.trans b6) (by omega)
end Go.Proofs.YtmjelcjdfamikaaGreatDoor.Dsk

namespace Go.Proofs.YtmjelcjdfamikaaGreatDoor.Eng
open Go.RowKit Go.Maps Go.Proofs.YtmjelcjdfamikaaGreatDoor.Dsk Go.Proofs.YtmjelcjdfamikaaGreatDoor.Trc Go.Proofs.YtmjelcjdfamikaaGreatDoor.Mut Go.Proofs.YtmjelcjdfamikaaGreatDoor.Rd Go.Proofs.YtmjelcjdfamikaaGreatDoor.RegInv Go.Proofs.YtmjelcjdfamikaaGreatDoor.Mrk
set_option linter.unusedSectionVars false
variable [Inhabited Lim]

set_option maxHeartbeats 1000000 in
theorem frmPut_any (base : Nat) (v : Value) (L : List Nat) (w : World) (h : OwnB w base v L) (h0 : L ≠ []) (hl : L.length ≤ 100000) : Calls Tryz.prog 90 #[.slice none 0 0, v] w (ByP (putF L.length ++ L) w) := by
  obtain ⟨ad, c, rfl, -⟩ := conv_own h h0
  obtain ⟨n, hn⟩ : ∃ n, n = L.length := ⟨_, rfl⟩
  have HP := Lib.hid (put_onto n w.heap.size (.slice none 0 0) [] w (by omega) (World.ownsRow_nil _ _ _ _) (Nat.le_refl _) (by simp))
  have HL := Lib.hid (And.intro h (And.intro h0 (And.intro hl hn)))
  obtain ⟨i0, hi, hz0, hz1, hz2⟩ := info_parts_B
  have HI := Lib.hid (And.intro hi (And.intro hz0 (And.intro hz1 hz2)))
  rw [← hn]
  clear h h0 hl hn hi hz0 hz1 hz2
  go_enter Tryz.func90, Tryz.ntmps90
  go_wp2_with fail
  refine HP.out.mono ?_
  rintro e w1 ⟨v1, rfl, ho1, hg1, -⟩
  rw [List.nil_append] at ho1
  obtain ⟨vo, vc, rfl⟩ := ho1.form
  have HB1 := Lib.hid (show Below w.heap.size w w1 from ⟨hg1.os, hg1.tape, hg1.output, hg1.size, fun j hj => hg1.block j hj (by simp [Value.ownBlock])⟩)
  have HO1 := Lib.hid ho1
  have hown := row_below HL.out.1 HB1.out
  have hcs : ∀ j u, (L.flatMap enB)[j]? = some u → w1.cell? (ad.add j) = some u := fun j u hj => by
    rcases hown.2 with ⟨e, _⟩ | ⟨g, cap, cur, e, _⟩
    · cases e
    · obtain ⟨rfl⟩ : ad = ⟨g, 0, none⟩ := by injection e with e; injection e
      exact World.ownsRow.cells hown (g := g) rfl j u hj
  have HCS := Lib.hid hcs
  clear hg1 ho1 hown hcs
  go_wp2_with (at_builtin; refine Spare.wpList_append_own_loc rfl (.tmp 8) (.tmp 9) 110 rfl w.heap.size 5 i0 (.int .u8 0) [.int .u8 0] 1 Tryz.underlying110 HI.out.1 HI.out.2.1 rfl HI.out.2.2.1 HI.out.2.2.2 (by decide) (.slice vo (putF n).length vc) (putF n).length ((putF n).flatMap enB) rfl HO1.out ad n c (L.flatMap enB) rfl ?q1 ?q2 HCS.out (bytes_one L) ?q3 ?q4 HB1.out.size ?_)
  case q1 => have := List.length_pos_iff.2 HL.out.2.1; have := HL.out.2.2.2; omega
  case q2 => rw [flat_enB, List.length_map, HL.out.2.2.2]; exact (Nat.mul_one _).symm
  case q3 => have := HL.out.2.2.1; have := HL.out.2.2.2; have := putF_ten (n := n) (by omega); unfold maxLen; simp; omega
  case q4 => have := HL.out.2.2.1; have := HL.out.2.2.2; have := putF_ten (n := n) (by omega); simp; omega
  intro v2 w2 g1 g2 g3
  obtain ⟨v2o, v2c, rfl⟩ := row_form g1
  have HF := Lib.hid (show ByP (putF n ++ L) w (.returned (.slice v2o ((putF n).length + n) v2c)) w2 from ⟨_, rfl, by
    have e : (putF n).length + n = (putF n ++ L).length := by rw [HL.out.2.2.2]; simp
    rw [e] at g1 ⊢
    rw [← List.flatMap_append] at g1
    exact g1, HB1.out.grown g2 HB1.out.size (fun j hj => (HO1.out.lt j hj).1)⟩)
  clear g1 g2 g3
  go_wp2_with fail
  go_ret
  exact HF.out

theorem key_base {pw : ByteArray} (hpw : Pre pw) (w : World) (hT : Tabs w) : Calls Tryz.prog 53 #[.string (nBase pw)] w fun e w' => e = .returned (.bool true) ∧ Below w.heap.size w w' := by
  have h := key_any (nBase pw) w hT (by rcases hpw with rfl | rfl | rfl | rfl <;> decide)
  rwa [show keyF (nBase pw) = true from by rcases hpw with rfl | rfl | rfl | rfl <;> decide +kernel] at h
theorem eng_not {w : World} {pw : ByteArray} {room : Int} {g d m mm tb : Nat} (h : New w pw room g d m mm tb) : g ≠ d ∧ g ≠ m := by
  refine ⟨fun e => ?_, fun e => ?_⟩
  · have h1 : w.heap[g]? = some (.cells (eng pw d mm tb 0).toArray 99 (0, 0)) := h.eng
    have h2 := h.dk
    unfold DkAt at h2
    rw [e, h2] at h1
    simp at h1
  · obtain ⟨es, clock, h2, -⟩ := h.files
    have h1 : w.heap[g]? = some (.cells (eng pw d mm tb 0).toArray 99 (0, 0)) := h.eng
    rw [e, h2] at h1
    simp at h1
def StoreP (pw : ByteArray) (g d m mm tb : Nat) (w : World) (e : Ending) (w' : World) : Prop := e = .returned (.int .i64 0) ∧ EngAt w' g pw d mm tb 0 ∧ Save d m w w'
set_option maxHeartbeats 1000000 in
theorem store_new (pw : ByteArray) (room : Int) (g d m mm tb : Nat) (vb : Value) (B : List Nat) (w : World) (hT : Tabs w) (h : New w pw room g d m mm tb) (hb : BRow w vb B) (hl : B.length ≤ 1000) (hroom : room = 1048576) :
    Calls Tryz.prog 88 #[.pointer (some ⟨g, 0, none⟩), .string (nBase pw), vb] w (StoreP pw g d m mm tb w) := by
  subst hroom
  have HSZ := Lib.hid (nBase_size h.pre)
  have HA := Lib.hid (append_on d m 1048576 ⟨false, false, 0, 0⟩ (nBase pw) vb B w h.dk h.files h.md rfl (by unfold Few; simp) (nBase_size h.pre) (key_base h.pre w hT) hb (by omega) (by omega) (by omega) rfl)
  have c0 := h.eng.get (k := 0) rfl
  have HN := Lib.hid h
  have hne := eng_not h
  have HNE := Lib.hid hne
  clear h hb hne hT
  go_enter Tryz.func88, Tryz.ntmps88
  go_wp2_with fail
  refine HA.out.mono ?_
  rintro e w1 ⟨F, bv, rfl, ho1, hs1, hF1⟩
  have HO1 := Lib.hid ho1
  have HS1 := Lib.hid hs1
  have HF1 := Lib.hid hF1
  have he1 : EngAt w1 g pw d mm tb 0 := (hs1.block g HN.out.eng.lt HNE.out.1 HNE.out.2).trans HN.out.eng
  have HE1 := Lib.hid he1
  have HSY := Lib.hid (sync_on d m F 1048576 _ _ _ _ _ w1 HO1.out (by unfold Few; decide) HSZ.out rfl rfl)
  clear c0
  have c0 := he1.get (k := 0) rfl
  clear ho1 hs1 hF1 he1
  go_wp2_with fail
  refine HSY.out.mono ?_
  rintro e w2 ⟨rfl, -, hs2⟩
  have HS2 := Lib.hid hs2
  clear hs2
  go_wp2_with fail
  go_ret
  refine ⟨rfl, (HS2.out.block g HE1.out.lt HNE.out.1 ?_).trans HE1.out, HS1.out.then HS2.out HF1.out⟩
  have := HN.out.eng.lt
  have := HF1.out
  omega
end Go.Proofs.YtmjelcjdfamikaaGreatDoor.Eng

namespace Go.Proofs.YtmjelcjdfamikaaGreatDoor.Eng
open Go.RowKit Go.Maps Go.Proofs.YtmjelcjdfamikaaGreatDoor.Dsk Go.Proofs.YtmjelcjdfamikaaGreatDoor.Trc Go.Proofs.YtmjelcjdfamikaaGreatDoor.Mut Go.Proofs.YtmjelcjdfamikaaGreatDoor.Rd Go.Proofs.YtmjelcjdfamikaaGreatDoor.RegInv Go.Proofs.YtmjelcjdfamikaaGreatDoor.Mrk
set_option linter.unusedSectionVars false
variable [Inhabited Lim]

/-- Blocks that were there are as they were, but for some. -/
structure SaveL (l : List Nat) (w w' : World) : Prop where
  os : w'.os = w.os
  tape : w'.tape = w.tape
  output : w'.output = w.output
  size : w.heap.size ≤ w'.heap.size
  block : ∀ k, k < w.heap.size → k ∉ l → w'.heap[k]? = w.heap[k]?
theorem SaveL.below {l : List Nat} {w w' : World} (h : Below w.heap.size w w') : SaveL l w w' := ⟨h.os, h.tape, h.output, h.size, fun k hk _ => h.block k hk⟩
theorem SaveL.save {a b : Nat} {l : List Nat} {w w' : World} (h : Save a b w w') (ha : a ∈ l) (hb : b ∈ l) : SaveL l w w' := ⟨h.os, h.tape, h.output, h.size, fun k hk hn => h.block k hk (fun e => hn (e ▸ ha)) (fun e => hn (e ▸ hb))⟩
theorem SaveL.trans {l : List Nat} {w w' w'' : World} (h : SaveL l w w') (g : SaveL l w' w'') : SaveL l w w'' := ⟨g.os.trans h.os, g.tape.trans h.tape, g.output.trans h.output, Nat.le_trans h.size g.size, fun k hk hn => (g.block k (Nat.lt_of_lt_of_le hk h.size) hn).trans (h.block k hk hn)⟩
theorem SaveL.row {l : List Nat} {w : World} {g : Nat} (cs : Array Value) (hg : g ∈ l) : SaveL l w (w.setRow g cs) := ⟨rfl, rfl, rfl, by simp, fun k hk hn => setRow_other w g k cs (fun e => hn (e ▸ hg))⟩
theorem SaveL.under {l : List Nat} {B : Nat} {w0 w w' : World} (h0 : Below B w0 w) (h : SaveL l w w') (hl : ∀ x ∈ l, B ≤ x) (hB : B ≤ w.heap.size) : Below B w0 w' := ⟨h.os.trans h0.os, h.tape.trans h0.tape, h.output.trans h0.output, Nat.le_trans h0.size h.size, fun k hk => (h.block k (by omega) (fun hm => by have := hl k hm; omega)).trans (h0.block k hk)⟩
def WriteP (pw : ByteArray) (g d m mm tb : Nat) (w : World) (e : Ending) (w' : World) : Prop := e = .returned (.int .i64 0) ∧ EngAt w' g pw d mm tb 5 ∧ SaveL [d, m, g] w w'
theorem rec_len : (putF (verL 5 0 0).length ++ verL 5 0 0).length ≤ 1000 ∧ putF (verL 5 0 0).length ++ verL 5 0 0 ≠ [] ∧ verL 5 0 0 ≠ [] ∧ (verL 5 0 0).length ≤ 100000 := by decide +kernel

set_option maxRecDepth 100000 in
set_option maxHeartbeats 4000000 in
theorem write_new (pw : ByteArray) (room : Int) (g d m mm tb : Nat) (w : World) (hT : Tabs w) (h : New w pw room g d m mm tb) (hroom : room = 1048576) : Calls Tryz.prog 82 #[.pointer (some ⟨g, 0, none⟩), ver 5] w (WriteP pw g d m mm tb w) := by
  have HRM := Lib.hid hroom
  have HPW := Lib.hid h.pre
  clear hroom
  obtain ⟨L, hL⟩ : ∃ L, L = verL 5 0 0 := ⟨_, rfl⟩
  obtain ⟨RC, hRC⟩ : ∃ R, R = putF L.length ++ L := ⟨_, rfl⟩
  have HRL := Lib.hid (show RC.length ≤ 1000 ∧ RC ≠ [] ∧ L ≠ [] ∧ L.length ≤ 100000 from by rw [hRC, hL]; exact rec_len)
  have HPV := Lib.hid (fun W => verPut_any 5 0 0 W (by decide) (by decide) (by decide))
  rw [← hL] at HPV
  have HRC := Lib.hid hRC
  obtain ⟨W, hW⟩ : ∃ W, W = w.alloc (.cells #[.int .i64 0, .int .i64 0, .slice none 0 0, .int .i64 0, .int .i64 0, .int .i64 0, .int .i64 5, .int .i64 0, .int .i64 0, .int .i64 0, .int .i64 0, .int .i64 0, .bool false] 95) := ⟨_, rfl⟩
  obtain ⟨k, hk⟩ : ∃ k, k = w.heap.size := ⟨_, rfl⟩
  have HV := Lib.hid (show VerC W k 5 from by rw [hW, hk]; exact VerC.new w 5)
  have HB := Lib.hid (show Below w.heap.size w W from by rw [hW]; exact (Below.refl _ _).alloc (Nat.le_refl _) _)
  have HN := Lib.hid (h.below HB.out)
  have HTW := Lib.hid (hT.below HB.out)
  have HNE := Lib.hid (eng_not h)
  have HLT := Lib.hid (show d < k ∧ m < k ∧ g < k from by rw [hk]; exact ⟨h.dk.lt, h.files.lt, h.eng.lt⟩)
  have HKZ := Lib.hid (show k < W.heap.size from HV.out.lt)
  have HKW := Lib.hid hk
  clear hL hRC h hT
  go_enter Tryz.func82, Tryz.ntmps82
  go_upto_region 1 with fail
  rw [← hW, ← hk]
  clear hW hk
  obtain ⟨-, c0, c1, c2, c3, c4, c5, c6, c7, c8, c9, c10, c11, c12⟩ := HV.out
  go_wp2_with fail
  refine (HPV.out W).mono ?_
  rintro e w1 ⟨v1, rfl, ho1, hb1⟩
  have HFP := Lib.hid (frmPut_any W.heap.size v1 L w1 ho1 HRL.out.2.2.1 HRL.out.2.2.2)
  rw [← HRC.out] at HFP
  have HB1 := Lib.hid hb1
  obtain ⟨v1o, v1c, rfl⟩ := ho1.form
  clear hb1 ho1 c0 c1 c2 c3 c4 c5 c6 c7 c8 c9 c10 c11 c12
  go_wp2_with fail
  refine HFP.out.mono ?_
  rintro e w2 ⟨v2, rfl, ho2, hb2⟩
  have HB2 := Lib.hid (below_then HB1.out (Nat.le_refl _) hb2)
  have HN2 := Lib.hid (HN.out.below HB2.out)
  have HBR := Lib.hid (show BRow w2 v2 RC from Lst.owned enB_len (by decide) rfl ho2)
  obtain ⟨v2o, v2c, rfl⟩ := ho2.form
  obtain ⟨rn, hrn⟩ : ∃ n, n = RC.length := ⟨_, rfl⟩
  rw [← hrn] at HBR ⊢
  have hle : (rn : Int) ≤ 1000 := by have := HRL.out.1; omega
  have HLE := Lib.hid hle
  have HRN := Lib.hid hrn
  clear hb2 ho2 hrn HFP
  have c0 := HN2.out.eng.get (k := 0) rfl
  have c1 := HN2.out.eng.get (k := 1) rfl
  have c21 := HN2.out.eng.get (k := 21) rfl
  have HRD := Lib.hid (read_none d m room ⟨false, false, 0, 0⟩ (nBase pw) w2 HN2.out.dk HN2.out.files rfl (nBase_size HPW.out))
  go_wp2_with fail
  refine (base_pre HPW.out _).mono ?_
  rintro e w3 ⟨rfl, rfl⟩
  go_wp2_with fail
  refine HRD.out.mono ?_
  rintro e w3 ⟨rfl, rfl⟩
  go_wp2_with fail
  refine (store_new pw room g d m mm tb (.slice v2o rn v2c) RC w2 (HTW.out.below HB2.out) HN2.out HBR.out HRL.out.1 HRM.out).mono ?_
  rintro e w4 ⟨rfl, he4, hs4⟩
  have HS4 := Lib.hid hs4
  have HE4 := Lib.hid he4
  have hk2 : k < w2.heap.size := Nat.lt_of_lt_of_le HKZ.out HB2.out.size
  have hv4 : VerC w4 k 5 := by
    have hv2 := HV.out.below HB2.out
    have e : ∀ o, w4.cell? ⟨k, o, none⟩ = w2.cell? ⟨k, o, none⟩ := fun o => World.cell?_of_block (a := ⟨k, o, none⟩) (hs4.block k hk2 (by have := HLT.out; omega) (by have := HLT.out; omega))
    obtain ⟨h0, c0, c1, c2, c3, c4, c5, c6, c7, c8, c9, c10, c11, c12⟩ := hv2
    exact ⟨Nat.lt_of_lt_of_le h0 hs4.size, (e _).trans c0, (e _).trans c1, (e _).trans c2, (e _).trans c3, (e _).trans c4, (e _).trans c5, (e _).trans c6, (e _).trans c7, (e _).trans c8, (e _).trans c9, (e _).trans c10, (e _).trans c11, (e _).trans c12⟩
  obtain ⟨-, c0, c1, c2, c3, c4, c5, c6, c7, c8, c9, c10, c11, c12⟩ := hv4
  have hST := Lib.hid (VarAt.storeK (P := Tryz.prog) HE4.out 2 95 [.int .i64 0, .int .i64 0, .slice none 0 0, .int .i64 0, .int .i64 0, .int .i64 0, .int .i64 5, .int .i64 0, .int .i64 0, .int .i64 0, .int .i64 0, .int .i64 0, .bool false] (l' := eng pw d mm tb 5) rfl (by kernel_rfl) rfl rfl)
  clear he4 hs4 hk2
  go_wp2_with (refine wpList_store_run rfl 95 _ _ rfl (.pointer (some ⟨g, 2, none⟩)) (.agg #[.int .i64 0, .int .i64 0, .slice none 0 0, .int .i64 0, .int .i64 0, .int .i64 0, .int .i64 5, .int .i64 0, .int .i64 0, .int .i64 0, .int .i64 0, .int .i64 0, .bool false]) rfl rfl hST.out ?_)
  go_ret
  refine ⟨rfl, HE4.out.row (eng pw d mm tb 5), ?_⟩
  have hs := (SaveL.below (l := [d, m, g]) (below_then HB.out (Nat.le_refl _) HB2.out)).trans (SaveL.save HS4.out (by simp) (by simp))
  exact hs.trans (SaveL.row _ (by simp))
end Go.Proofs.YtmjelcjdfamikaaGreatDoor.Eng
