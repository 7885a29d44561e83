/- Stamps in rows; whether one is superseded; what a key of a causal table has (layer 8). PRINTED by wip/gensup.py. · What one sees of contents, and of all mutations that ever came (layer 9), in plain Lean: the same. · The reference's See (layer 9), in plain Lean: rows of values by keys; they are what is shown of what is left. · Sweeping contents, and the reference's answer (layer 10). PRINTED by wip/gensweep.py. · The reference's side of layer 9 (view): Right, Seen, hidden, hides, row, See, Same. PRINTED by wip/genrefview.py. · Rows of values; the reference's row, See, Same (layer 9). PRINTED by wip/genrefview2.py. -/
import Derived.Test.YtljlbkichcjlfaaGreatDoorConKnown
import Derived.Test.YtljlbkichcjlfaaGreatDoorRefState
import Derived.Test.YtljlbkichcjlfaaGreatDoorRegApp
set_option linter.unusedSimpArgs false
set_option linter.unusedVariables false
set_option linter.unnecessarySimpa false
namespace Go.Proofs.YtljlbkichcjlfaaGreatDoor.Mut
open Go.RowKit Go.Sort Go.Proofs.YtljlbkichcjlfaaGreatDoor.Ord Go.Proofs.YtljlbkichcjlfaaGreatDoor.RegInv
set_option linter.unusedSectionVars false
variable [Inhabited Lim]

/-! ## Stamps -/
def eqT (x y : Stp) : Bool := (x.p == y.p) && ((x.l == y.l) && (x.w == y.w))
theorem eqT_comm (x y : Stp) : eqT x y = eqT y x := by
  unfold eqT
  rw [Bool.beq_comm (a := x.p), Bool.beq_comm (a := x.l), Bool.beq_comm (a := x.w)]
theorem eqT_iff (x y : Stp) : eqT x y = true ↔ x = y := by
  obtain ⟨a, b, c⟩ := x
  obtain ⟨d, e, f⟩ := y
  simp [eqT]
theorem heldT : Tryz.prog.stoodInHeld 29 = false := by kernel_rfl
theorem guardT : Tryz.prog.eqGuardType Tryz.prog.depth 29 = false := by kernel_rfl
theorem fieldsT : Tryz.prog.underlying 29 = some (.struct (Tryz.prog.fieldsOf 29)) := by unfold Program.fieldsOf; rw [Tryz.underlying29]
theorem eqT_run (x y : Stp) (w : World) : (Op.equalIn 10000 29 (.agg #[.int .i64 x.p, .int .i64 x.l, .int .i64 x.w]) (.agg #[.int .i64 y.p, .int .i64 y.l, .int .i64 y.w])).run Tryz.prog w = .ok (eqT x y) w := by
  rw [run_equalIn_agg w 9999 _ _ _ fieldsT heldT]
  unfold Program.fieldsOf
  rw [Tryz.underlying29]
  unfold eqT
  go_simp
  by_cases h2 : x.p = y.p <;> by_cases h3 : x.l = y.l <;> by_cases h4 : x.w = y.w <;> simp [h2, h3, h4]
theorem eqlT_run (x y : Stp) (q : Bool) (h : eqT x y = q) (w : World) : (binOp .eql 29 (.agg #[.int .i64 x.p, .int .i64 x.l, .int .i64 x.w]) (.agg #[.int .i64 y.p, .int .i64 y.l, .int .i64 y.w])).run Tryz.prog w = .ok (.bool q) w := by
  rw [run_eql_struct, eqT_run, h]; rfl
theorem guardT_run (op : BinOp) (a b : Operand) (xs ys : Array Value) (w : World) : (eqGuard op 29 a b (.agg xs) (.agg ys)).run Tryz.prog w = .ok () w := run_eqGuard_agg w op _ a b xs ys guardT
theorem stamp_cells {w : World} {ao : Option Addr} {n cap : Nat} {l : List Stp} (h : Lst 3 enS w (.slice ao n cap) l) {k : Nat} (hk : k < l.length) :
    ∃ b off, ao = some ⟨b, off, none⟩ ∧ b < w.heap.size ∧ w.cell? ⟨b, off + k * 3, none⟩ = some (.int .i64 l[k].p) ∧ w.cell? ⟨b, off + k * 3 + 1, none⟩ = some (.int .i64 l[k].l) ∧ w.cell? ⟨b, off + k * 3 + 2, none⟩ = some (.int .i64 l[k].w) := by
  obtain ⟨b, off, e, h1, h2⟩ := Lst.get h hk
  exact ⟨b, off, e, h1, h2 0 (by omega), h2 1 (by omega), h2 2 (by omega)⟩
def hasS (l : List Stp) (s : Stp) : Bool := l.any fun y => eqT y s

/-! ## Superseded -/
def supM (key : ByteArray) (s : Stp) (m : Mu) : Bool := (m.key.toList == key.toList) && hasS m.over s
def supF (c : Con) (key : ByteArray) (s : Stp) : Bool := c.sibs.any (supM key s)
/-- A question whose function looks at the superseded stamps too. -/
def AsksO (w₀ : World) (g : FuncId) (cb : Array Value) (p : Mu → Bool) : Prop :=
  ∀ (x : Ro) (w : World), RowKit.Below w₀.heap.size w₀ w → Over w x → x.1.over.length ≤ 1000000 → Calls Tryz.prog g (#[vM x] ++ cb) w fun e w' => e = .returned (.bool (p x.1)) ∧ RowKit.Below w.heap.size w w'
set_option maxHeartbeats 2000000 in
set_option maxRecDepth 100000 in
theorem indexO_any (v : Value) (R : List Ro) (g : FuncId) (cb : Array Value) (p : Mu → Bool) (w : World) (hv : MRow w v R) (hf : ∀ x ∈ R, x.1.over.length ≤ 1000000) (hn : R.length ≤ 1000000) (hp : AsksO w g cb p)
    (he : ∀ args w, (callFunc g args).run Tryz.prog w = .ok (.enter g args) w) :
    Calls Tryz.prog 75 #[v, .func (.func g) #[] cb] w fun e w' => e = .returned (.int .i64 (idxF p (R.map (·.1)) 0)) ∧ RowKit.Below w.heap.size w w' := by
  obtain ⟨ao, cap, rfl, -, -⟩ := hv.form
  obtain ⟨n, hnn⟩ : ∃ n, n = R.length := ⟨_, rfl⟩
  rw [← hnn] at hv hn ⊢
  obtain ⟨Q, hQ⟩ : ∃ Q, Q = idxF p (R.map (·.1)) 0 := ⟨_, rfl⟩
  rw [← hQ]
  have HV := Lib.hid hv
  have HF := Lib.hid hf
  have HP := Lib.hid hp
  have HN := Lib.hid hnn
  have HQ := Lib.hid hQ
  clear hv hf hp hnn hQ
  go_enter Tryz.func75, Tryz.ntmps75
  go_wp2_with fail
  go_loopw [8] (fun iv wr => ∃ k : Nat, k ≤ n ∧ iv = .int .i64 k ∧ Hid (idxF p ((R.drop k).map (·.1)) k = Q) ∧ RowKit.Below w.heap.size w wr) (fun iv _ => n - (intOf iv).toNat)
  case atStart => exact ⟨0, by omega, rfl, Lib.hid (by rw [HQ.out]; rfl), Below.refl _ _⟩
  case round =>
    obtain ⟨k, hk, rfl, hi, hb⟩ := hrel
    by_cases hlt : k < n
    · have hkl : k < R.length := by have := HN.out; omega
      obtain ⟨x, hx⟩ : ∃ x, R[k]? = some x := ⟨_, List.getElem?_eq_getElem hkl⟩
      have hxe : R[k] = x := (List.getElem?_eq_some_iff.1 hx).2
      have hmr := HV.out.below hb
      obtain ⟨xb, xoff, hao, hblt, hcell⟩ := Lst.get hmr.row hkl
      subst hao
      rw [hxe] at hcell
      obtain ⟨hlt0, a0, a1, a2, a3, a4, a5, a6, a7, a8, a9⟩ := At.of (x := x) hblt hcell
      have hcall := HP.out x wr hb (hmr.over x (List.mem_of_getElem? hx)) (HF.out x (List.mem_of_getElem? hx))
      have hi' : (if p x.1 then (k : Int) else idxF p ((R.drop (k + 1)).map (·.1)) (k + 1)) = Q := by rw [← hi.out, List.drop_eq_getElem_cons hkl, hxe]; rfl
      obtain ⟨q, hq⟩ : ∃ q, q = p x.1 := ⟨_, rfl⟩
      rw [← hq] at hcall hi'
      unfold vM at hcall
      have HC := Lib.hid hcall
      have HI := Lib.hid hi'
      clear hmr hcell hcall hi' hq hx hxe hi
      cases q
      · go_wp2_with fail
        refine HC.out.mono ?_
        rintro e w1 ⟨rfl, hb1⟩
        go_wp2_with fail
        go_roundw
        case rel => exact ⟨k + 1, by omega, by go_num, HI, hb.trans (hb1.mono hb.size)⟩
        case measure => simp [intOf]; omega
      · go_wp2_with fail
        refine HC.out.mono ?_
        rintro e w1 ⟨rfl, hb1⟩
        go_wp2_with fail
        go_ret
        exact ⟨ret_int HI.out, hb.trans (hb1.mono hb.size)⟩
    · obtain rfl : k = n := by omega
      have he : (-1 : Int) = Q := by rw [← hi.out, List.drop_of_length_le (by have := HN.out; omega)]; rfl
      have HE := Lib.hid he
      clear he
      go_wp2_with fail
      go_ret
      exact ⟨ret_int HE.out, hb⟩

theorem containsO_any (v : Value) (R : List Ro) (g : FuncId) (cb : Array Value) (p : Mu → Bool) (w : World) (hv : MRow w v R) (hf : ∀ x ∈ R, x.1.over.length ≤ 1000000) (hn : R.length ≤ 1000000) (hp : AsksO w g cb p)
    (he : ∀ args w, (callFunc g args).run Tryz.prog w = .ok (.enter g args) w) :
    Calls Tryz.prog 55 #[v, .func (.func g) #[] cb] w fun e w' => e = .returned (.bool ((R.map (·.1)).any p)) ∧ RowKit.Below w.heap.size w w' := by
  have h := indexO_any v R g cb p w hv hf hn hp he
  rw [← idxF_any]
  obtain ⟨Q, hQ⟩ : ∃ Q, Q = idxF p (R.map (·.1)) 0 := ⟨_, rfl⟩
  rw [← hQ] at h ⊢
  obtain ⟨ao, cap, rfl, -, -⟩ := hv.form
  generalize R.length = n at *
  have H := Lib.hid h
  clear h hv hf hn hp he hQ
  go_enter Tryz.func55, Tryz.ntmps55
  go_wp2_with fail
  refine H.out.mono ?_
  rintro e w1 ⟨rfl, hb1⟩
  go_wp2_with fail
  go_ret
  exact ⟨rfl, hb1⟩

end Go.Proofs.YtljlbkichcjlfaaGreatDoor.Mut

namespace Go.Proofs.YtljlbkichcjlfaaGreatDoor.Mut
open Go.Proofs.YtljlbkichcjlfaaGreatDoor.Ord
set_option linter.unusedSectionVars false
variable [Inhabited Lim]

/-- Does one see a mutation, as far as it itself tells? -/
def seenB (m : Mu) (t : Int) : Bool := decide (m.kind = 1) && (decide (m.expiry = 0) || decide (t < m.expiry))
/-- Is it hidden by another one? -/
def hiddenB (m y : Mu) : Bool :=
  decide (m.table = y.table) && (if m.table = 2 then (y.key.toList == m.key.toList) && hasS y.over m.at_ else if y.kind = 3 then hitsB y m.key m.at_ else (y.key.toList == m.key.toList) && decide (muC m y < 0))
/-- The mutations of a table that nothing supersedes. -/
def liveF (c : Con) (t : Int) : List Mu := if t = 2 then c.sibs.filter (fun m => !supF c m.key m.at_) else c.cells.filter (fun m => decide (m.table = t))
def shownF (c : Con) (t phys : Int) : List Mu := (liveF c t).filter fun m => seenB m phys

theorem key_beq {a b : ByteArray} : (a.toList == b.toList) = true ↔ a = b := by
  rw [beq_iff_eq]
  exact ⟨bytes_ext, fun h => by rw [h]⟩
theorem leftOf_says (l : List Mu) : Says (Fits l) (leftOf l).cells (leftOf l).wipes (leftOf l).sibs := by
  have g := fits_says (l.map fun m => ((m, .slice none 0 0) : Ro))
  have e : (l.map fun m => ((m, .slice none 0 0) : Ro)).map (·.1) = l := by
    rw [List.map_map]
    exact List.map_id l
  rw [e] at g
  exact g
theorem right_table {m : Mu} (h : rightF m = true) : m.table = 1 ∨ m.table = 2 := (fit_of h).table
theorem sup_iff (l : List Mu) (key : ByteArray) (s : Stp) : supF (leftOf l) key s = true ↔ ∃ y, Fits l y ∧ y.table = 2 ∧ y.key = key ∧ hasS y.over s = true := by
  unfold supF supM
  rw [List.any_eq_true]
  constructor
  · rintro ⟨y, hy, h⟩
    rw [Bool.and_eq_true, key_beq] at h
    obtain ⟨h1, h2⟩ := ((leftOf_says l).sibs y).1 hy
    exact ⟨y, h1, h2, h.1, h.2⟩
  · rintro ⟨y, h1, h2, h3, h4⟩
    exact ⟨y, ((leftOf_says l).sibs y).2 ⟨h1, h2⟩, by rw [Bool.and_eq_true, key_beq]; exact ⟨h3, h4⟩⟩
/-- One sees of a content what nothing hides of all that came. -/
theorem shown_iff (l : List Mu) (t phys : Int) (m : Mu) : m ∈ shownF (leftOf l) t phys ↔ Fits l m ∧ m.table = t ∧ seenB m phys = true ∧ ∀ y, Fits l y → hiddenB m y = false := by
  have hs := leftOf_says l
  unfold shownF liveF
  by_cases ht : t = 2
  · subst ht
    rw [if_pos rfl, List.mem_filter, List.mem_filter, hs.sibs, Bool.not_eq_true', ← Bool.not_eq_true, sup_iff]
    constructor
    · rintro ⟨⟨⟨h1, h2⟩, h3⟩, h4⟩
      refine ⟨h1, h2, h4, fun y hy => ?_⟩
      have h2' : m.table = 2 := h2
      unfold hiddenB
      rw [h2', if_pos rfl]
      cases e : decide ((2 : Int) = y.table) && ((y.key.toList == m.key.toList) && hasS y.over m.at_) with
      | false => rfl
      | true =>
        rw [Bool.and_eq_true, Bool.and_eq_true, decide_eq_true_eq, key_beq] at e
        exact absurd ⟨y, hy, e.1.symm, e.2.1, e.2.2⟩ h3
    · rintro ⟨h1, h2, h3, h4⟩
      refine ⟨⟨⟨h1, h2⟩, ?_⟩, h3⟩
      rintro ⟨y, hy, e1, e2, e3⟩
      have := h4 y hy
      unfold hiddenB at this
      rw [h2, if_pos rfl, e1, (key_beq (a := y.key) (b := m.key)).2 e2, e3] at this
      exact absurd this (by decide)
  · rw [if_neg ht, List.mem_filter, List.mem_filter, hs.cells, decide_eq_true_eq]
    constructor
    · rintro ⟨⟨⟨h1, h2, h3, h4⟩, h5⟩, h6⟩
      refine ⟨h1, h5, h6, fun y hy => ?_⟩
      unfold hiddenB
      rw [h5, if_neg ht]
      by_cases hy3 : y.kind = 3
      · rw [if_pos hy3]
        cases e : hitsB y m.key m.at_ with
        | false => simp
        | true => exact absurd ((hits_iff _ _ _).2 e) (h3 y hy)
      · rw [if_neg hy3]
        cases e : decide (t = y.table) && ((y.key.toList == m.key.toList) && decide (muC m y < 0)) with
        | false => rfl
        | true =>
          rw [Bool.and_eq_true, Bool.and_eq_true, decide_eq_true_eq, key_beq, decide_eq_true_eq] at e
          exact absurd e.2.2 (h4 y hy ⟨by rw [← e.1]; exact ht, hy3⟩ e.2.1)
    · rintro ⟨h1, h2, h3, h4⟩
      have hm2 : ¬ m.table = 2 := by rw [h2]; exact ht
      have hm1 : m.table = 1 := (right_table h1.2).resolve_right hm2
      have hk : m.kind = 1 := by
        unfold seenB at h3
        rw [Bool.and_eq_true, decide_eq_true_eq] at h3
        exact h3.1
      refine ⟨⟨⟨h1, ⟨hm2, by omega⟩, fun w hw hh => ?_, fun y hy hc hkey hlt => ?_⟩, h2⟩, h3⟩
      · have hw3 : w.kind = 3 := hh.1.1
        have hw1 : w.table = 1 := ((fit_of hw.2).wipe hw3).1
        have := h4 w hw
        unfold hiddenB at this
        rw [if_neg hm2, if_pos hw3, (hits_iff _ _ _).1 hh, hm1, hw1] at this
        exact absurd this (by decide)
      · have hy1 : y.table = 1 := (right_table hy.2).resolve_right hc.1
        have := h4 y hy
        unfold hiddenB at this
        rw [if_neg hm2, if_neg hc.2, (key_beq (a := y.key) (b := m.key)).2 hkey, decide_eq_true hlt, hm1, hy1] at this
        exact absurd this (by decide)
theorem shown_rises (l : List Mu) (t phys : Int) : Rises sibC (shownF (leftOf l) t phys) := by
  have h := (leftOf_both l).1
  unfold shownF liveF
  split
  · exact List.Pairwise.filter _ (List.Pairwise.filter _ h.rs)
  · refine List.Pairwise.filter _ (List.Pairwise.filter _ ?_)
    have := h.rc
    unfold Rises keyC at this
    refine this.imp fun {a b} hab => ?_
    exact sib_key hab

/-! ## The reference: all that nothing hides, by keys -/
def visB (l : List Mu) (t phys : Int) (m : Mu) : Bool := decide (m.table = t) && (seenB m phys && !l.any (hiddenB m))
/-- Two rows of mutations show the same if the same are seen. -/
theorem shown_same {l k : List Mu} {t phys : Int} (h : ∀ m, (Fits l m ∧ m.table = t ∧ seenB m phys = true ∧ ∀ y, Fits l y → hiddenB m y = false) ↔ (Fits k m ∧ m.table = t ∧ seenB m phys = true ∧ ∀ y, Fits k y → hiddenB m y = false)) :
    shownF (leftOf l) t phys = shownF (leftOf k) t phys :=
  Rises.unique sibO (shown_rises l t phys) (shown_rises k t phys) fun m => by rw [shown_iff, shown_iff]; exact h m
end Go.Proofs.YtljlbkichcjlfaaGreatDoor.Mut

namespace Go.Proofs.YtljlbkichcjlfaaGreatDoor.Mut
open Go.Proofs.YtljlbkichcjlfaaGreatDoor.Ord
set_option linter.unusedSectionVars false
variable [Inhabited Lim]

/-- A value that one sees. -/
structure Rw where
  key : ByteArray
  val : ByteArray
  at_ : Stp
def rwOf (m : Mu) : Rw := ⟨m.key, m.val, m.at_⟩
/-- A row by keys, with one more, behind those of the same key. -/
def bkW (x : Rw) : Bool → List Rw → List Rw
  | inn, [] => if inn then [] else [x]
  | inn, y :: t => (if !inn && lessS x.key y.key then [x] else []) ++ (y :: bkW x (inn || (!inn && lessS x.key y.key)) t)
theorem bkW_map (x : Ro) (R : List Ro) : ∀ inn, (bkRo x inn R).map (fun y => rwOf y.1) = bkW (rwOf x.1) inn (R.map fun y => rwOf y.1) := by
  induction R with
  | nil => intro inn; cases inn <;> rfl
  | cons y t ih =>
    intro inn
    have e : lessS (rwOf x.1).key (rwOf y.1).key = lessS x.1.key y.1.key := rfl
    simp only [bkRo, bkW, List.map_append, List.map_cons, ih, e]
    congr 1
    split <;> rfl
/-- From a key up to ahead of another one. -/
def inB (from_ to_ : ByteArray) (m : Mu) : Bool := !lessS m.key from_ && lessS m.key to_
def seeB (all : List Mu) (t : Int) (from_ to_ : ByteArray) (phys : Int) (m : Mu) : Bool := visB all t phys m && inB from_ to_ m
def seeRo (f : Mu → Bool) (acc : List Ro) (all : List Mu) : List Ro := all.foldl (fun acc m => if f m then bkRo (m, .slice none 0 0) false acc else acc) acc
def seeW (f : Mu → Bool) (acc : List Rw) (all : List Mu) : List Rw := all.foldl (fun acc m => if f m then bkW (rwOf m) false acc else acc) acc
theorem seeW_eq (f : Mu → Bool) (all : List Mu) : ∀ acc : List Ro, (seeRo f acc all).map (fun y => rwOf y.1) = seeW f (acc.map fun y => rwOf y.1) all := by
  induction all with
  | nil => intro acc; rfl
  | cons m all ih =>
    intro acc
    unfold seeRo seeW at *
    rw [List.foldl_cons, List.foldl_cons, ih]
    cases h : f m
    · rfl
    · simp only [if_true]
      rw [bkW_map]
theorem seeRo_spec (f : Mu → Bool) (all : List Mu) : ∀ acc : List Ro, Rises sibC (acc.map (·.1)) → Rises muC all → (∀ y ∈ acc, ∀ x ∈ all, muC y.1 x < 0) →
    Rises sibC ((seeRo f acc all).map (·.1)) ∧ ∀ m, m ∈ (seeRo f acc all).map (·.1) ↔ m ∈ acc.map (·.1) ∨ (m ∈ all ∧ f m = true) := by
  induction all with
  | nil => intro acc h _ _; exact ⟨h, fun m => by simp [seeRo]⟩
  | cons x all ih =>
    intro acc h hr ha
    unfold Rises at hr
    obtain ⟨h1, h2⟩ := List.pairwise_cons.1 hr
    have e : seeRo f acc (x :: all) = seeRo f (if f x then bkRo (x, .slice none 0 0) false acc else acc) all := rfl
    rw [e]
    cases hf : f x
    · simp only [Bool.false_eq_true, if_false]
      obtain ⟨q1, q2⟩ := ih acc h h2 fun y hy z hz => ha y hy z (List.mem_cons_of_mem _ hz)
      refine ⟨q1, fun m => ?_⟩
      rw [q2, List.mem_cons]
      constructor
      · exact fun g => g.imp id fun g => ⟨Or.inr g.1, g.2⟩
      · rintro (g | ⟨rfl | g, g2⟩)
        · exact Or.inl g
        · rw [hf] at g2; cases g2
        · exact Or.inr ⟨g, g2⟩
    · simp only [if_true]
      have hr2 : Rises sibC ((bkRo (x, .slice none 0 0) false acc).map (·.1)) := by
        exact bkRo_rises sibC (fun a b d => sibO.trans a b d) (fun a b => sib_key) (x, .slice none 0 0) acc h fun y hy hk => sib_same hk (ha y hy x (List.mem_cons_self ..))
      obtain ⟨q1, q2⟩ := ih _ hr2 h2 fun y hy z hz => by
        rcases bkRo_mem _ _ _ y hy with g | rfl
        · exact ha y g z (List.mem_cons_of_mem _ hz)
        · exact h1 z hz
      refine ⟨q1, fun m => ?_⟩
      rw [q2, bkRo_mem_iff, List.mem_cons]
      constructor
      · rintro ((g | g) | g)
        · exact Or.inl g
        · exact Or.inr ⟨Or.inl g, by rw [g]; exact hf⟩
        · exact Or.inr ⟨Or.inr g.1, g.2⟩
      · rintro (g | ⟨g | g, g2⟩)
        · exact Or.inl (Or.inl g)
        · exact Or.inl (Or.inr g)
        · exact Or.inr ⟨g, g2⟩
/-- What the reference sees of a rising row of all that may be is what is shown of what is left of them. -/
theorem see_shown (l all : List Mu) (hr : Rises muC all) (hm : ∀ m, m ∈ all ↔ Fits l m) (t : Int) (from_ to_ : ByteArray) (phys : Int) :
    seeW (seeB all t from_ to_ phys) [] all = ((shownF (leftOf l) t phys).filter (inB from_ to_)).map rwOf := by
  have h := seeRo_spec (seeB all t from_ to_ phys) all [] List.Pairwise.nil hr (fun y hy => by cases hy)
  have e := seeW_eq (seeB all t from_ to_ phys) all []
  rw [List.map_nil] at e
  rw [← e]
  have e2 : (seeRo (seeB all t from_ to_ phys) [] all).map (·.1) = (shownF (leftOf l) t phys).filter (inB from_ to_) := by
    refine Rises.unique sibO h.1 (List.Pairwise.filter _ (shown_rises l t phys)) fun m => ?_
    rw [h.2, List.mem_filter, shown_iff]
    have hv : seeB all t from_ to_ phys m = true ↔ (m.table = t ∧ seenB m phys = true ∧ ∀ y, Fits l y → hiddenB m y = false) ∧ inB from_ to_ m = true := by
      unfold seeB visB
      rw [Bool.and_eq_true, Bool.and_eq_true, Bool.and_eq_true, decide_eq_true_eq, Bool.not_eq_true', List.any_eq_false]
      constructor
      · rintro ⟨⟨g1, g2, g3⟩, g4⟩
        exact ⟨⟨g1, g2, fun y hy => by simpa using g3 y ((hm y).2 hy)⟩, g4⟩
      · rintro ⟨⟨g1, g2, g3⟩, g4⟩
        exact ⟨⟨g1, g2, fun y hy => by simpa using g3 y ((hm y).1 hy)⟩, g4⟩
    rw [hv, hm]
    simp only [List.map_nil, List.not_mem_nil, false_or]
    constructor
    · rintro ⟨g1, g2, g3⟩
      exact ⟨⟨g1, g2.1, g2.2.1, g2.2.2⟩, g3⟩
    · rintro ⟨⟨g1, g2, g3, g4⟩, g5⟩
      exact ⟨g1, ⟨g2, g3, g4⟩, g5⟩
  rw [← e2, List.map_map]
  rfl
end Go.Proofs.YtljlbkichcjlfaaGreatDoor.Mut

namespace Go.Proofs.YtljlbkichcjlfaaGreatDoor.Mut
open Go.RowKit Go.Sort Go.Proofs.YtljlbkichcjlfaaGreatDoor.Ord Go.Proofs.YtljlbkichcjlfaaGreatDoor.RegInv
set_option linter.unusedSectionVars false
variable [Inhabited Lim]

def expF (m : Mu) (t : Int) : Bool := decide (m.kind = 1) && (decide (0 < m.expiry) && decide (m.expiry ≤ t))
def deadF (c : Con) (s : Stp) (m : Mu) : Bool := !decide (stC s m.at_ < 0) && ((!decide (m.kind = 1)) || (expF m s.p || (decide (m.table = 2) && supF c m.key m.at_)))
theorem ne_flag {a b : Int} (h : ¬ a = b) : (a == b) = false ∧ (a != b) = true := by simp [h]
theorem eq_flag {a b : Int} (h : a = b) : (a == b) = true ∧ (a != b) = false := by simp [h]

def deadsF (c : Con) (s : Stp) : List Mu := (allF c).filter fun m => deadF c s m
theorem Reads.len {w : World} {v : Value} {l : List Mu} (h : Reads w v l) : ∃ ao cap, v = .slice ao l.length cap := by
  obtain ⟨ao, cap, e, -, -⟩ := h.form
  exact ⟨ao, cap, e⟩
end Go.Proofs.YtljlbkichcjlfaaGreatDoor.Mut

namespace Go.Proofs.YtljlbkichcjlfaaGreatDoor.Mut
open Go.RowKit Go.Sort Go.Proofs.YtljlbkichcjlfaaGreatDoor.Ord
set_option linter.unusedSectionVars false
variable [Inhabited Lim]

end Go.Proofs.YtljlbkichcjlfaaGreatDoor.Mut

namespace Go.Proofs.YtljlbkichcjlfaaGreatDoor.Mut
open Go.RowKit Go.Sort Go.Proofs.YtljlbkichcjlfaaGreatDoor.Ord
set_option linter.unusedSectionVars false
variable [Inhabited Lim]

/-! ## Rows of values -/
def enRw (x : Rw) : List Value := [.string x.key, .string x.val, .int .i64 x.at_.p, .int .i64 x.at_.l, .int .i64 x.at_.w]
def vRw (x : Rw) : Value := .agg #[.string x.key, .string x.val, .int .i64 x.at_.p, .int .i64 x.at_.l, .int .i64 x.at_.w]
theorem enRw_len (x : Rw) : (enRw x).length = 5 := rfl
instance : Inhabited Rw := ⟨⟨ByteArray.empty, ByteArray.empty, ⟨0, 0, 0⟩⟩⟩
abbrev WRow (w : World) (v : Value) (R : List Rw) : Prop := Lst 5 enRw w v R
/-- The five cells of a value that lies at a place. -/
structure AtW (w : World) (b o : Nat) (x : Rw) : Prop where
  lt : b < w.heap.size
  c0 : w.cell? ⟨b, o, none⟩ = some (.string x.key)
  c1 : w.cell? ⟨b, o + 1, none⟩ = some (.string x.val)
  c2 : w.cell? ⟨b, o + 2, none⟩ = some (.int .i64 x.at_.p)
  c3 : w.cell? ⟨b, o + 3, none⟩ = some (.int .i64 x.at_.l)
  c4 : w.cell? ⟨b, o + 4, none⟩ = some (.int .i64 x.at_.w)
theorem AtW.of {w : World} {b o : Nat} {x : Rw} (hb : b < w.heap.size) (h : ∀ j, j < 5 → w.cell? ⟨b, o + j, none⟩ = (enRw x)[j]?) : AtW w b o x :=
  ⟨hb, h 0 (by decide), h 1 (by decide), h 2 (by decide), h 3 (by decide), h 4 (by decide)⟩
theorem AtW.below {w w' : World} {b o : Nat} {x : Rw} (h : AtW w b o x) (hb : RowKit.Below w.heap.size w w') : AtW w' b o x := by
  have e : ∀ k, w'.cell? ⟨b, k, none⟩ = w.cell? ⟨b, k, none⟩ := fun k => hb.cell (p := ⟨b, k, none⟩) h.lt
  obtain ⟨h0, h1, h2, h3, h4, h5⟩ := h
  exact ⟨Nat.lt_of_lt_of_le h0 hb.size, (e _).trans h1, (e _).trans h2, (e _).trans h3, (e _).trans h4, (e _).trans h5⟩
theorem WRow.at_ {w : World} {ao : Option Addr} {n cap : Nat} {R : List Rw} {k : Nat} {x : Rw} (h : WRow w (.slice ao n cap) R) (hk : R[k]? = some x) : ∃ b off, ao = some ⟨b, off, none⟩ ∧ AtW w b (off + k * 5) x := by
  obtain ⟨hlt, he⟩ := List.getElem?_eq_some_iff.1 hk
  obtain ⟨b, off, ha, hb, hc⟩ := Lst.get h hlt
  rw [he] at hc
  exact ⟨b, off, ha, AtW.of hb hc⟩
theorem AtW.new (w : World) (t : TypeId) (x : Rw) : AtW (w.alloc (.cells (enRw x).toArray t)) w.heap.size 0 x :=
  AtW.of (by simp) fun j hj => by
    have h := new_cells w (enRw x) t j ((enRw x)[j]'(by rw [enRw_len]; exact hj)) (List.getElem?_eq_getElem _)
    rw [addr_add] at h
    rw [show (0 : Nat) + j = (⟨w.heap.size, 0, none⟩ : Addr).off + j from rfl]
    simpa using h
theorem one_rw {w : World} {x : Rw} {t : TypeId} : WRow (w.alloc (.cells ⟨enRw x⟩ t)) (.slice (some ⟨w.heap.size, 0, none⟩) 1 1) [x] := by
  refine ⟨_, 1, rfl, by simp, by decide, Or.inr ⟨_, _, rfl, by simp, fun i y hi j hj => ?_⟩⟩
  rw [cells_at (heap_alloc_new w _), Nat.zero_add]
  have := flatMap_get enRw_len [x] i y hi j hj
  simpa using this
theorem enRw_one (x : Rw) : ∀ u ∈ enRw x, u.oneCell' = true := by
  intro u hu
  unfold enRw at hu
  simp only [List.mem_cons, List.not_mem_nil, or_false] at hu
  rcases hu with rfl | rfl | rfl | rfl | rfl <;> rfl
theorem flatW_one (l : List Rw) : ∀ u ∈ l.flatMap enRw, u.oneCell' = true := by
  intro u hu
  obtain ⟨x, -, h⟩ := List.mem_flatMap.1 hu
  exact enRw_one x u h
def zeroRw : Value := .agg #[.string ByteArray.empty, .string ByteArray.empty, .int .i64 0, .int .i64 0, .int .i64 0]
theorem info_Rw : (Tryz.prog.info? 49).map (fun i => (i.zero, i.size, i.bytes)) = some (some zeroRw, 5, 56) := by kernel_rfl
theorem wpList_append_rws {w : World} {ops : Array Oper} {rest : List Oper} {o : Oper} {a : Act} {Q : Exit → Act → World → Prop} (hgd : o.guard = none) (s x : Operand)
    (ho : o.op = .call { callee := .builtin .append, args := #[s, x], argTypes := #[37, 37] }) (base : Nat) (v : Value) (n : Nat) (xs : List Value) (hs : a.eval s = v) (hown : w.ownsRow base 49 5 v n xs)
    (ad : Addr) (m c : Nat) (R : List Rw) (hx : a.eval x = .slice (some ad) m c) (hR : WRow w (.slice (some ad) m c) R) (hm : n + m ≤ 1000000) (hbase : base ≤ w.heap.size)
    (h : ∀ v' w', w'.ownsRow base 49 5 v' (n + m) (xs ++ R.flatMap enRw) → w.grownBy w' v.ownBlock → wpList Tryz.prog ops Q rest (a.put o.dst v') w') : wpList Tryz.prog ops Q (o :: rest) a w := by
  obtain ⟨i0, hi, hz0, hz1, hz2⟩ := info_parts info_Rw
  have hmR : m = R.length := Lst.len hR
  subst hmR
  exact wpList_append_own _ hgd s x 37 ho base 49 i0 zeroRw 5 56 Tryz.underlying37 hi hz0 hz1 hz2 rfl (by decide) v n xs hs hown ad R.length c (R.flatMap enRw) hx (flatMap_len enRw_len R) (Lst.news enRw_len (by decide) hR) (flatW_one R) (by unfold maxLen; omega) (by omega) hbase (fun v' w' h1 h2 _ => h v' w' h1 h2)
/-- A row of values comes back. -/
def RowW (w : World) (L : List Rw) (e : Ending) (w' : World) : Prop := ∃ v, e = .returned v ∧ WRow w' v L ∧ RowKit.Below w.heap.size w w'
theorem bkW_cons (x y : Rw) (inn : Bool) (t : List Rw) (c : Bool) (hc : c = lessS x.key y.key) : bkW x inn (y :: t) = (if !inn && c then [x] else []) ++ (y :: bkW x (inn || (!inn && c)) t) := by
  subst hc; rfl
theorem bkW_len (x : Rw) : ∀ (l : List Rw) inn, (bkW x inn l).length ≤ l.length + 1 ∧ (inn = true → (bkW x inn l).length ≤ l.length)
  | [], inn => by cases inn <;> simp [bkW]
  | y :: l, inn => by
    have h1 := bkW_len x l true
    have h2 := bkW_len x l (inn || (!inn && lessS x.key y.key))
    rw [bkW]
    cases inn
    · cases hc : lessS x.key y.key
      · simp only [hc] at h2
        simp at h2 ⊢
        omega
      · have := h1.2 rfl
        simp
        omega
    · have := h1.2 rfl
      simp
      omega

theorem seeW_step (f : Mu → Bool) (m : Mu) (all : List Mu) (acc : List Rw) : seeW f acc (m :: all) = seeW f (if f m then bkW (rwOf m) false acc else acc) all := rfl

/-! ## Are two rows of values the same? -/
def eqRw (x y : Rw) : Bool := (x.key.toList == y.key.toList) && ((x.val.toList == y.val.toList) && eqT x.at_ y.at_)
theorem eqRw_iff (x y : Rw) : eqRw x y = true ↔ x = y := by
  unfold eqRw
  rw [Bool.and_eq_true, Bool.and_eq_true, key_beq, key_beq, eqT_iff]
  obtain ⟨a, b, c⟩ := x
  obtain ⟨d, e, f⟩ := y
  simp
def eqWs : List Rw → List Rw → Bool
  | [], [] => true
  | x :: a, y :: b => eqRw x y && eqWs a b
  | _, _ => false
theorem eqWs_iff : ∀ a b : List Rw, eqWs a b = true ↔ a = b
  | [], [] => by simp [eqWs]
  | [], _ :: _ => by simp [eqWs]
  | _ :: _, [] => by simp [eqWs]
  | x :: a, y :: b => by simp [eqWs, eqRw_iff, eqWs_iff a b]
theorem eqWs_len (a b : List Rw) (h : a.length ≠ b.length) : eqWs a b = false := by
  cases e : eqWs a b with
  | false => rfl
  | true => exact absurd (congrArg List.length ((eqWs_iff a b).1 e)) h
theorem heldRw : Tryz.prog.stoodInHeld 49 = false := by kernel_rfl
theorem guardRw : Tryz.prog.eqGuardType Tryz.prog.depth 49 = false := by kernel_rfl
theorem fieldsRw : Tryz.prog.underlying 49 = some (.struct (Tryz.prog.fieldsOf 49)) := by unfold Program.fieldsOf; rw [Tryz.underlying49]
theorem eqRw_run (x y : Rw) (w : World) : (Op.equalIn 10000 49 (vRw x) (vRw y)).run Tryz.prog w = .ok (eqRw x y) w := by
  unfold vRw
  rw [run_equalIn_agg w 9999 _ _ _ fieldsRw heldRw]
  unfold Program.fieldsOf
  rw [Tryz.underlying49]
  unfold eqRw eqT
  go_simp
  by_cases h1 : x.key.toList = y.key.toList <;> by_cases h2 : x.val.toList = y.val.toList <;> by_cases h3 : x.at_.p = y.at_.p <;> by_cases h4 : x.at_.l = y.at_.l <;> by_cases h5 : x.at_.w = y.at_.w <;> simp [h1, h2, h3, h4, h5]
theorem neqRw_run (x y : Rw) (q : Bool) (h : eqRw x y = q) (w : World) : (binOp .neq 49 (vRw x) (vRw y)).run Tryz.prog w = .ok (.bool (!q)) w := by
  unfold vRw
  rw [run_neq_struct]
  have := eqRw_run x y w
  unfold vRw at this
  rw [this, h]; rfl
theorem guardRw_run (op : BinOp) (a b : Operand) (xs ys : Array Value) (w : World) : (eqGuard op 49 a b (.agg xs) (.agg ys)).run Tryz.prog w = .ok () w := run_eqGuard_agg w op _ a b xs ys guardRw
set_option maxHeartbeats 2000000 in
set_option maxRecDepth 100000 in
theorem same09_any (v1 v2 : Value) (A B : List Rw) (w : World) (hA : WRow w v1 A) (hB : WRow w v2 B) (lA : A.length ≤ 1000000) (lB : B.length ≤ 1000000) :
    Calls Tryz.prog 15 #[v1, v2] w (RetB (eqWs A B) w) := by
  obtain ⟨ao, ac, rfl, -, -⟩ := Lst.form hA
  obtain ⟨bo, bc, rfl, -, -⟩ := Lst.form hB
  by_cases hl : A.length = B.length
  · obtain ⟨n, hN⟩ : ∃ n, n = A.length := ⟨_, rfl⟩
    rw [← hl, ← hN] at hB ⊢
    rw [← hN] at hA lA
    have hnB : n = B.length := hN.trans hl
    obtain ⟨Q, hQ⟩ : ∃ Q, Q = eqWs A B := ⟨_, rfl⟩
    rw [← hQ]
    have HA := Lib.hid hA
    have HB := Lib.hid hB
    have HN := Lib.hid hN
    have HNB := Lib.hid hnB
    have HQ := Lib.hid hQ
    clear hA hB hN hnB hQ hl lB
    go_enter Tryz.func15, Tryz.ntmps15
    go_wp2_with fail
    go_loopw [5] (fun iv wr => ∃ k : Nat, k ≤ n ∧ iv = .int .i64 k ∧ Hid (eqWs (A.drop k) (B.drop k) = Q) ∧ Hid (RowKit.Below w.heap.size w wr)) (fun iv _ => n - (intOf iv).toNat)
    case atStart => exact ⟨0, by omega, rfl, Lib.hid (by rw [HQ.out]; rfl), Lib.hid (Below.refl _ _)⟩
    case round =>
      obtain ⟨k, hk, rfl, hput, hl⟩ := hrel
      by_cases hlt : k < n
      · have hka : k < A.length := by have := HN.out; omega
        have hkb : k < B.length := by have := HNB.out; omega
        obtain ⟨xb, xoff, hao, hat⟩ := WRow.at_ (HA.out.below hl.out) (List.getElem?_eq_getElem hka)
        cases hao
        obtain ⟨yb, yoff, hbo, hbt⟩ := WRow.at_ (HB.out.below hl.out) (List.getElem?_eq_getElem hkb)
        cases hbo
        have hst := hput.out
        rw [List.drop_eq_getElem_cons hka, List.drop_eq_getElem_cons hkb] at hst
        generalize A[k] = x at hat hst
        generalize B[k] = y at hbt hst
        obtain ⟨q, hq⟩ : ∃ q, eqRw x y = q := ⟨_, rfl⟩
        have hneq := fun w => neqRw_run x y q hq w
        have hgd := fun a b xs ys w => guardRw_run .neq a b xs ys w
        have HST := Lib.hid (show (q && eqWs (A.drop (k + 1)) (B.drop (k + 1))) = Q by rw [← hst, ← hq]; rfl)
        clear hst hq hput
        obtain ⟨xkey, xval, ⟨xp, xl, xw⟩⟩ := x
        obtain ⟨ykey, yval, ⟨yp, yl, yw⟩⟩ := y
        unfold vRw at hneq
        simp only [] at hneq
        obtain ⟨hl1, a0, a1, a2, a3, a4⟩ := hat
        obtain ⟨hl2, b0, b1, b2, b3, b4⟩ := hbt
        simp only [] at a0 a1 a2 a3 a4 b0 b1 b2 b3 b4
        have j0 : (0 : Int) ≤ (k : Int) := by omega
        have j1 : (k : Int) < (n : Int) := by omega
        go_wp2_with fail
        refine wp_region_calm (by kernel_rfl) (by kernel_rfl) ?_
        repeat (go_big_quiet_step (fail))
        refine wpQuiet_nil ?_
        rintro _ ⟨z, rfl⟩
        obtain ⟨W1, hW1⟩ : ∃ W1, W1 = z.at := ⟨_, rfl⟩
        have hz := z.below
        rw [← hW1] at hz ⊢
        have HZ := Lib.hid (below_then hl.out (Nat.le_refl _) hz)
        clear hW1 z hz a0 a1 a2 a3 a4 b0 b1 b2 b3 b4 hneq hgd
        cases q
        · have HR := Lib.hid (show false = Q from HST.out)
          go_wp2_with fail
          go_ret
          exact ⟨ret_bool HR.out, HZ.out⟩
        · have HR := Lib.hid (show eqWs (A.drop (k + 1)) (B.drop (k + 1)) = Q from HST.out)
          go_wp2_with fail
          go_roundw
          case rel => exact ⟨k + 1, by omega, by go_num, HR, HZ⟩
          case measure => simp [intOf]; omega
      · obtain rfl : k = n := by omega
        have HR := Lib.hid (show true = Q by have h := hput.out; rw [List.drop_of_length_le (by have := HN.out; omega), List.drop_of_length_le (by have := HNB.out; omega)] at h; exact h)
        go_wp2_with fail
        go_ret
        exact ⟨ret_bool HR.out, hl.out⟩
  · have HE := Lib.hid (eqWs_len A B hl)
    obtain ⟨na, hna⟩ : ∃ k, k = A.length := ⟨_, rfl⟩
    obtain ⟨nb, hnb⟩ : ∃ k, k = B.length := ⟨_, rfl⟩
    rw [← hna, ← hnb] at hl ⊢
    rw [HE.out]
    have hne : ((na : Int) != (nb : Int)) = true := by simp; omega
    clear hA hB hna hnb
    go_enter Tryz.func15, Tryz.ntmps15
    go_wp2_with fail
    go_ret
    exact ⟨rfl, Below.refl _ _⟩
end Go.Proofs.YtljlbkichcjlfaaGreatDoor.Mut
