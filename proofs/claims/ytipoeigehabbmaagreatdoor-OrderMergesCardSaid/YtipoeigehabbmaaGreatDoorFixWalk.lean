/- Fixes, FixWalk: in one text. -/
import Derived.Test.YtipoeigehabbmaaGreatDoorReply
import Derived.Test.YtipoeigehabbmaaGreatDoorKeepRow
import Derived.Test.YtipoeigehabbmaaGreatDoorUnion
/- What replicas lack of what all have together (layer 29): order.Fixes; rows of fixes. -/
set_option linter.unusedSimpArgs false
set_option linter.unusedVariables false
namespace Go.Proofs.YtipoeigehabbmaaGreatDoor.Mut
open Go.RowKit Go.Sort Go.Proofs.YtipoeigehabbmaaGreatDoor.Ord Go.Proofs.YtipoeigehabbmaaGreatDoor.RegInv Go.Proofs.YtipoeigehabbmaaGreatDoor.Spare
set_option linter.unusedSectionVars false
variable [Inhabited Lim]

/-! ## Rows of fixes -/
abbrev Fx := Int × Ro
def enF (x : Fx) : List Value := .int .i64 x.1 :: enM x.2
theorem enF_len (x : Fx) : (enF x).length = 11 := rfl
def zF : List Value := [.int .i64 0, .int .i64 0, .int .i64 0, .string ByteArray.empty, .string ByteArray.empty, .string ByteArray.empty, .int .i64 0, .int .i64 0, .int .i64 0, .int .i64 0, .slice none 0 0]
structure FRow (w : World) (v : Value) (R : List Fx) : Prop where
  row : Lst 11 enF w v R
  over : ∀ x ∈ R, Over w x.2
theorem FRow.below {w w' : World} {v : Value} {R : List Fx} (h : FRow w v R) (hb : RowKit.Below w.heap.size w w') : FRow w' v R := ⟨Lst.below h.row hb, fun x hx => (h.over x hx).below hb⟩
theorem FRow.form {w : World} {v : Value} {R : List Fx} (h : FRow w v R) : ∃ ao cap, v = .slice ao R.length cap ∧ R.length ≤ cap ∧ cap ≤ maxLen := Lst.form h.row
theorem FRow.at_ {w : World} {ao : Option Addr} {n cap : Nat} {R : List Fx} {k : Nat} {x : Fx} (h : FRow w (.slice ao n cap) R) (hk : R[k]? = some x) : ∃ b off, ao = some ⟨b, off, none⟩ ∧ b < w.heap.size ∧ w.cell? ⟨b, off + k * 11, none⟩ = some (.int .i64 x.1) ∧ At w b (off + k * 11 + 1) x.2 := by
  obtain ⟨hlt, he⟩ := List.getElem?_eq_some_iff.1 hk
  obtain ⟨b, off, ha, hb, hc⟩ := Lst.get h.row hlt
  rw [he] at hc
  exact ⟨b, off, ha, hb, hc 0 (by decide), At.of hb fun j hj => by
    have := hc (j + 1) (by omega)
    rw [show off + k * 11 + 1 + j = off + k * 11 + (j + 1) by omega, this]
    rfl⟩
/-- A row of fixes that grows. -/
structure GrowF (w : World) (base : Nat) (v : Value) (n : Nat) (R : List Fx) : Prop where
  row : Spare w base 74 zF v n (R.flatMap enF)
  over : ∀ x ∈ R, Over w x.2
  right : ∀ x ∈ R, rightF x.2.1 = true
  len : n = R.length
theorem GrowF.nil (w : World) (base : Nat) : GrowF w base (.slice none 0 0) 0 [] := ⟨Spare.nil w base _ zF, fun x hx => (by cases hx), fun x hx => (by cases hx), rfl⟩
theorem GrowF.below {w w' : World} {base : Nat} {v : Value} {n : Nat} {R : List Fx} (h : GrowF w base v n R) (hb : RowKit.Below w.heap.size w w') : GrowF w' base v n R := ⟨h.row.below hb, fun x hx => (h.over x hx).below hb, h.right, h.len⟩
theorem GrowF.frow {w : World} {base : Nat} {v : Value} {n : Nat} {R : List Fx} (h : GrowF w base v n R) : FRow w v R := ⟨Lst.owned enF_len (by decide) h.len h.row.own, h.over⟩

theorem zF_slice (r : Nat) (ao : Option Addr) (n c : Nat) (h : zF[r]? = some (.slice ao n c)) : r = 10 := by
  rcases r with _ | _ | _ | _ | _ | _ | _ | _ | _ | _ | _ | r <;> simp [zF] at h <;> first | rfl | omega
theorem zF_int (r : Nat) (i : Int) (h : zF[r]? = some (.int .i64 i)) : i = 0 ∧ r ≠ 10 ∧ r ≠ 3 ∧ r ≠ 4 ∧ r ≠ 5 ∧ r < 10 := by
  rcases r with _ | _ | _ | _ | _ | _ | _ | _ | _ | _ | _ | r <;> simp [zF] at h <;> simp [h]
section
variable {w w' : World} {base : Nat} {v : Value} {n : Nat} {R : List Fx}
theorem spare_at (h : Spare w base 74 zF v n (R.flatMap enF)) {b o : Nat} {u : Value} (hb : v.ownBlock = some b) (ho : n * 11 ≤ o) (hc : w.cell? ⟨b, o, none⟩ = some u) : zF[o % 11]? = some u := by
  rcases h.own.2 with ⟨rfl, _⟩ | ⟨g, cap, cur, rfl, _⟩
  · cases hb
  · have e : g = b := by simpa [Value.ownBlock] using hb
    subst e
    exact h.rest g n cap o u rfl ho hc
/-- A mutation that may be doesn't lie in the spare room of a row of fixes. -/
theorem mut_spare (hs : Spare w base 74 zF v n (R.flatMap enF)) {x : Ro} (hr : rightF x.1 = true) (hx : ∃ ao n c, x.2 = .slice ao n c) {b p j : Nat} (hj : j < 10) (hc : ∀ i, i < 10 → w.cell? ⟨b, p + i, none⟩ = (enM x)[i]?) (hb : v.ownBlock = some b) (ho : n * 11 ≤ p + j) : False := by
  obtain ⟨ao, xn, xc, e⟩ := hx
  have h9 : w.cell? ⟨b, p + 9, none⟩ = some x.2 := hc 9 (by decide)
  have h0 : w.cell? ⟨b, p + 0, none⟩ = some (.int .i64 x.1.table) := hc 0 (by decide)
  rw [e] at h9
  have r9 := zF_slice _ _ _ _ (spare_at hs hb (by omega) h9)
  have hp : n * 11 ≤ p + 0 := by omega
  have r0 := spare_at hs hb hp h0
  have hm : (p + 0) % 11 = 1 := by omega
  rw [hm] at r0
  have h0t := (zF_int _ _ r0).1
  rcases (fit_of hr).table with g | g <;> omega
theorem row_keptF {u : Value} {l : List Ro} (h : Lst 10 enM w u l) (hr : ∀ x ∈ l, rightF x.1 = true) (hf : ∀ x ∈ l, ∃ ao n c, x.2 = .slice ao n c) (hs : Spare w base 74 zF v n (R.flatMap enF)) (hk : Kept w w' zF v n) (hsz : w.heap.size ≤ w'.heap.size) : Lst 10 enM w' u l := by
  obtain ⟨ao, cap, e1, h1, h2, h3⟩ := h
  refine ⟨ao, cap, e1, h1, h2, h3.imp id ?_⟩
  rintro ⟨b, off, e2, hb, hc⟩
  refine ⟨b, off, e2, Nat.lt_of_lt_of_le hb hsz, fun i x hi j hj => ?_⟩
  have hj1 := hc i x hi j hj
  rw [List.getElem?_eq_getElem (by rw [enM_len]; exact hj)] at hj1 ⊢
  rcases hk _ _ _ hj1 with h4 | ⟨h4, h5, -⟩
  · exact h4
  · exact (mut_spare hs (hr x (List.mem_of_getElem? hi)) (hf x (List.mem_of_getElem? hi)) hj (fun i' hi' => hc i x hi i' hi') h4 h5).elim
theorem last_slice (hR : ∀ x ∈ R, ∃ ao n c, x.2.2 = .slice ao n c) (hn : n = R.length) {o : Nat} (h1 : o < n * 11) (h2 : o % 11 = 10) (i : Int) : (R.flatMap enF)[o]? ≠ some (.int .i64 i) := by
  have hk : o / 11 < R.length := by omega
  have hg := flatMap_get enF_len R (o / 11) R[o / 11] (List.getElem?_eq_getElem hk) 10 (by decide)
  rw [show o / 11 * 11 + 10 = o by omega] at hg
  rw [hg]
  obtain ⟨ao, m, c, e⟩ := hR _ (List.getElem_mem hk)
  simp [enF, enM, e]
theorem over_keptF {x : Ro} (h : Over w x) (hr : ∀ s ∈ x.1.over, stR s = true) (hR : ∀ x ∈ R, ∃ ao n c, x.2.2 = .slice ao n c) (hn : n = R.length) (hs : Spare w base 74 zF v n (R.flatMap enF)) (hk : Kept w w' zF v n) (hsz : w.heap.size ≤ w'.heap.size) : Over w' x := by
  refine ⟨?_, h.zn⟩
  obtain ⟨ao, cap, e1, h1, h2, h3⟩ := h.lst
  refine ⟨ao, cap, e1, h1, h2, h3.imp id ?_⟩
  rintro ⟨b, off, e2, hb, hc⟩
  refine ⟨b, off, e2, Nat.lt_of_lt_of_le hb hsz, fun i s hi k hk3 => ?_⟩
  have hj1 := hc i s hi k hk3
  have c0 : w.cell? ⟨b, off + i * 3 + 0, none⟩ = some (.int .i64 s.p) := hc i s hi 0 (by decide)
  have c1 : w.cell? ⟨b, off + i * 3 + 1, none⟩ = some (.int .i64 s.l) := hc i s hi 1 (by decide)
  have c2 : w.cell? ⟨b, off + i * 3 + 2, none⟩ = some (.int .i64 s.w) := hc i s hi 2 (by decide)
  rw [List.getElem?_eq_getElem (by rw [enS_len]; exact hk3)] at hj1 ⊢
  rcases hk _ _ _ hj1 with h4 | ⟨h4, h5, -⟩
  · exact h4
  · exfalso
    have hz : zF.length = 11 := rfl
    rw [hz] at h5
    have r2 := zF_int _ _ (spare_at hs h4 (by omega) c2)
    have used : ∀ o i, o < n * 11 → o % 11 = 10 → w.cell? ⟨b, o, none⟩ = some (.int .i64 i) → False := fun o i h6 h7 h8 => by
      rcases hs.own.2 with ⟨rfl, _⟩ | ⟨g, cap', cur, rfl, h9, h10, h11, h12, h13, h14⟩
      · cases h4
      · have e : g = b := by simpa [Value.ownBlock] using h4
        subst e
        rw [cell_of_row _ _ _ _ _ _ h10] at h8
        refine last_slice hR hn h6 h7 i ?_
        rw [← h14, List.getElem?_take, if_pos (by rw [hz]; exact h6)]
        simpa using h8
    by_cases hq : n * 11 ≤ off + i * 3 + 0
    · have r0 := zF_int _ _ (spare_at hs h4 hq c0)
      have r1 := zF_int _ _ (spare_at hs h4 (by omega) c1)
      have h9 := hr s (List.mem_of_getElem? hi)
      unfold stR at h9
      simp [r0.1, r1.1, r2.1] at h9
    · by_cases hq1 : n * 11 ≤ off + i * 3 + 1
      · exact used _ _ (by omega) (by omega) c0
      · exact used _ _ (by omega) (by omega) c1
theorem mrow_keptF {u : Value} {l : List Ro} (h : MRow w u l) (hr : ∀ x ∈ l, rightF x.1 = true) (hG : GrowF w base v n R) (hk : Kept w w' zF v n) (hsz : w.heap.size ≤ w'.heap.size) : MRow w' u l :=
  ⟨row_keptF h.row hr h.forms hG.row hk hsz, fun x hx => over_keptF (h.over x hx) (right_over (hr x hx)) (fun y hy => by obtain ⟨a, b, e, -, -⟩ := Over.form (hG.over y hy); exact ⟨_, _, _, e⟩) hG.len hG.row hk hsz⟩
theorem GrowF.more {v' : Value} {x : Fx} (h : GrowF w base v n R) (hx : Over w x.2) (hr : rightF x.2.1 = true) (hsp : Spare w' base 74 zF v' (n + 1) (R.flatMap enF ++ [x].flatMap enF)) (hk : Kept w w' zF v n) (hsz : w.heap.size ≤ w'.heap.size) : GrowF w' base v' (n + 1) (R ++ [x]) := by
  have hf : ∀ y ∈ R, ∃ ao n c, y.2.2 = .slice ao n c := fun y hy => by obtain ⟨a, b, e, -, -⟩ := Over.form (h.over y hy); exact ⟨_, _, _, e⟩
  refine ⟨by rw [List.flatMap_append]; exact hsp, fun y hy => ?_, fun y hy => ?_, by rw [List.length_append, ← h.len]; rfl⟩
  · rcases List.mem_append.1 hy with g | g
    · exact over_keptF (h.over y g) (right_over (h.right y g)) hf h.len h.row hk hsz
    · rw [List.mem_singleton.1 g]
      exact over_keptF hx (right_over hr) hf h.len h.row hk hsz
  · rcases List.mem_append.1 hy with g | g
    · exact h.right y g
    · rw [List.mem_singleton.1 g]; exact hr
end
theorem info_Fix : (Tryz.prog.info? 74).map (fun i => (i.zero, i.size, i.bytes)) = some (some (.agg ⟨zF⟩), 11, 128) := by kernel_rfl
theorem enF_one {x : Fx} (h : ∃ ao n c, x.2.2 = .slice ao n c) : ∀ u ∈ enF x, u.oneCell' = true := by
  intro u hu
  obtain ⟨ao, n, c, e⟩ := h
  unfold enF enM at hu
  rw [e] at hu
  simp only [List.mem_cons, List.not_mem_nil, or_false] at hu
  rcases hu with rfl | rfl | rfl | rfl | rfl | rfl | rfl | rfl | rfl | rfl | rfl <;> rfl
theorem wpList_append_fix {w : World} {ops : Array Oper} {rest : List Oper} {o : Oper} {a : Act} {Q : Exit → Act → World → Prop} (hgd : o.guard = none) (s x : Operand)
    (ho : o.op = .call { callee := .builtin .append, args := #[s, x], argTypes := #[68, 68] }) (base : Nat) (v : Value) (n : Nat) (xs : List Value) (hs : a.eval s = v) (hown : Spare w base 74 zF v n xs)
    (ad : Addr) (z : Fx) (hx : a.eval x = .slice (some ad) 1 1) (hR : ∀ j u, (enF z)[j]? = some u → w.cell? (ad.add j) = some u) (hF : ∃ ao n c, z.2.2 = .slice ao n c) (hm : n + 1 ≤ 1000000) (hbase : base ≤ w.heap.size)
    (h : ∀ v' w', Spare w' base 74 zF v' (n + 1) (xs ++ [z].flatMap enF) → w.grownBy w' v.ownBlock → Kept w w' zF v n → wpList Tryz.prog ops Q rest (a.put o.dst v') w') : wpList Tryz.prog ops Q (o :: rest) a w := by
  obtain ⟨i0, hi, hz0, hz1, hz2⟩ := info_parts info_Fix
  refine wpList_append_spare hgd s x 68 ho base 74 i0 (.agg ⟨zF⟩) zF 128 Tryz.underlying68 hi hz0 rfl hz1 hz2 (by decide) v n xs hs hown ad 1 1 (enF z) hx (Or.inl (by decide)) rfl hR (enF_one hF) (by unfold maxLen; omega) (by omega) hbase ?_
  intro v' w' h1 h2 h3 _
  exact h v' w' (by simpa using h1) h2 h3

/-! ## order.Fixes -/
def fixOne (all : Con) (x : Ry) : List Fx := ((missF all x.c).filter fun m => decide (stC x.f m.at_ < 0)).map fun m => (x.from_, (m, .slice none 0 0))
def fixF (R : List Ry) : List (Int × Mu) := R.flatMap fun x => ((missF (mergeF R) x.c).filter fun m => decide (stC x.f m.at_ < 0)).map fun m => (x.from_, m)
/-- Fixes come back. -/
def RetF (L : List (Int × Mu)) (w : World) (e : Ending) (w' : World) : Prop := ∃ v R, e = .returned v ∧ R.map (fun x : Fx => (x.1, x.2.1)) = L ∧ FRow w' v R ∧ (∀ x ∈ R, rightF x.2.1 = true) ∧ RowKit.Below w.heap.size w w'
end Go.Proofs.YtipoeigehabbmaaGreatDoor.Mut

/- The walk of order.Fixes (layer 29). -/
set_option linter.unusedSimpArgs false
set_option linter.unusedVariables false
namespace Go.Proofs.YtipoeigehabbmaaGreatDoor.Mut
open Go.RowKit Go.Sort Go.Proofs.YtipoeigehabbmaaGreatDoor.Ord Go.Proofs.YtipoeigehabbmaaGreatDoor.RegInv Go.Proofs.YtipoeigehabbmaaGreatDoor.Spare
set_option linter.unusedSectionVars false
variable [Inhabited Lim]

/-- A reply lies in a box. -/
def BoxY (w : World) (k : Nat) (x : Ry) : Prop := w.heap[k]? = some (.cells (enY x).toArray 81 (0, 0))
theorem BoxY.lt {w : World} {k : Nat} {x : Ry} (h : BoxY w k x) : k < w.heap.size := (Array.getElem?_eq_some_iff.1 h).1
theorem BoxY.below {w w' : World} {k : Nat} {x : Ry} (h : BoxY w k x) (hb : RowKit.Below w.heap.size w w') : BoxY w' k x := (hb.block k h.lt).trans h
theorem BoxY.cells {w : World} {k : Nat} {x : Ry} (h : BoxY w k x) : w.cell? ⟨k, 0, none⟩ = some (.int .i64 x.from_) ∧ w.cell? ⟨k, 2, none⟩ = some x.a ∧ w.cell? ⟨k, 3, none⟩ = some x.b ∧ w.cell? ⟨k, 4, none⟩ = some x.d ∧ w.cell? ⟨k, 5, none⟩ = some (.int .i64 x.f.p) ∧ w.cell? ⟨k, 6, none⟩ = some (.int .i64 x.f.l) ∧ w.cell? ⟨k, 7, none⟩ = some (.int .i64 x.f.w) := by
  refine ⟨?_, ?_, ?_, ?_, ?_, ?_, ?_⟩ <;> simp [World.cell?, show w.heap[k]? = _ from h, enY]
theorem BoxY.beside {w w' : World} {k n base : Nat} {x : Ry} {v : Value} {xs : List Value} (h : BoxY w k x) (hs : Spare w base 74 zF v n xs) (hg : w.grownBy w' v.ownBlock) : BoxY w' k x := by
  refine (hg.block k h.lt fun e => ?_).trans h
  rcases hs.own.2 with ⟨rfl, _⟩ | ⟨g, cap, cur, rfl, h1, h2, _⟩
  · cases e
  · have e : k = g := by simpa [Value.ownBlock] using e
    subst e
    rw [show w.heap[k]? = _ from h] at h2
    injection h2 with h2
    injection h2 with _ h2
    exact absurd h2 (by decide)
def fxM (x : Fx) : Int × Mu := (x.1, x.2.1)
def fixG (all : Con) (x : Ry) : List (Int × Mu) := ((missF all x.c).filter fun m => decide (stC x.f m.at_ < 0)).map fun m => (x.from_, m)
theorem fixF_eq (R : List Ry) : fixF R = R.flatMap (fixG (mergeF R)) := rfl
theorem fix_step (f : Int) (t : Stp) (z : Ro) (L : List Ro) (D : Bool) (hD : D = decide (stC t z.1.at_ < 0)) :
    ((z :: L).filter fun y => decide (stC t y.1.at_ < 0)).map (fun y => (f, y.1)) = (if D then [(f, z.1)] else []) ++ (L.filter fun y => decide (stC t y.1.at_ < 0)).map (fun y => (f, y.1)) := by
  rw [List.filter_cons, ← hD]
  cases D <;> rfl

set_option maxHeartbeats 8000000 in
set_option maxRecDepth 100000 in
theorem fixes_any (v : Value) (R : List Ry) (m : Nat) (w : World) (hT : Tabs w) (hv : YRow w v R) (hG : ∀ x ∈ R, Good x.c m) (hn : R.length ≤ 10) (hm : m ≤ 100) :
    Calls Tryz.prog 36 #[v] w (RetF (fixF R) w) := by
  have hmg := mergeF_good hG
  have hmr : m * R.length ≤ 100 * 10 := Nat.mul_le_mul hm hn
  have HMe := Lib.hid (merge_any v R m w hT hv hG (by omega) hm)
  obtain ⟨all, hall⟩ : ∃ c, c = mergeF R := ⟨_, rfl⟩
  obtain ⟨Q, hQ⟩ : ∃ Q, Q = fixF R := ⟨_, rfl⟩
  rw [← hQ]
  rw [fixF_eq, ← hall] at hQ
  rw [← hall] at HMe hmg
  obtain ⟨ao, cap, rfl, -, -⟩ := hv.form
  obtain ⟨n, hN⟩ : ∃ n, n = R.length := ⟨_, rfl⟩
  rw [← hN] at hv hn HMe ⊢
  have HGA := Lib.hid (hmg.more hmr)
  have HV := Lib.hid hv
  have HG := Lib.hid hG
  have HT := Lib.hid hT
  have HQ := Lib.hid hQ
  have HN := Lib.hid hN
  clear hv hG hT hQ hN hall hmg hmr
  unfold RetC at HMe
  go_enter Tryz.func36, Tryz.ntmps36
  go_wp2_with fail
  refine HMe.out.mono ?_
  rintro e w1 ⟨v1, rfl, hc, hb⟩
  obtain ⟨p1, q1, r1, p2, q2, r2, p3, q3, r3, rfl, hl1⟩ := hc.form
  have HL1 := Lib.hid hl1
  have HB1 := Lib.hid hb
  clear hc hb hl1 HMe
  go_upto_region 3 with fail
  obtain ⟨W2, hW2⟩ : ∃ W, W = w1.alloc (.cells #[.slice p1 q1 r1, .slice p2 q2 r2, .slice p3 q3 r3] 25) := ⟨_, rfl⟩
  rw [← hW2]
  have hb2 : RowKit.Below w1.heap.size w1 W2 := by rw [hW2]; exact (Below.refl _ _).alloc (Nat.le_refl _) _
  have HC3 := Lib.hid (show C3 W2 w1.heap.size (.slice p1 q1 r1) (.slice p2 q2 r2) (.slice p3 q3 r3) by rw [hW2]; exact C3.new w1 _ _ _)
  have HLA := Lib.hid (HL1.out.below hb2)
  have HB2 := Lib.hid (below_then HB1.out (Nat.le_refl _) hb2)
  obtain ⟨k3, hk3⟩ : ∃ k, k = w1.heap.size := ⟨_, rfl⟩
  rw [← hk3] at HC3 ⊢
  clear hW2 hb2 hk3 HL1 HB1
  go_wp2_with fail
  go_loopw [4, 13] (fun ov iv wr => ∃ (k : Nat) (F : List Fx) (on : Nat), k ≤ n ∧ iv = .int .i64 k ∧ Hid (F.map fxM ++ (R.drop k).flatMap (fixG all) = Q) ∧ Hid (GrowF wr W2.heap.size ov on F) ∧ on ≤ k * 1000 ∧ Hid (RowKit.Below W2.heap.size W2 wr)) (fun _ iv _ => n - (intOf iv).toNat)
  case atStart => exact ⟨0, [], 0, by omega, rfl, Lib.hid (by rw [HQ.out]; rfl), Lib.hid (GrowF.nil _ _), by omega, Lib.hid (Below.refl _ _)⟩
  case round =>
    obtain ⟨k, F, on, hk, rfl, hput, hgr, hon, hl⟩ := hrel
    by_cases hlt : k < n
    · have hkr : k < R.length := by have := HN.out; omega
      have hvw := HV.out.below (below_then HB2.out (Nat.le_refl _) hl.out)
      obtain ⟨xbk, xoff, hao, hbl, a0, a1, a2, a3, a4, a5, a6, a7⟩ := hvw.get hkr
      cases hao
      have hlie := hvw.con R[k] (List.getElem_mem hkr)
      have hgx := HG.out R[k] (List.getElem_mem hkr)
      have hst := hput.out
      rw [List.drop_eq_getElem_cons hkr, List.flatMap_cons] at hst
      generalize R[k] = x at *
      have HMS := Lib.hid (fun v v' W (hv : IsC all v W) (hv' : IsC x.c v' W) (hTW : Tabs W) => c_missing (nx := 100 * 10) (ny := m) hTW hv HGA.out hv' hgx (by omega))
      have HRI := Lib.hid (show ∀ u ∈ missF all x.c, rightF u = true from fun u hu => HGA.out.okc.right u (mem_missF.1 hu).1)
      have HLN := Lib.hid (show (missF all x.c).length ≤ 1000 from by
        have h1 : (missF all x.c).length ≤ (allF all).length := List.length_filter_le _ _
        rw [len_allF] at h1
        have := HGA.out.okc.len
        omega)
      have HST := Lib.hid hst
      have HLX := Lib.hid hlie
      obtain ⟨XX, hXX⟩ : ∃ X : Ry, X = x := ⟨_, rfl⟩
      have HXX := Lib.hid hXX
      obtain ⟨W3, hW3⟩ : ∃ W, W = wr.alloc (.cells (enY x).toArray 81) := ⟨_, rfl⟩
      have hb3 : RowKit.Below wr.heap.size wr W3 := by rw [hW3]; exact (Below.refl _ _).alloc (Nat.le_refl _) _
      have HBX := Lib.hid (show BoxY W3 wr.heap.size XX by rw [hW3, hXX]; exact World.alloc_heap_new wr _)
      have HL3 := Lib.hid (hlie.below hb3)
      have HC33 := Lib.hid (HC3.out.below (below_then hl.out (Nat.le_refl _) hb3))
      have HLA3 := Lib.hid (HLA.out.below (below_then hl.out (Nat.le_refl _) hb3))
      have HB3 := Lib.hid (below_then hl.out (Nat.le_refl _) hb3)
      have HG3 := Lib.hid (hgr.out.below hb3)
      have HT3 := Lib.hid (HT.out.below (below_then HB2.out (Nat.le_refl _) HB3.out))
      clear hXX hlie hst hput hgx hb3 hvw
      obtain ⟨xf, xn, xa, xb', xd, xc, ⟨fp, fl, fw⟩⟩ := x
      obtain ⟨o1, n1, k1, e1⟩ := HLX.out.cells.slice
      obtain ⟨o2, n2, k2, e2⟩ := HLX.out.wipes.slice
      obtain ⟨o3, n3, k3', e3⟩ := HLX.out.sibs.slice
      simp only [] at e1 e2 e3
      subst e1 e2 e3
      unfold enY at hW3
      simp only [] at a0 a1 a2 a3 a4 a5 a6 a7 hW3 HMS HRI HLN HST HL3
      have HW3 := Lib.hid hW3
      clear hW3 HLX
      have j0 : (0 : Int) ≤ (k : Int) := by omega
      have j1 : (k : Int) < (n : Int) := by omega
      go_upto_region 6 with fail
      rw [← HW3.out]
      clear HW3 a0 a1 a2 a3 a4 a5 a6 a7
      obtain ⟨k6, hk6⟩ : ∃ k, k = wr.heap.size := ⟨_, rfl⟩
      rw [← hk6] at HBX ⊢
      clear hk6
      have hbx := HBX.out.cells
      rw [HXX.out] at hbx
      obtain ⟨y0, y2, y3, y4, y5, y6, y7⟩ := hbx
      obtain ⟨-, t0, t1, t2, -⟩ := HC33.out
      simp only [] at y0 y2 y3 y4 y5 y6 y7
      go_wp2_with fail
      refine (HMS.out _ _ W3 HLA3.out.is HL3.out.is HT3.out).mono ?_
      rintro e w4 ⟨vm, rfl, hr, hb4⟩
      obtain ⟨RM, eM, hM⟩ := hr
      obtain ⟨mo, mc, rfl, -, -⟩ := hM.form
      obtain ⟨nm, hnm⟩ : ∃ n, n = RM.length := ⟨_, rfl⟩
      rw [← hnm] at hM ⊢
      have hnm2 : nm ≤ 1000 := by rw [hnm]; have h := congrArg List.length eM; rw [List.length_map] at h; rw [h]; exact HLN.out
      have HRM := Lib.hid (show ∀ z ∈ RM, rightF z.1 = true from fun z hz => HRI.out z.1 (eM ▸ List.mem_map.2 ⟨z, hz, rfl⟩))
      obtain ⟨P, hP⟩ : ∃ P, P = F.map fxM ++ fixG all ⟨xf, xn, .slice o1 n1 k1, .slice o2 n2 k2, .slice o3 n3 k3', xc, ⟨fp, fl, fw⟩⟩ := ⟨_, rfl⟩
      have HST2 := Lib.hid (show P ++ (R.drop (k + 1)).flatMap (fixG all) = Q by rw [hP, List.append_assoc]; exact HST.out)
      have HPE := Lib.hid (show F.map fxM ++ (RM.filter fun y => decide (stC ⟨fp, fl, fw⟩ y.1.at_ < 0)).map (fun y => (xf, y.1)) = P by
        rw [hP]
        unfold fixG
        simp only []
        rw [← eM, List.filter_map, List.map_map]
        rfl)
      have HM := Lib.hid hM
      have HNM := Lib.hid hnm
      have HBX4 := Lib.hid (HBX.out.below hb4)
      have HG4 := Lib.hid (HG3.out.below hb4)
      have HB4 := Lib.hid (below_then HB3.out (Nat.le_refl _) hb4)
      clear hM hnm eM hb4 hP HST HBX HG3 HB3 HC33 HLA3 HL3 HT3 HMS y0 y2 y3 y4 y5 y6 y7 t0 t1 t2 HRI HLN
      go_wp2_with fail
      go_loopw [4, 22] (fun ov iv wr => ∃ (j : Nat) (F' : List Fx) (on' : Nat), j ≤ nm ∧ iv = .int .i64 j ∧ Hid (F'.map fxM ++ ((RM.drop j).filter fun y => decide (stC ⟨fp, fl, fw⟩ y.1.at_ < 0)).map (fun y => (xf, y.1)) = P) ∧ Hid (GrowF wr W2.heap.size ov on' F') ∧ on' ≤ k * 1000 + j ∧ Hid (MRow wr (.slice mo nm mc) RM) ∧ Hid (BoxY wr k6 XX) ∧ Hid (RowKit.Below W2.heap.size W2 wr)) (fun _ iv _ => nm - (intOf iv).toNat)
      case atStart => exact ⟨0, F, on, by omega, rfl, HPE, HG4, by omega, HM, HBX4, HB4⟩
      case round =>
        clear HG4 HM HBX4 HB4 HPE hl hgr
        obtain ⟨j, F', on', hj, rfl, hput, hgr, hon', hmr, hbx, hl⟩ := hrel
        by_cases hlt2 : j < nm
        · have hjr : j < RM.length := by have := HNM.out; omega
          obtain ⟨z, hz⟩ : ∃ x, RM[j]? = some x := ⟨_, List.getElem?_eq_getElem hjr⟩
          have hze : RM[j] = z := (List.getElem?_eq_some_iff.1 hz).2
          have hzm := List.mem_of_getElem? hz
          have hzo := hmr.out.over z hzm
          obtain ⟨zb, zoff, hmo, hat⟩ := hmr.out.at_ hz
          cases hmo
          have hst := hput.out
          obtain ⟨D, hD⟩ : ∃ D, D = decide (stC ⟨fp, fl, fw⟩ z.1.at_ < 0) := ⟨_, rfl⟩
          rw [List.drop_eq_getElem_cons hjr, hze, fix_step xf ⟨fp, fl, fw⟩ z _ D hD] at hst
          have HLS := Lib.hid (fun W => stless_any ⟨fp, fl, fw⟩ z.1.at_ W)
          rw [← hD] at HLS
          have HZR := Lib.hid (HRM.out z hzm)
          have HST := Lib.hid hst
          obtain ⟨ZZ, hZZ⟩ : ∃ Z : Ro, Z = z := ⟨_, rfl⟩
          have HZZ := Lib.hid hZZ
          obtain ⟨W5, hW5⟩ : ∃ W, W = wr.alloc (.cells (enM z).toArray 35) := ⟨_, rfl⟩
          have hb5 : RowKit.Below wr.heap.size wr W5 := by rw [hW5]; exact (Below.refl _ _).alloc (Nat.le_refl _) _
          have HA5 := Lib.hid (show At W5 wr.heap.size 0 ZZ by rw [hW5, hZZ]; exact At.new wr _ z)
          have HZO := Lib.hid (hzo.below hb5)
          have HG5 := Lib.hid (hgr.out.below hb5)
          have HM5 := Lib.hid (hmr.out.below hb5)
          have HBX5 := Lib.hid (hbx.out.below hb5)
          have HB5 := Lib.hid (below_then hl.out (Nat.le_refl _) hb5)
          obtain ⟨zo, zc, ez, -, -⟩ := Over.form hzo
          have HAT := Lib.hid hat
          clear hZZ hD hzm hzo hz hze hst hput hb5 hat hgr hmr hbx
          obtain ⟨⟨at1, ak1, akey1, afin1, aval1, aex1, ⟨ap1, al1, aw1⟩, aov1⟩, av1⟩ := z
          simp only [] at ez
          obtain ⟨zn, hzn⟩ : ∃ k, k = aov1.length := ⟨_, rfl⟩
          rw [← hzn] at ez
          subst ez
          clear hzn
          unfold enM at hW5
          unfold vS at HLS
          simp only [] at HLS hW5
          obtain ⟨hbl2, a0, a1, a2, a3, a4, a5, a6, a7, a8, a9⟩ := HAT.out
          simp only [] at a0 a1 a2 a3 a4 a5 a6 a7 a8 a9
          have HW5 := Lib.hid hW5
          clear hW5
          have i0 : (0 : Int) ≤ (j : Int) := by omega
          have i1 : (j : Int) < (nm : Int) := by omega
          go_upto_region 9 with fail
          rw [← HW5.out]
          clear HW5 a0 a1 a2 a3 a4 a5 a6 a7 a8 a9
          obtain ⟨k8, hk8⟩ : ∃ k, k = wr.heap.size := ⟨_, rfl⟩
          rw [← hk8] at HA5 ⊢
          clear hk8
          have hbx := HBX5.out.cells
          rw [HXX.out] at hbx
          obtain ⟨y0, y2, y3, y4, y5, y6, y7⟩ := hbx
          simp only [] at y0 y2 y3 y4 y5 y6 y7
          have hA := HA5.out
          rw [HZZ.out] at hA
          obtain ⟨hbl3, a0, a1, a2, a3, a4, a5, a6, a7, a8, a9⟩ := hA
          simp only [Nat.zero_add] at a0 a1 a2 a3 a4 a5 a6 a7 a8 a9
          go_wp2_with fail
          refine (HLS.out W5).mono ?_
          rintro e w6 ⟨rfl, hb6⟩
          have HG6 := Lib.hid (HG5.out.below hb6.below)
          have HM6 := Lib.hid (HM5.out.below hb6.below)
          have HBX6 := Lib.hid (HBX5.out.below hb6.below)
          have HB6 := Lib.hid (below_then HB5.out (Nat.le_refl _) hb6.below)
          have HA6 := Lib.hid (HA5.out.below hb6.below)
          have HZO6 := Lib.hid (HZO.out.below hb6.below)
          clear hb6 y0 y2 y3 y4 y5 y6 y7 a0 a1 a2 a3 a4 a5 a6 a7 a8 a9 hbl3 HG5 HM5 HBX5 HB5 HA5 HZO
          cases D
          · have HS2 := Lib.hid (show F'.map fxM ++ ((RM.drop (j + 1)).filter fun y => decide (stC ⟨fp, fl, fw⟩ y.1.at_ < 0)).map (fun y => (xf, y.1)) = P from HST.out)
            go_wp2_with fail
            go_roundw
            case rel => exact ⟨j + 1, F', on', by omega, by go_num, HS2, HG6, by omega, HM6, HBX6, HB6⟩
            case measure => simp [intOf]; omega
          · have HS2 := Lib.hid (show (F' ++ [(xf, ZZ)]).map fxM ++ ((RM.drop (j + 1)).filter fun y => decide (stC ⟨fp, fl, fw⟩ y.1.at_ < 0)).map (fun y => (xf, y.1)) = P by
              rw [← HST.out, List.map_append, List.append_assoc, HZZ.out]; rfl)
            have hbx := HBX6.out.cells
            rw [HXX.out] at hbx
            obtain ⟨y0, -⟩ := hbx
            simp only [] at y0
            have hA := HA6.out
            rw [HZZ.out] at hA
            obtain ⟨hbl3, a0, a1, a2, a3, a4, a5, a6, a7, a8, a9⟩ := hA
            simp only [Nat.zero_add] at a0 a1 a2 a3 a4 a5 a6 a7 a8 a9
            have hsz := HB6.out.size
            have HB7 := Lib.hid ((Below.refl w6.heap.size w6).alloc (Nat.le_refl _) (.cells #[.int .i64 xf, .int .i64 at1, .int .i64 ak1, .string akey1, .string afin1, .string aval1, .int .i64 aex1, .int .i64 ap1, .int .i64 al1, .int .i64 aw1, .slice zo zn zc] 74))
            have hone : ∃ ao n c, ((xf, ZZ) : Fx).2.2 = .slice ao n c := ⟨zo, zn, zc, by rw [HZZ.out]⟩
            go_wp2_with (at_builtin; refine wpList_append_fix rfl (.tmp 31) (.tmp 36) rfl W2.heap.size u4 on' _ rfl (HG6.out.below HB7.out).row ⟨w6.heap.size, 0, none⟩ (xf, ZZ) rfl (by rw [HZZ.out]; exact new_cells w6 (enF (xf, _)) _) hone (by omega) (by simp; omega) ?_)
            intro v8 w8 hsp hg8 hk8
            have HG8 := Lib.hid ((HG6.out.below HB7.out).more (x := (xf, ZZ)) ((show Over w6 ZZ by rw [HZZ.out]; exact HZO6.out).below HB7.out) (by rw [HZZ.out]; exact HZR.out) hsp hk8 hg8.size)
            have HM8 := Lib.hid (mrow_keptF (HM6.out.below HB7.out) HRM.out (HG6.out.below HB7.out) hk8 hg8.size)
            have HBX8 := Lib.hid ((HBX6.out.below HB7.out).beside (HG6.out.below HB7.out).row hg8)
            have HB8 := Lib.hid ((below_then HB6.out (Nat.le_refl _) HB7.out).grown hg8 (by simp; omega) (fun k hk => ((HG6.out.below HB7.out).row.own.lt k hk).1))
            clear hsp hg8 hk8 y0 a0 a1 a2 a3 a4 a5 a6 a7 a8 a9 hbl3
            go_wp2_with fail
            go_roundw
            case rel => exact ⟨j + 1, _, on' + 1, by omega, by go_num, HS2, HG8, by omega, HM8, HBX8, HB8⟩
            case measure => simp [intOf]; omega
        · obtain rfl : j = nm := by omega
          have HE := Lib.hid (show F'.map fxM = P by have h := hput.out; rw [List.drop_of_length_le (by have := HNM.out; omega)] at h; simpa using h)
          have HST3 := Lib.hid (show F'.map fxM ++ (R.drop (k + 1)).flatMap (fixG all) = Q by rw [HE.out]; exact HST2.out)
          go_wp2_with fail
          go_roundw
          case rel => exact ⟨k + 1, F', on', by omega, by go_num, HST3, hgr, by omega, hl⟩
          case measure => simp [intOf]; omega
    · obtain rfl : k = n := by omega
      have HE := Lib.hid (show F.map fxM = Q by have h := hput.out; rw [List.drop_of_length_le (by have := HN.out; omega)] at h; simpa using h)
      go_wp2_with fail
      go_ret
      exact ⟨_, F, rfl, HE.out, hgr.out.frow, hgr.out.right, below_then HB2.out (Nat.le_refl _) hl.out⟩
end Go.Proofs.YtipoeigehabbmaaGreatDoor.Mut
