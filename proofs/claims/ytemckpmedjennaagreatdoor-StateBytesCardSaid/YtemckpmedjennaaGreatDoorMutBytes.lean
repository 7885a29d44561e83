/- The bytes of a text, of a stamp, of a mutation, behind the bytes of a row of the call's own (layers 3, 7). PRINTED by wip/genmutput.py. -/
import Derived.Test.YtemckpmedjennaaGreatDoorMrkOnto
import Derived.Test.YtemckpmedjennaaGreatDoorRegLin
import Derived.Test.YtemckpmedjennaaGreatDoorMutRows
set_option linter.unusedSimpArgs false
set_option linter.unusedVariables false
namespace Go.Proofs.YtemckpmedjennaaGreatDoor.Mrk
open Go.RowKit Go.Proofs.YtemckpmedjennaaGreatDoor.Spare Go.Proofs.YtemckpmedjennaaGreatDoor.RegInv
set_option linter.unusedSectionVars false

/-! ## Bytes -/
def strL (s : ByteArray) : List Nat := s.data.toList.map UInt8.toNat
theorem strL_len (s : ByteArray) : (strL s).length = s.size := by
  unfold strL
  rw [List.length_map, Array.length_toList]
  rfl
theorem strL_cells (s : ByteArray) : (strL s).flatMap enB = Lib.strCells s := by
  unfold strL Lib.strCells
  rw [flat_enB, List.map_map]
  rfl
def textF (s : ByteArray) : List Nat := putF s.size ++ strL s
def stF (s : Mut.Stp) : List Nat := putF s.p.toNat ++ (putF s.l.toNat ++ putF s.w.toNat)

/-! ## A row that grows beside a variable -/
/-- What holds while the row grows: all but the row stays, and the variable at k. -/
structure BoxG (w0 : World) (row : Option Nat) (k : Nat) (o : Array Value) (ty : TypeId) (W : World) : Prop where
  grown : w0.grownBy W row
  box : W.heap[k]? = some (.cells o ty (0, 0))
theorem BoxG.later {w0 W w1 : World} {row : Option Nat} {k : Nat} {o : Array Value} {ty : TypeId} (h : BoxG w0 row k o ty W) (hb : Below W.heap.size W w1) : BoxG w0 row k o ty w1 :=
  ⟨h.grown.andThen (grown_below (row := none) hb) (fun j hj => by cases hj), (hb.block k (Array.getElem?_eq_some_iff.1 h.box).1).trans h.box⟩
theorem BoxG.cell {w0 W : World} {row : Option Nat} {k : Nat} {o : Array Value} {ty : TypeId} (h : BoxG w0 row k o ty W) (i : Nat) : W.cell? ⟨k, i, none⟩ = o[i]? := cell_of_row W k i o ty (0, 0) h.box
/-- The row, and where it lies. -/
def RowG (w0 : World) (base : Nat) (v0 : Value) (l : List Nat) (v : Value) (W : World) : Prop := OwnB W base v l ∧ SpareLoc w0 v0 v
theorem OwnB.below {w w' : World} {base : Nat} {v : Value} {l : List Nat} (h : OwnB w base v l) (hb : Below w.heap.size w w') : OwnB w' base v l :=
  World.ownsRow.kept h (grown_below (row := none) hb) (by cases v.ownBlock <;> simp)
theorem RowG.below {w0 W W' : World} {base : Nat} {v0 v : Value} {l : List Nat} (h : RowG w0 base v0 l v W) (hb : Below W.heap.size W W') : RowG w0 base v0 l v W' := ⟨h.1.below hb, h.2⟩
def sRow (w0 : World) (base : Nat) (v0 : Value) (l : List Nat) : RSpec := sOne (RowG w0 base v0 l) (fun _ _ _ h hb => h.below hb)
theorem rowG_next {w0 W w1 : World} {base k : Nat} {o : Array Value} {ty : TypeId} {v0 v v' : Value} {l l' : List Nat} (hc : BoxG w0 v0.ownBlock k o ty W) (hty : ty ≠ 5) (hr : RowG w0 base v0 l v W)
    (h1 : OwnB w1 base v' l') (h2 : W.grownBy w1 v.ownBlock) (h3 : SpareLoc W v v') : BoxG w0 v0.ownBlock k o ty w1 ∧ RowG w0 base v0 l' v' w1 := by
  have hne : some k ≠ v.ownBlock := fun e => by
    rcases hr.1.2 with ⟨rfl, _⟩ | ⟨g, cap, cur, rfl, _, hg, _⟩
    · cases e
    · have e2 : k = g := by simpa [Value.ownBlock] using e
      subst e2
      rw [hc.box] at hg
      simp at hg
      exact hty hg.2
  refine ⟨⟨hc.grown.andThen h2 (fun j hj => (hr.2 j hj).symm), (h2.block k (Array.getElem?_eq_some_iff.1 hc.box).1 hne).trans hc.box⟩, h1, fun g hg => ?_⟩
  rcases h3 g hg with h | h
  · exact hr.2 g h
  · exact Or.inr (Nat.le_trans hc.grown.size h)
theorem OwnB.base_le {w : World} {base : Nat} {v : Value} {l : List Nat} (h : OwnB w base v l) : True := trivial

set_option maxHeartbeats 2000000 in
set_option maxRecDepth 100000 in
theorem text_onto (s : ByteArray) (base : Nat) (v : Value) (bs : List Nat) (w : World) (hs : s.size ≤ 1000000) (hv : OwnB w base v bs) (hbase : base ≤ w.heap.size) (hbs : bs.length ≤ 1000000) :
    Calls Tryz.prog 125 #[v, .string s] w (OnPost base v (bs ++ textF s) w) := by
  obtain ⟨i0, hi, hz0, hz1, hz2⟩ := info_parts_B
  have HI := Lib.hid (And.intro hi (And.intro hz0 (And.intro hz1 hz2)))
  clear hi hz0 hz1 hz2
  have HP := Lib.hid (put_onto s.size base v bs w (by omega) hv hbase hbs)
  have hten := putF_ten (n := s.size) (by omega)
  obtain ⟨L, hL⟩ : ∃ l, l = bs ++ putF s.size := ⟨_, rfl⟩
  have hLl : L.length ≤ 2000000 := by rw [hL, List.length_append]; omega
  have HL := Lib.hid (show bs ++ textF s = L ++ strL s from by rw [hL]; unfold textF; rw [List.append_assoc])
  rw [← hL] at HP
  clear hL
  have HV := Lib.hid (show ∀ k, v.ownBlock = some k → base ≤ k ∧ k < w.heap.size from fun k hk => World.ownsRow.lt hv k hk)
  clear hv
  go_enter Tryz.func125, Tryz.ntmps125
  go_wp2_with fail
  refine HP.out.mono ?_
  rintro e w1 ⟨v1, rfl, g1, g2, g3⟩
  have G1 := Lib.hid g1
  have G2 := Lib.hid g2
  have G3 := Lib.hid g3
  have hb1 : base ≤ w1.heap.size := Nat.le_trans hbase g2.size
  clear g1 g2 g3
  go_wp2_with (at_builtin; refine wpList_append_string_loc rfl _ _ 74 9 rfl base 5 i0 Tryz.underlying74 Tryz.underlying9 HI.out.1 HI.out.2.1 HI.out.2.2.1 HI.out.2.2.2 v1 L.length (L.flatMap enB) rfl G1.out s rfl (by unfold maxLen; omega) (by omega) hb1 ?_)
  intro v2 w2 h1 h2 h3
  have H1 := Lib.hid (show OwnB w2 base v2 (L ++ strL s) from by unfold OwnB; rw [List.length_append, strL_len, List.flatMap_append, strL_cells]; exact h1)
  have H2 := Lib.hid h2
  have H3 := Lib.hid h3
  clear h1 h2 h3
  go_wp2_with fail
  go_ret
  refine ⟨_, rfl, by rw [HL.out]; exact H1.out, G2.out.andThen H2.out (fun j hj => (G3.out j hj).symm), fun g hg => ?_⟩
  rcases H3.out g hg with h | h
  · exact G3.out g h
  · exact Or.inr (Nat.le_trans G2.out.size h)

set_option maxHeartbeats 4000000 in
set_option maxRecDepth 100000 in
theorem stamp_onto (p l h base : Nat) (v : Value) (bs : List Nat) (w : World) (hp1 : p < 9223372036854775808) (hl1 : l < 9223372036854775808) (hh1 : h < 9223372036854775808) (hv : OwnB w base v bs) (hbase : base ≤ w.heap.size) (hbs : bs.length ≤ 900000) :
    Calls Tryz.prog 152 #[v, .agg #[.int .i64 p, .int .i64 l, .int .i64 h]] w (OnPost base v (((bs ++ putF p) ++ putF l) ++ putF h) w) := by
  obtain ⟨vo, vc, rfl⟩ := hv.form
  obtain ⟨w0, hw0⟩ : ∃ W, W = w.alloc (.cells #[.int .i64 p, .int .i64 l, .int .i64 h] 25) := ⟨_, rfl⟩
  obtain ⟨k3, hk3⟩ : ∃ k, k = w.heap.size := ⟨_, rfl⟩
  obtain ⟨kb, hkb⟩ : ∃ k, k = bs.length := ⟨_, rfl⟩
  rw [← hkb] at hv ⊢
  have HBX := Lib.hid (show BoxG w0 (Value.slice vo kb vc).ownBlock k3 #[.int .i64 p, .int .i64 l, .int .i64 h] 25 w0.drew from ⟨World.grownBy.andThen (World.grownBy.refl _ _) (grown_below (row := none) (Below.refl _ _).drew) (fun j hj => by cases hj), by rw [hw0, hk3]; exact heap_alloc_new w _⟩)
  have HRW := Lib.hid (show RowG w0 base (.slice vo kb vc) bs (.slice vo kb vc) w0.drew from by
    refine ⟨?_, fun g hg => Or.inl hg⟩
    rw [hw0]
    exact (hv.below ((Below.refl _ _).alloc (Nat.le_refl _) _)).below (Below.refl _ _).drew)
  have HBS := Lib.hid (show base ≤ w0.heap.size from by rw [hw0]; simp; omega)
  have HTY := Lib.hid (show 25 ≠ 5 from by decide)
  have HW0 := Lib.hid hw0
  have HK3 := Lib.hid hk3
  have HOUT := Lib.hid (show ∀ W v1 l1, BoxG w0 (Value.slice vo kb vc).ownBlock k3 #[.int .i64 p, .int .i64 l, .int .i64 h] 25 W → RowG w0 base (.slice vo kb vc) l1 v1 W → OnPost base (.slice vo kb vc) l1 w (.returned v1) W from fun W v1 l1 h1 h2 => by
    refine ⟨v1, rfl, h2.1, World.grownBy.andThen (by rw [hw0]; exact World.grownBy_alloc w _ _) h1.grown (fun j hj => Or.inr hj), fun g hg => ?_⟩
    rcases h2.2 g hg with h | h
    · exact Or.inl h
    · refine Or.inr (Nat.le_trans ?_ h); rw [hw0]; simp)
  have hcm : ∀ a b, BoxG w0 (Value.slice vo kb vc).ownBlock k3 #[.int .i64 p, .int .i64 l, .int .i64 h] 25 a → Below a.heap.size a b → BoxG w0 (Value.slice vo kb vc).ownBlock k3 #[.int .i64 p, .int .i64 l, .int .i64 h] 25 b := fun a b h hb => h.later hb
  clear hw0 hk3 hv hkb
  have t1 := putF_ten (n := p) (by omega)
  have t2 := putF_ten (n := l) (by omega)
  obtain ⟨l1, hl1'⟩ : ∃ x, x = bs ++ putF p := ⟨_, rfl⟩
  obtain ⟨l2, hl2⟩ : ∃ x, x = l1 ++ putF l := ⟨_, rfl⟩
  obtain ⟨l3, hl3⟩ : ∃ x, x = l2 ++ putF h := ⟨_, rfl⟩
  have n1 : l1.length ≤ 900010 := by rw [hl1', List.length_append]; omega
  have n2 : l2.length ≤ 900020 := by rw [hl2, List.length_append]; omega
  rw [← hl1', ← hl2, ← hl3]
  have HL1 := Lib.hid hl1'
  have HL2 := Lib.hid hl2
  have HL3 := Lib.hid hl3
  have hpr : ∀ (j : Nat) (a b : World), (j = 3 → (fun W => RowG w0 base (.slice vo kb vc) bs (.slice vo kb vc) W) a) → Below a.heap.size a b → (j = 3 → (fun W => RowG w0 base (.slice vo kb vc) bs (.slice vo kb vc) W) b) := fun j a b h hb e => (h e).below hb
  clear hl1' hl2 hl3 t1 t2
  go_enter Tryz.func152, Tryz.ntmps152
  go_upto_region 1 with fail
  rw [← HW0.out, ← HK3.out]
  clear HW0 HK3
  refine RegLin.wp_region_lin (RegLin.useL [(3, 6), (6, 9)]) (fun W => BoxG w0 (Value.slice vo kb vc).ownBlock k3 #[.int .i64 p, .int .i64 l, .int .i64 h] 25 W) (fun j W => j = 3 → (fun W => RowG w0 base (.slice vo kb vc) bs (.slice vo kb vc) W) W) 10 [false, false, false, false, false, true, true, true, true, true, true, true, true, true, true]
    [sLit (.slice vo kb vc),
    sLit (.pointer (some ⟨k3, 0, none⟩)),
    sLit (.int .i64 p),
    sRow w0 base (.slice vo kb vc) (l1),
    sLit (.pointer (some ⟨k3, 1, none⟩)),
    sLit (.int .i64 l),
    sRow w0 base (.slice vo kb vc) (l2),
    sLit (.pointer (some ⟨k3, 2, none⟩)),
    sLit (.int .i64 h),
    sRow w0 base (.slice vo kb vc) (l3)] (HBX.out) (fun j _ _ => HRW.out) (by kernel_rfl) (by kernel_rfl) (by kernel_rfl) (by kernel_rfl) (fun F hF => ?_)
  simp only [over, overL, Nat.reduceAdd] at hF
  obtain rfl := funext hF
  clear hF
  refine ⟨⟨?_, ?_, ?_, ?_, ?_, ?_, ?_, ?_, ?_, ?_, trivial⟩, ?_⟩
  · intro V W hc hp hd K hK _
    clear hd
    go_wp2_with fail
    refine hK _ _ ?_ ?_ ?_
    · rfl
    · exact RegLin.keeps_below hcm hpr hc (Below.refl _ _)
    · exact rfl
  · intro V W hc hp hd K hK _
    clear hd
    go_wp2_with fail
    refine hK _ _ ?_ ?_ ?_
    · rfl
    · exact RegLin.keeps_below hcm hpr hc (Below.refl _ _)
    · exact rfl
  · intro V W hc hp hd K hK _
    have h1 : (V 6) = .pointer (some ⟨k3, 0, none⟩) := hd 1 (by decide) (by kernel_rfl) (RegLin.useL_ok (by kernel_rfl))
    clear hd
    obtain ⟨m0, m1, m2⟩ := (And.intro (hc.cell 0) (And.intro (hc.cell 1) (hc.cell 2)))
    go_wp2_with fail
    refine hK _ _ ?_ ?_ ?_
    · rfl
    · exact RegLin.keeps_below hcm hpr hc (Below.refl _ _)
    · exact rfl
  · intro V W hc hp hd K hK _
    have h0 : (V 5) = .slice vo kb vc := hd 0 (by decide) (by kernel_rfl) (RegLin.useL_ok (by kernel_rfl))
    have h2 : (V 7) = .int .i64 p := hd 2 (by decide) (by kernel_rfl) (RegLin.useL_ok (by kernel_rfl))
    clear hd
    skip
    have hr : RowG w0 base (.slice vo kb vc) _ _ W := (hp rfl)
    have hbw : base ≤ W.heap.size := Nat.le_trans HBS.out hc.grown.size
    have HR := Lib.hid hr
    have HC := Lib.hid hc
    clear hr hp hc
    go_wp2_with fail
    refine ((by have h := put_onto p base _ bs W hp1 HR.out.1 hbw (by omega); rw [← HL1.out] at h; exact h : Calls _ _ _ W (OnPost base _ l1 W))).mono ?_
    rintro e w1 ⟨v1, rfl, g1, g2, g3⟩
    have hN := rowG_next HC.out HTY.out HR.out g1 g2 g3
    go_wp2_with fail
    refine hK _ _ ?_ ?_ ?_
    · rfl
    · refine RegLin.keeps_by hN.1 (by kernel_rfl) (fun j hj hne hl h => ?_)
      match j, hj, hne, hl, h with
      | 0, _, _, _, h => exact h
      | 1, _, _, _, h => exact h
      | 2, _, _, _, h => exact h
      | 3, _, hne, _, _ => exact absurd rfl hne
      | 4, _, _, _, h => exact h
      | 5, _, _, _, h => exact h
      | 6, _, _, hl, _ => exact Bool.noConfusion (hl.symm.trans (show RegLin.liveB _ 10 [(3, 6), (6, 9)] 3 6 = false from by kernel_rfl))
      | 7, _, _, _, h => exact h
      | 8, _, _, _, h => exact h
      | 9, _, _, hl, _ => exact Bool.noConfusion (hl.symm.trans (show RegLin.liveB _ 10 [(3, 6), (6, 9)] 3 9 = false from by kernel_rfl))
      | j + 10, hj, _, _, _ => exact absurd hj (by omega)
    · exact hN.2
  · intro V W hc hp hd K hK _
    clear hd
    go_wp2_with fail
    refine hK _ _ ?_ ?_ ?_
    · rfl
    · exact RegLin.keeps_below hcm hpr hc (Below.refl _ _)
    · exact rfl
  · intro V W hc hp hd K hK _
    have h4 : (V 9) = .pointer (some ⟨k3, 1, none⟩) := hd 4 (by decide) (by kernel_rfl) (RegLin.useL_ok (by kernel_rfl))
    clear hd
    obtain ⟨m0, m1, m2⟩ := (And.intro (hc.cell 0) (And.intro (hc.cell 1) (hc.cell 2)))
    go_wp2_with fail
    refine hK _ _ ?_ ?_ ?_
    · rfl
    · exact RegLin.keeps_below hcm hpr hc (Below.refl _ _)
    · exact rfl
  · intro V W hc hp hd K hK _
    have h3 : RowG w0 base (.slice vo kb vc) (l1) (V 8) W := hd 3 (by decide) (by kernel_rfl) (RegLin.useL_ok (by kernel_rfl))
    have h5 : (V 10) = .int .i64 l := hd 5 (by decide) (by kernel_rfl) (RegLin.useL_ok (by kernel_rfl))
    clear hd
    skip
    have hr : RowG w0 base (.slice vo kb vc) _ _ W := h3
    have hbw : base ≤ W.heap.size := Nat.le_trans HBS.out hc.grown.size
    have HR := Lib.hid hr
    have HC := Lib.hid hc
    clear hr hp hc h3
    go_wp2_with fail
    refine ((by have h := put_onto l base _ l1 W hl1 HR.out.1 hbw (by omega); rw [← HL2.out] at h; exact h : Calls _ _ _ W (OnPost base _ l2 W))).mono ?_
    rintro e w1 ⟨v1, rfl, g1, g2, g3⟩
    have hN := rowG_next HC.out HTY.out HR.out g1 g2 g3
    go_wp2_with fail
    refine hK _ _ ?_ ?_ ?_
    · rfl
    · refine RegLin.keeps_by hN.1 (by kernel_rfl) (fun j hj hne hl h => ?_)
      match j, hj, hne, hl, h with
      | 0, _, _, _, h => exact h
      | 1, _, _, _, h => exact h
      | 2, _, _, _, h => exact h
      | 3, _, _, hl, _ => exact Bool.noConfusion (hl.symm.trans (show RegLin.liveB _ 10 [(3, 6), (6, 9)] 6 3 = false from by kernel_rfl))
      | 4, _, _, _, h => exact h
      | 5, _, _, _, h => exact h
      | 6, _, hne, _, _ => exact absurd rfl hne
      | 7, _, _, _, h => exact h
      | 8, _, _, _, h => exact h
      | 9, _, _, hl, _ => exact Bool.noConfusion (hl.symm.trans (show RegLin.liveB _ 10 [(3, 6), (6, 9)] 6 9 = false from by kernel_rfl))
      | j + 10, hj, _, _, _ => exact absurd hj (by omega)
    · exact hN.2
  · intro V W hc hp hd K hK _
    clear hd
    go_wp2_with fail
    refine hK _ _ ?_ ?_ ?_
    · rfl
    · exact RegLin.keeps_below hcm hpr hc (Below.refl _ _)
    · exact rfl
  · intro V W hc hp hd K hK _
    have h7 : (V 12) = .pointer (some ⟨k3, 2, none⟩) := hd 7 (by decide) (by kernel_rfl) (RegLin.useL_ok (by kernel_rfl))
    clear hd
    obtain ⟨m0, m1, m2⟩ := (And.intro (hc.cell 0) (And.intro (hc.cell 1) (hc.cell 2)))
    go_wp2_with fail
    refine hK _ _ ?_ ?_ ?_
    · rfl
    · exact RegLin.keeps_below hcm hpr hc (Below.refl _ _)
    · exact rfl
  · intro V W hc hp hd K hK _
    have h6 : RowG w0 base (.slice vo kb vc) (l2) (V 11) W := hd 6 (by decide) (by kernel_rfl) (RegLin.useL_ok (by kernel_rfl))
    have h8 : (V 13) = .int .i64 h := hd 8 (by decide) (by kernel_rfl) (RegLin.useL_ok (by kernel_rfl))
    clear hd
    skip
    have hr : RowG w0 base (.slice vo kb vc) _ _ W := h6
    have hbw : base ≤ W.heap.size := Nat.le_trans HBS.out hc.grown.size
    have HR := Lib.hid hr
    have HC := Lib.hid hc
    clear hr hp hc h6
    go_wp2_with fail
    refine ((by have h := put_onto h base _ l2 W hh1 HR.out.1 hbw (by omega); rw [← HL3.out] at h; exact h : Calls _ _ _ W (OnPost base _ l3 W))).mono ?_
    rintro e w1 ⟨v1, rfl, g1, g2, g3⟩
    have hN := rowG_next HC.out HTY.out HR.out g1 g2 g3
    go_wp2_with fail
    refine hK _ _ ?_ ?_ ?_
    · rfl
    · refine RegLin.keeps_by hN.1 (by kernel_rfl) (fun j hj hne hl h => ?_)
      match j, hj, hne, hl, h with
      | 0, _, _, _, h => exact h
      | 1, _, _, _, h => exact h
      | 2, _, _, _, h => exact h
      | 3, _, _, hl, _ => exact Bool.noConfusion (hl.symm.trans (show RegLin.liveB _ 10 [(3, 6), (6, 9)] 9 3 = false from by kernel_rfl))
      | 4, _, _, _, h => exact h
      | 5, _, _, _, h => exact h
      | 6, _, _, hl, _ => exact Bool.noConfusion (hl.symm.trans (show RegLin.liveB _ 10 [(3, 6), (6, 9)] 9 6 = false from by kernel_rfl))
      | 7, _, _, _, h => exact h
      | 8, _, _, _, h => exact h
      | 9, _, hne, _, _ => exact absurd rfl hne
      | j + 10, hj, _, _, _ => exact absurd hj (by omega)
    · exact hN.2
  · intro V W hc hd
    have h9 : RowG w0 base (.slice vo kb vc) (l3) (V 14) W := hd 9 (by decide) rfl
    clear hd
    simp only [List.drop_succ_cons, List.drop_zero]
    have H9 := Lib.hid h9
    have HC := Lib.hid hc
    clear h9 hc
    go_wp2_with fail
    go_ret
    exact HOUT.out _ _ _ HC.out H9.out
end Go.Proofs.YtemckpmedjennaaGreatDoor.Mrk
