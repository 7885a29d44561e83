/- The bytes of a text, of a stamp, of a mutation, behind the bytes of a row of the call's own (layers 3, 7). PRINTED by wip/genmutput.py. · The bytes of a stamp in a version (layer 17): verse.put, as mut.put. · A reader of bytes, in plain Lean: numbers, texts, counts (layer 3). · wire.Reader: what it is in memory; Fail, Why, At, Left, Num (layer 3). · wire.Reader: New, Count (layer 3). · wire.Reader.Text (layer 3). PRINTED by wip/genrdtext.py. · The bytes of a version without tables (layer 17): verse.Put, verse.Same. PRINTED by wip/genrplver.py. · Layer 12 (engine), what is small: the word that names begin with, names, a file that is not there, what is kept. · Layer 12 (engine), on a disk without files: the version, the tables and the log of a new engine. · Layer 11 (disk): the names of the files, sorted. · Layer 11 (disk): the names of a disk without files: none. · Layer 12 (engine), on a disk without files: the files of a version without tables; no orphans. PRINTED by wip/genengorph.py. · Layer 12 (engine): Open on a disk without files. -/
import Derived.Test.YtmjelcjdfamikaaGreatDoorMrkOnto
import Derived.Test.YtmjelcjdfamikaaGreatDoorRegLin
import Derived.Test.YtmjelcjdfamikaaGreatDoorMutRows
import Derived.Test.YtmjelcjdfamikaaGreatDoorMrkPlain
import Derived.Laws.BitsAllLaws
import Derived.Test.YtmjelcjdfamikaaGreatDoorCalmTail
import Derived.Test.YtmjelcjdfamikaaGreatDoorMrkSum
import Derived.Test.YtmjelcjdfamikaaGreatDoorLstMore
import Derived.Test.YtmjelcjdfamikaaGreatDoorRegApp
import Derived.Laws.BytesString
import Derived.Laws.Cells
import Derived.Test.YtmjelcjdfamikaaGreatDoorPkB
import Derived.Test.YtmjelcjdfamikaaGreatDoorMutRights
import Derived.Test.YtmjelcjdfamikaaGreatDoorAppFull
import Derived.Laws.EntriesVeiled
set_option linter.unusedSimpArgs false
set_option linter.unusedVariables false
namespace Go.Proofs.YtmjelcjdfamikaaGreatDoor.Mrk
open Go.RowKit Go.Proofs.YtmjelcjdfamikaaGreatDoor.Spare Go.Proofs.YtmjelcjdfamikaaGreatDoor.RegInv
set_option linter.unusedSectionVars false

/-! ## Bytes -/
def strL (s : ByteArray) : List Nat := s.data.toList.map UInt8.toNat
theorem strL_len (s : ByteArray) : (strL s).length = s.size := by
  unfold strL
  rw [List.length_map, Array.length_toList]
  rfl
theorem strL_cells (s : ByteArray) : (strL s).flatMap enB = Lib.strCells s := by
  unfold strL Lib.strCells
  rw [flat_enB, List.map_map]
  rfl
def textF (s : ByteArray) : List Nat := putF s.size ++ strL s
def stF (s : Mut.Stp) : List Nat := putF s.p.toNat ++ (putF s.l.toNat ++ putF s.w.toNat)

/-! ## A row that grows beside a variable -/
/-- What holds while the row grows: all but the row stays, and the variable at k. -/
structure BoxG (w0 : World) (row : Option Nat) (k : Nat) (o : Array Value) (ty : TypeId) (W : World) : Prop where
  grown : w0.grownBy W row
  box : W.heap[k]? = some (.cells o ty (0, 0))
theorem BoxG.later {w0 W w1 : World} {row : Option Nat} {k : Nat} {o : Array Value} {ty : TypeId} (h : BoxG w0 row k o ty W) (hb : Below W.heap.size W w1) : BoxG w0 row k o ty w1 :=
  ⟨h.grown.andThen (grown_below (row := none) hb) (fun j hj => by cases hj), (hb.block k (Array.getElem?_eq_some_iff.1 h.box).1).trans h.box⟩
theorem BoxG.cell {w0 W : World} {row : Option Nat} {k : Nat} {o : Array Value} {ty : TypeId} (h : BoxG w0 row k o ty W) (i : Nat) : W.cell? ⟨k, i, none⟩ = o[i]? := cell_of_row W k i o ty (0, 0) h.box
/-- The row, and where it lies. -/
def RowG (w0 : World) (base : Nat) (v0 : Value) (l : List Nat) (v : Value) (W : World) : Prop := OwnB W base v l ∧ SpareLoc w0 v0 v
theorem OwnB.below {w w' : World} {base : Nat} {v : Value} {l : List Nat} (h : OwnB w base v l) (hb : Below w.heap.size w w') : OwnB w' base v l :=
  World.ownsRow.kept h (grown_below (row := none) hb) (by cases v.ownBlock <;> simp)
theorem RowG.below {w0 W W' : World} {base : Nat} {v0 v : Value} {l : List Nat} (h : RowG w0 base v0 l v W) (hb : Below W.heap.size W W') : RowG w0 base v0 l v W' := ⟨h.1.below hb, h.2⟩
def sRow (w0 : World) (base : Nat) (v0 : Value) (l : List Nat) : RSpec := sOne (RowG w0 base v0 l) (fun _ _ _ h hb => h.below hb)
theorem rowG_next {w0 W w1 : World} {base k : Nat} {o : Array Value} {ty : TypeId} {v0 v v' : Value} {l l' : List Nat} (hc : BoxG w0 v0.ownBlock k o ty W) (hty : ty ≠ 5) (hr : RowG w0 base v0 l v W)
    (h1 : OwnB w1 base v' l') (h2 : W.grownBy w1 v.ownBlock) (h3 : SpareLoc W v v') : BoxG w0 v0.ownBlock k o ty w1 ∧ RowG w0 base v0 l' v' w1 := by
  have hne : some k ≠ v.ownBlock := fun e => by
    rcases hr.1.2 with ⟨rfl, _⟩ | ⟨g, cap, cur, rfl, _, hg, _⟩
    · cases e
    · have e2 : k = g := by simpa [Value.ownBlock] using e
      subst e2
      rw [hc.box] at hg
      simp at hg
      exact hty hg.2
  refine ⟨⟨hc.grown.andThen h2 (fun j hj => (hr.2 j hj).symm), (h2.block k (Array.getElem?_eq_some_iff.1 hc.box).1 hne).trans hc.box⟩, h1, fun g hg => ?_⟩
  rcases h3 g hg with h | h
  · exact hr.2 g h
  · exact Or.inr (Nat.le_trans hc.grown.size h)
theorem OwnB.base_le {w : World} {base : Nat} {v : Value} {l : List Nat} (h : OwnB w base v l) : True := trivial

set_option maxHeartbeats 2000000 in
set_option maxRecDepth 100000 in
theorem text_onto (s : ByteArray) (base : Nat) (v : Value) (bs : List Nat) (w : World) (hs : s.size ≤ 1000000) (hv : OwnB w base v bs) (hbase : base ≤ w.heap.size) (hbs : bs.length ≤ 1000000) :
    Calls Tryz.prog 138 #[v, .string s] w (OnPost base v (bs ++ textF s) w) := by
  obtain ⟨i0, hi, hz0, hz1, hz2⟩ := info_parts_B
  have HI := Lib.hid (And.intro hi (And.intro hz0 (And.intro hz1 hz2)))
  clear hi hz0 hz1 hz2
  have HP := Lib.hid (put_onto s.size base v bs w (by omega) hv hbase hbs)
  have hten := putF_ten (n := s.size) (by omega)
  obtain ⟨L, hL⟩ : ∃ l, l = bs ++ putF s.size := ⟨_, rfl⟩
  have hLl : L.length ≤ 2000000 := by rw [hL, List.length_append]; omega
  have HL := Lib.hid (show bs ++ textF s = L ++ strL s from by rw [hL]; unfold textF; rw [List.append_assoc])
  rw [← hL] at HP
  clear hL
  have HV := Lib.hid (show ∀ k, v.ownBlock = some k → base ≤ k ∧ k < w.heap.size from fun k hk => World.ownsRow.lt hv k hk)
  clear hv
  go_enter Tryz.func138, Tryz.ntmps138
  go_wp2_with fail
  refine HP.out.mono ?_
  rintro e w1 ⟨v1, rfl, g1, g2, g3⟩
  have G1 := Lib.hid g1
  have G2 := Lib.hid g2
  have G3 := Lib.hid g3
  have hb1 : base ≤ w1.heap.size := Nat.le_trans hbase g2.size
  clear g1 g2 g3
  go_wp2_with (at_builtin; refine wpList_append_string_loc rfl _ _ 110 9 rfl base 5 i0 Tryz.underlying110 Tryz.underlying9 HI.out.1 HI.out.2.1 HI.out.2.2.1 HI.out.2.2.2 v1 L.length (L.flatMap enB) rfl G1.out s rfl (by unfold maxLen; omega) (by omega) hb1 ?_)
  intro v2 w2 h1 h2 h3
  have H1 := Lib.hid (show OwnB w2 base v2 (L ++ strL s) from by unfold OwnB; rw [List.length_append, strL_len, List.flatMap_append, strL_cells]; exact h1)
  have H2 := Lib.hid h2
  have H3 := Lib.hid h3
  clear h1 h2 h3
  go_wp2_with fail
  go_ret
  refine ⟨_, rfl, by rw [HL.out]; exact H1.out, G2.out.andThen H2.out (fun j hj => (G3.out j hj).symm), fun g hg => ?_⟩
  rcases H3.out g hg with h | h
  · exact G3.out g h
  · exact Or.inr (Nat.le_trans G2.out.size h)

set_option maxHeartbeats 4000000 in
set_option maxRecDepth 100000 in
theorem stamp_onto (p l h base : Nat) (v : Value) (bs : List Nat) (w : World) (hp1 : p < 9223372036854775808) (hl1 : l < 9223372036854775808) (hh1 : h < 9223372036854775808) (hv : OwnB w base v bs) (hbase : base ≤ w.heap.size) (hbs : bs.length ≤ 900000) :
    Calls Tryz.prog 186 #[v, .agg #[.int .i64 p, .int .i64 l, .int .i64 h]] w (OnPost base v (((bs ++ putF p) ++ putF l) ++ putF h) w) := by
  obtain ⟨vo, vc, rfl⟩ := hv.form
  obtain ⟨w0, hw0⟩ : ∃ W, W = w.alloc (.cells #[.int .i64 p, .int .i64 l, .int .i64 h] 37) := ⟨_, rfl⟩
  obtain ⟨k3, hk3⟩ : ∃ k, k = w.heap.size := ⟨_, rfl⟩
  obtain ⟨kb, hkb⟩ : ∃ k, k = bs.length := ⟨_, rfl⟩
  rw [← hkb] at hv ⊢
  have HBX := Lib.hid (show BoxG w0 (Value.slice vo kb vc).ownBlock k3 #[.int .i64 p, .int .i64 l, .int .i64 h] 37 w0.drew from ⟨World.grownBy.andThen (World.grownBy.refl _ _) (grown_below (row := none) (Below.refl _ _).drew) (fun j hj => by cases hj), by rw [hw0, hk3]; exact heap_alloc_new w _⟩)
  have HRW := Lib.hid (show RowG w0 base (.slice vo kb vc) bs (.slice vo kb vc) w0.drew from by
    refine ⟨?_, fun g hg => Or.inl hg⟩
    rw [hw0]
    exact (hv.below ((Below.refl _ _).alloc (Nat.le_refl _) _)).below (Below.refl _ _).drew)
  have HBS := Lib.hid (show base ≤ w0.heap.size from by rw [hw0]; simp; omega)
  have HTY := Lib.hid (show 37 ≠ 5 from by decide)
  have HW0 := Lib.hid hw0
  have HK3 := Lib.hid hk3
  have HOUT := Lib.hid (show ∀ W v1 l1, BoxG w0 (Value.slice vo kb vc).ownBlock k3 #[.int .i64 p, .int .i64 l, .int .i64 h] 37 W → RowG w0 base (.slice vo kb vc) l1 v1 W → OnPost base (.slice vo kb vc) l1 w (.returned v1) W from fun W v1 l1 h1 h2 => by
    refine ⟨v1, rfl, h2.1, World.grownBy.andThen (by rw [hw0]; exact World.grownBy_alloc w _ _) h1.grown (fun j hj => Or.inr hj), fun g hg => ?_⟩
    rcases h2.2 g hg with h | h
    · exact Or.inl h
    · refine Or.inr (Nat.le_trans ?_ h); rw [hw0]; simp)
  have hcm : ∀ a b, BoxG w0 (Value.slice vo kb vc).ownBlock k3 #[.int .i64 p, .int .i64 l, .int .i64 h] 37 a → Below a.heap.size a b → BoxG w0 (Value.slice vo kb vc).ownBlock k3 #[.int .i64 p, .int .i64 l, .int .i64 h] 37 b := fun a b h hb => h.later hb
  clear hw0 hk3 hv hkb
  have t1 := putF_ten (n := p) (by omega)
  have t2 := putF_ten (n := l) (by omega)
  obtain ⟨l1, hl1'⟩ : ∃ x, x = bs ++ putF p := ⟨_, rfl⟩
  obtain ⟨l2, hl2⟩ : ∃ x, x = l1 ++ putF l := ⟨_, rfl⟩
  obtain ⟨l3, hl3⟩ : ∃ x, x = l2 ++ putF h := ⟨_, rfl⟩
  have n1 : l1.length ≤ 900010 := by rw [hl1', List.length_append]; omega
  have n2 : l2.length ≤ 900020 := by rw [hl2, List.length_append]; omega
  rw [← hl1', ← hl2, ← hl3]
  have HL1 := Lib.hid hl1'
  have HL2 := Lib.hid hl2
  have HL3 := Lib.hid hl3
  have hpr : ∀ (j : Nat) (a b : World), (j = 3 → (fun W => RowG w0 base (.slice vo kb vc) bs (.slice vo kb vc) W) a) → Below a.heap.size a b → (j = 3 → (fun W => RowG w0 base (.slice vo kb vc) bs (.slice vo kb vc) W) b) := fun j a b h hb e => (h e).below hb
  clear hl1' hl2 hl3 t1 t2
  go_enter Tryz.func186, Tryz.ntmps186
  go_upto_region 1 with fail
  rw [← HW0.out, ← HK3.out]
  clear HW0 HK3
  refine RegLin.wp_region_lin (RegLin.useL [(3, 6), (6, 9)]) (fun W => BoxG w0 (Value.slice vo kb vc).ownBlock k3 #[.int .i64 p, .int .i64 l, .int .i64 h] 37 W) (fun j W => j = 3 → (fun W => RowG w0 base (.slice vo kb vc) bs (.slice vo kb vc) W) W) 10 [false, false, false, false, false, true, true, true, true, true, true, true, true, true, true]
    [sLit (.slice vo kb vc),
    sLit (.pointer (some ⟨k3, 0, none⟩)),
    sLit (.int .i64 p),
    sRow w0 base (.slice vo kb vc) (l1),
    sLit (.pointer (some ⟨k3, 1, none⟩)),
    sLit (.int .i64 l),
    sRow w0 base (.slice vo kb vc) (l2),
    sLit (.pointer (some ⟨k3, 2, none⟩)),
    sLit (.int .i64 h),
    sRow w0 base (.slice vo kb vc) (l3)] (HBX.out) (fun j _ _ => HRW.out) (by kernel_rfl) (by kernel_rfl) (by kernel_rfl) (by kernel_rfl) (fun F hF => ?_)
  simp only [over, overL, Nat.reduceAdd] at hF
  obtain rfl := funext hF
  clear hF
  refine ⟨⟨?_, ?_, ?_, ?_, ?_, ?_, ?_, ?_, ?_, ?_, trivial⟩, ?_⟩
  · intro V W hc hp hd K hK _
    clear hd
    go_wp2_with fail
    refine hK _ _ ?_ ?_ ?_
    · rfl
    · exact RegLin.keeps_below hcm hpr hc (Below.refl _ _)
    · exact rfl
  · intro V W hc hp hd K hK _
    clear hd
    go_wp2_with fail
    refine hK _ _ ?_ ?_ ?_
    · rfl
    · exact RegLin.keeps_below hcm hpr hc (Below.refl _ _)
    · exact rfl
  · intro V W hc hp hd K hK _
    have h1 : (V 6) = .pointer (some ⟨k3, 0, none⟩) := hd 1 (by decide) (by kernel_rfl) (RegLin.useL_ok (by kernel_rfl))
    clear hd
    obtain ⟨m0, m1, m2⟩ := (And.intro (hc.cell 0) (And.intro (hc.cell 1) (hc.cell 2)))
    go_wp2_with fail
    refine hK _ _ ?_ ?_ ?_
    · rfl
    · exact RegLin.keeps_below hcm hpr hc (Below.refl _ _)
    · exact rfl
  · intro V W hc hp hd K hK _
    have h0 : (V 5) = .slice vo kb vc := hd 0 (by decide) (by kernel_rfl) (RegLin.useL_ok (by kernel_rfl))
    have h2 : (V 7) = .int .i64 p := hd 2 (by decide) (by kernel_rfl) (RegLin.useL_ok (by kernel_rfl))
    clear hd
    skip
    have hr : RowG w0 base (.slice vo kb vc) _ _ W := (hp rfl)
    have hbw : base ≤ W.heap.size := Nat.le_trans HBS.out hc.grown.size
    have HR := Lib.hid hr
    have HC := Lib.hid hc
    clear hr hp hc
    go_wp2_with fail
    refine ((by have h := put_onto p base _ bs W hp1 HR.out.1 hbw (by omega); rw [← HL1.out] at h; exact h : Calls _ _ _ W (OnPost base _ l1 W))).mono ?_
    rintro e w1 ⟨v1, rfl, g1, g2, g3⟩
    have hN := rowG_next HC.out HTY.out HR.out g1 g2 g3
    go_wp2_with fail
    refine hK _ _ ?_ ?_ ?_
    · rfl
    · refine RegLin.keeps_by hN.1 (by kernel_rfl) (fun j hj hne hl h => ?_)
      match j, hj, hne, hl, h with
      | 0, _, _, _, h => exact h
      | 1, _, _, _, h => exact h
      | 2, _, _, _, h => exact h
      | 3, _, hne, _, _ => exact absurd rfl hne
      | 4, _, _, _, h => exact h
      | 5, _, _, _, h => exact h
      | 6, _, _, hl, _ => exact Bool.noConfusion (hl.symm.trans (show RegLin.liveB _ 10 [(3, 6), (6, 9)] 3 6 = false from by kernel_rfl))
      | 7, _, _, _, h => exact h
      | 8, _, _, _, h => exact h
      | 9, _, _, hl, _ => exact Bool.noConfusion (hl.symm.trans (show RegLin.liveB _ 10 [(3, 6), (6, 9)] 3 9 = false from by kernel_rfl))
      | j + 10, hj, _, _, _ => exact absurd hj (by omega)
    · exact hN.2
  · intro V W hc hp hd K hK _
    clear hd
    go_wp2_with fail
    refine hK _ _ ?_ ?_ ?_
    · rfl
    · exact RegLin.keeps_below hcm hpr hc (Below.refl _ _)
    · exact rfl
  · intro V W hc hp hd K hK _
    have h4 : (V 9) = .pointer (some ⟨k3, 1, none⟩) := hd 4 (by decide) (by kernel_rfl) (RegLin.useL_ok (by kernel_rfl))
    clear hd
    obtain ⟨m0, m1, m2⟩ := (And.intro (hc.cell 0) (And.intro (hc.cell 1) (hc.cell 2)))
    go_wp2_with fail
    refine hK _ _ ?_ ?_ ?_
    · rfl
    · exact RegLin.keeps_below hcm hpr hc (Below.refl _ _)
    · exact rfl
  · intro V W hc hp hd K hK _
    have h3 : RowG w0 base (.slice vo kb vc) (l1) (V 8) W := hd 3 (by decide) (by kernel_rfl) (RegLin.useL_ok (by kernel_rfl))
    have h5 : (V 10) = .int .i64 l := hd 5 (by decide) (by kernel_rfl) (RegLin.useL_ok (by kernel_rfl))
    clear hd
    skip
    have hr : RowG w0 base (.slice vo kb vc) _ _ W := h3
    have hbw : base ≤ W.heap.size := Nat.le_trans HBS.out hc.grown.size
    have HR := Lib.hid hr
    have HC := Lib.hid hc
    clear hr hp hc h3
    go_wp2_with fail
    refine ((by have h := put_onto l base _ l1 W hl1 HR.out.1 hbw (by omega); rw [← HL2.out] at h; exact h : Calls _ _ _ W (OnPost base _ l2 W))).mono ?_
    rintro e w1 ⟨v1, rfl, g1, g2, g3⟩
    have hN := rowG_next HC.out HTY.out HR.out g1 g2 g3
    go_wp2_with fail
    refine hK _ _ ?_ ?_ ?_
    · rfl
    · refine RegLin.keeps_by hN.1 (by kernel_rfl) (fun j hj hne hl h => ?_)
      match j, hj, hne, hl, h with
      | 0, _, _, _, h => exact h
      | 1, _, _, _, h => exact h
      | 2, _, _, _, h => exact h
      | 3, _, _, hl, _ => exact Bool.noConfusion (hl.symm.trans (show RegLin.liveB _ 10 [(3, 6), (6, 9)] 6 3 = false from by kernel_rfl))
      | 4, _, _, _, h => exact h
      | 5, _, _, _, h => exact h
      | 6, _, hne, _, _ => exact absurd rfl hne
      | 7, _, _, _, h => exact h
      | 8, _, _, _, h => exact h
      | 9, _, _, hl, _ => exact Bool.noConfusion (hl.symm.trans (show RegLin.liveB _ 10 [(3, 6), (6, 9)] 6 9 = false from by kernel_rfl))
      | j + 10, hj, _, _, _ => exact absurd hj (by omega)
    · exact hN.2
  · intro V W hc hp hd K hK _
    clear hd
    go_wp2_with fail
    refine hK _ _ ?_ ?_ ?_
    · rfl
    · exact RegLin.keeps_below hcm hpr hc (Below.refl _ _)
    · exact rfl
  · intro V W hc hp hd K hK _
    have h7 : (V 12) = .pointer (some ⟨k3, 2, none⟩) := hd 7 (by decide) (by kernel_rfl) (RegLin.useL_ok (by kernel_rfl))
    clear hd
    obtain ⟨m0, m1, m2⟩ := (And.intro (hc.cell 0) (And.intro (hc.cell 1) (hc.cell 2)))
    go_wp2_with fail
    refine hK _ _ ?_ ?_ ?_
    · rfl
    · exact RegLin.keeps_below hcm hpr hc (Below.refl _ _)
    · exact rfl
  · intro V W hc hp hd K hK _
    have h6 : RowG w0 base (.slice vo kb vc) (l2) (V 11) W := hd 6 (by decide) (by kernel_rfl) (RegLin.useL_ok (by kernel_rfl))
    have h8 : (V 13) = .int .i64 h := hd 8 (by decide) (by kernel_rfl) (RegLin.useL_ok (by kernel_rfl))
    clear hd
    skip
    have hr : RowG w0 base (.slice vo kb vc) _ _ W := h6
    have hbw : base ≤ W.heap.size := Nat.le_trans HBS.out hc.grown.size
    have HR := Lib.hid hr
    have HC := Lib.hid hc
    clear hr hp hc h6
    go_wp2_with fail
    refine ((by have h := put_onto h base _ l2 W hh1 HR.out.1 hbw (by omega); rw [← HL3.out] at h; exact h : Calls _ _ _ W (OnPost base _ l3 W))).mono ?_
    rintro e w1 ⟨v1, rfl, g1, g2, g3⟩
    have hN := rowG_next HC.out HTY.out HR.out g1 g2 g3
    go_wp2_with fail
    refine hK _ _ ?_ ?_ ?_
    · rfl
    · refine RegLin.keeps_by hN.1 (by kernel_rfl) (fun j hj hne hl h => ?_)
      match j, hj, hne, hl, h with
      | 0, _, _, _, h => exact h
      | 1, _, _, _, h => exact h
      | 2, _, _, _, h => exact h
      | 3, _, _, hl, _ => exact Bool.noConfusion (hl.symm.trans (show RegLin.liveB _ 10 [(3, 6), (6, 9)] 9 3 = false from by kernel_rfl))
      | 4, _, _, _, h => exact h
      | 5, _, _, _, h => exact h
      | 6, _, _, hl, _ => exact Bool.noConfusion (hl.symm.trans (show RegLin.liveB _ 10 [(3, 6), (6, 9)] 9 6 = false from by kernel_rfl))
      | 7, _, _, _, h => exact h
      | 8, _, _, _, h => exact h
      | 9, _, hne, _, _ => exact absurd rfl hne
      | j + 10, hj, _, _, _ => exact absurd hj (by omega)
    · exact hN.2
  · intro V W hc hd
    have h9 : RowG w0 base (.slice vo kb vc) (l3) (V 14) W := hd 9 (by decide) rfl
    clear hd
    simp only [List.drop_succ_cons, List.drop_zero]
    have H9 := Lib.hid h9
    have HC := Lib.hid hc
    clear h9 hc
    go_wp2_with fail
    go_ret
    exact HOUT.out _ _ _ HC.out H9.out
end Go.Proofs.YtmjelcjdfamikaaGreatDoor.Mrk

namespace Go.Proofs.YtmjelcjdfamikaaGreatDoor.Mrk
open Go.RowKit Go.Proofs.YtmjelcjdfamikaaGreatDoor.Spare Go.Proofs.YtmjelcjdfamikaaGreatDoor.RegInv
set_option linter.unusedSectionVars false

set_option maxHeartbeats 4000000 in
set_option maxRecDepth 100000 in
theorem vput_onto (p l h base : Nat) (v : Value) (bs : List Nat) (w : World) (hp1 : p < 9223372036854775808) (hl1 : l < 9223372036854775808) (hh1 : h < 9223372036854775808) (hv : OwnB w base v bs) (hbase : base ≤ w.heap.size) (hbs : bs.length ≤ 900000) :
    Calls Tryz.prog 174 #[v, .agg #[.int .i64 p, .int .i64 l, .int .i64 h]] w (OnPost base v (((bs ++ putF p) ++ putF l) ++ putF h) w) := by
  obtain ⟨vo, vc, rfl⟩ := hv.form
  obtain ⟨w0, hw0⟩ : ∃ W, W = w.alloc (.cells #[.int .i64 p, .int .i64 l, .int .i64 h] 37) := ⟨_, rfl⟩
  obtain ⟨k3, hk3⟩ : ∃ k, k = w.heap.size := ⟨_, rfl⟩
  obtain ⟨kb, hkb⟩ : ∃ k, k = bs.length := ⟨_, rfl⟩
  rw [← hkb] at hv ⊢
  have HBX := Lib.hid (show BoxG w0 (Value.slice vo kb vc).ownBlock k3 #[.int .i64 p, .int .i64 l, .int .i64 h] 37 w0.drew from ⟨World.grownBy.andThen (World.grownBy.refl _ _) (grown_below (row := none) (Below.refl _ _).drew) (fun j hj => by cases hj), by rw [hw0, hk3]; exact heap_alloc_new w _⟩)
  have HRW := Lib.hid (show RowG w0 base (.slice vo kb vc) bs (.slice vo kb vc) w0.drew from by
    refine ⟨?_, fun g hg => Or.inl hg⟩
    rw [hw0]
    exact (hv.below ((Below.refl _ _).alloc (Nat.le_refl _) _)).below (Below.refl _ _).drew)
  have HBS := Lib.hid (show base ≤ w0.heap.size from by rw [hw0]; simp; omega)
  have HTY := Lib.hid (show 37 ≠ 5 from by decide)
  have HW0 := Lib.hid hw0
  have HK3 := Lib.hid hk3
  have HOUT := Lib.hid (show ∀ W v1 l1, BoxG w0 (Value.slice vo kb vc).ownBlock k3 #[.int .i64 p, .int .i64 l, .int .i64 h] 37 W → RowG w0 base (.slice vo kb vc) l1 v1 W → OnPost base (.slice vo kb vc) l1 w (.returned v1) W from fun W v1 l1 h1 h2 => by
    refine ⟨v1, rfl, h2.1, World.grownBy.andThen (by rw [hw0]; exact World.grownBy_alloc w _ _) h1.grown (fun j hj => Or.inr hj), fun g hg => ?_⟩
    rcases h2.2 g hg with h | h
    · exact Or.inl h
    · refine Or.inr (Nat.le_trans ?_ h); rw [hw0]; simp)
  have hcm : ∀ a b, BoxG w0 (Value.slice vo kb vc).ownBlock k3 #[.int .i64 p, .int .i64 l, .int .i64 h] 37 a → Below a.heap.size a b → BoxG w0 (Value.slice vo kb vc).ownBlock k3 #[.int .i64 p, .int .i64 l, .int .i64 h] 37 b := fun a b h hb => h.later hb
  clear hw0 hk3 hv hkb
  have t1 := putF_ten (n := p) (by omega)
  have t2 := putF_ten (n := l) (by omega)
  obtain ⟨l1, hl1'⟩ : ∃ x, x = bs ++ putF p := ⟨_, rfl⟩
  obtain ⟨l2, hl2⟩ : ∃ x, x = l1 ++ putF l := ⟨_, rfl⟩
  obtain ⟨l3, hl3⟩ : ∃ x, x = l2 ++ putF h := ⟨_, rfl⟩
  have n1 : l1.length ≤ 900010 := by rw [hl1', List.length_append]; omega
  have n2 : l2.length ≤ 900020 := by rw [hl2, List.length_append]; omega
  rw [← hl1', ← hl2, ← hl3]
  have HL1 := Lib.hid hl1'
  have HL2 := Lib.hid hl2
  have HL3 := Lib.hid hl3
  have hpr : ∀ (j : Nat) (a b : World), (j = 3 → (fun W => RowG w0 base (.slice vo kb vc) bs (.slice vo kb vc) W) a) → Below a.heap.size a b → (j = 3 → (fun W => RowG w0 base (.slice vo kb vc) bs (.slice vo kb vc) W) b) := fun j a b h hb e => (h e).below hb
  clear hl1' hl2 hl3 t1 t2
  go_enter Tryz.func174, Tryz.ntmps174
  go_upto_region 1 with fail
  rw [← HW0.out, ← HK3.out]
  clear HW0 HK3
  refine RegLin.wp_region_lin (RegLin.useL [(3, 6), (6, 9)]) (fun W => BoxG w0 (Value.slice vo kb vc).ownBlock k3 #[.int .i64 p, .int .i64 l, .int .i64 h] 37 W) (fun j W => j = 3 → (fun W => RowG w0 base (.slice vo kb vc) bs (.slice vo kb vc) W) W) 10 [false, false, false, false, false, true, true, true, true, true, true, true, true, true, true]
    [sLit (.slice vo kb vc),
    sLit (.pointer (some ⟨k3, 0, none⟩)),
    sLit (.int .i64 p),
    sRow w0 base (.slice vo kb vc) (l1),
    sLit (.pointer (some ⟨k3, 1, none⟩)),
    sLit (.int .i64 l),
    sRow w0 base (.slice vo kb vc) (l2),
    sLit (.pointer (some ⟨k3, 2, none⟩)),
    sLit (.int .i64 h),
    sRow w0 base (.slice vo kb vc) (l3)] (HBX.out) (fun j _ _ => HRW.out) (by kernel_rfl) (by kernel_rfl) (by kernel_rfl) (by kernel_rfl) (fun F hF => ?_)
  simp only [over, overL, Nat.reduceAdd] at hF
  obtain rfl := funext hF
  clear hF
  refine ⟨⟨?_, ?_, ?_, ?_, ?_, ?_, ?_, ?_, ?_, ?_, trivial⟩, ?_⟩
  · intro V W hc hp hd K hK _
    clear hd
    go_wp2_with fail
    refine hK _ _ ?_ ?_ ?_
    · rfl
    · exact RegLin.keeps_below hcm hpr hc (Below.refl _ _)
    · exact rfl
  · intro V W hc hp hd K hK _
    clear hd
    go_wp2_with fail
    refine hK _ _ ?_ ?_ ?_
    · rfl
    · exact RegLin.keeps_below hcm hpr hc (Below.refl _ _)
    · exact rfl
  · intro V W hc hp hd K hK _
    have h1 : (V 6) = .pointer (some ⟨k3, 0, none⟩) := hd 1 (by decide) (by kernel_rfl) (RegLin.useL_ok (by kernel_rfl))
    clear hd
    obtain ⟨m0, m1, m2⟩ := (And.intro (hc.cell 0) (And.intro (hc.cell 1) (hc.cell 2)))
    go_wp2_with fail
    refine hK _ _ ?_ ?_ ?_
    · rfl
    · exact RegLin.keeps_below hcm hpr hc (Below.refl _ _)
    · exact rfl
  · intro V W hc hp hd K hK _
    have h0 : (V 5) = .slice vo kb vc := hd 0 (by decide) (by kernel_rfl) (RegLin.useL_ok (by kernel_rfl))
    have h2 : (V 7) = .int .i64 p := hd 2 (by decide) (by kernel_rfl) (RegLin.useL_ok (by kernel_rfl))
    clear hd
    skip
    have hr : RowG w0 base (.slice vo kb vc) _ _ W := (hp rfl)
    have hbw : base ≤ W.heap.size := Nat.le_trans HBS.out hc.grown.size
    have HR := Lib.hid hr
    have HC := Lib.hid hc
    clear hr hp hc
    go_wp2_with fail
    refine ((by have h := put_onto p base _ bs W hp1 HR.out.1 hbw (by omega); rw [← HL1.out] at h; exact h : Calls _ _ _ W (OnPost base _ l1 W))).mono ?_
    rintro e w1 ⟨v1, rfl, g1, g2, g3⟩
    have hN := rowG_next HC.out HTY.out HR.out g1 g2 g3
    go_wp2_with fail
    refine hK _ _ ?_ ?_ ?_
    · rfl
    · refine RegLin.keeps_by hN.1 (by kernel_rfl) (fun j hj hne hl h => ?_)
      match j, hj, hne, hl, h with
      | 0, _, _, _, h => exact h
      | 1, _, _, _, h => exact h
      | 2, _, _, _, h => exact h
      | 3, _, hne, _, _ => exact absurd rfl hne
      | 4, _, _, _, h => exact h
      | 5, _, _, _, h => exact h
      | 6, _, _, hl, _ => exact Bool.noConfusion (hl.symm.trans (show RegLin.liveB _ 10 [(3, 6), (6, 9)] 3 6 = false from by kernel_rfl))
      | 7, _, _, _, h => exact h
      | 8, _, _, _, h => exact h
      | 9, _, _, hl, _ => exact Bool.noConfusion (hl.symm.trans (show RegLin.liveB _ 10 [(3, 6), (6, 9)] 3 9 = false from by kernel_rfl))
      | j + 10, hj, _, _, _ => exact absurd hj (by omega)
    · exact hN.2
  · intro V W hc hp hd K hK _
    clear hd
    go_wp2_with fail
    refine hK _ _ ?_ ?_ ?_
    · rfl
    · exact RegLin.keeps_below hcm hpr hc (Below.refl _ _)
    · exact rfl
  · intro V W hc hp hd K hK _
    have h4 : (V 9) = .pointer (some ⟨k3, 1, none⟩) := hd 4 (by decide) (by kernel_rfl) (RegLin.useL_ok (by kernel_rfl))
    clear hd
    obtain ⟨m0, m1, m2⟩ := (And.intro (hc.cell 0) (And.intro (hc.cell 1) (hc.cell 2)))
    go_wp2_with fail
    refine hK _ _ ?_ ?_ ?_
    · rfl
    · exact RegLin.keeps_below hcm hpr hc (Below.refl _ _)
    · exact rfl
  · intro V W hc hp hd K hK _
    have h3 : RowG w0 base (.slice vo kb vc) (l1) (V 8) W := hd 3 (by decide) (by kernel_rfl) (RegLin.useL_ok (by kernel_rfl))
    have h5 : (V 10) = .int .i64 l := hd 5 (by decide) (by kernel_rfl) (RegLin.useL_ok (by kernel_rfl))
    clear hd
    skip
    have hr : RowG w0 base (.slice vo kb vc) _ _ W := h3
    have hbw : base ≤ W.heap.size := Nat.le_trans HBS.out hc.grown.size
    have HR := Lib.hid hr
    have HC := Lib.hid hc
    clear hr hp hc h3
    go_wp2_with fail
    refine ((by have h := put_onto l base _ l1 W hl1 HR.out.1 hbw (by omega); rw [← HL2.out] at h; exact h : Calls _ _ _ W (OnPost base _ l2 W))).mono ?_
    rintro e w1 ⟨v1, rfl, g1, g2, g3⟩
    have hN := rowG_next HC.out HTY.out HR.out g1 g2 g3
    go_wp2_with fail
    refine hK _ _ ?_ ?_ ?_
    · rfl
    · refine RegLin.keeps_by hN.1 (by kernel_rfl) (fun j hj hne hl h => ?_)
      match j, hj, hne, hl, h with
      | 0, _, _, _, h => exact h
      | 1, _, _, _, h => exact h
      | 2, _, _, _, h => exact h
      | 3, _, _, hl, _ => exact Bool.noConfusion (hl.symm.trans (show RegLin.liveB _ 10 [(3, 6), (6, 9)] 6 3 = false from by kernel_rfl))
      | 4, _, _, _, h => exact h
      | 5, _, _, _, h => exact h
      | 6, _, hne, _, _ => exact absurd rfl hne
      | 7, _, _, _, h => exact h
      | 8, _, _, _, h => exact h
      | 9, _, _, hl, _ => exact Bool.noConfusion (hl.symm.trans (show RegLin.liveB _ 10 [(3, 6), (6, 9)] 6 9 = false from by kernel_rfl))
      | j + 10, hj, _, _, _ => exact absurd hj (by omega)
    · exact hN.2
  · intro V W hc hp hd K hK _
    clear hd
    go_wp2_with fail
    refine hK _ _ ?_ ?_ ?_
    · rfl
    · exact RegLin.keeps_below hcm hpr hc (Below.refl _ _)
    · exact rfl
  · intro V W hc hp hd K hK _
    have h7 : (V 12) = .pointer (some ⟨k3, 2, none⟩) := hd 7 (by decide) (by kernel_rfl) (RegLin.useL_ok (by kernel_rfl))
    clear hd
    obtain ⟨m0, m1, m2⟩ := (And.intro (hc.cell 0) (And.intro (hc.cell 1) (hc.cell 2)))
    go_wp2_with fail
    refine hK _ _ ?_ ?_ ?_
    · rfl
    · exact RegLin.keeps_below hcm hpr hc (Below.refl _ _)
    · exact rfl
  · intro V W hc hp hd K hK _
    have h6 : RowG w0 base (.slice vo kb vc) (l2) (V 11) W := hd 6 (by decide) (by kernel_rfl) (RegLin.useL_ok (by kernel_rfl))
    have h8 : (V 13) = .int .i64 h := hd 8 (by decide) (by kernel_rfl) (RegLin.useL_ok (by kernel_rfl))
    clear hd
    skip
    have hr : RowG w0 base (.slice vo kb vc) _ _ W := h6
    have hbw : base ≤ W.heap.size := Nat.le_trans HBS.out hc.grown.size
    have HR := Lib.hid hr
    have HC := Lib.hid hc
    clear hr hp hc h6
    go_wp2_with fail
    refine ((by have h := put_onto h base _ l2 W hh1 HR.out.1 hbw (by omega); rw [← HL3.out] at h; exact h : Calls _ _ _ W (OnPost base _ l3 W))).mono ?_
    rintro e w1 ⟨v1, rfl, g1, g2, g3⟩
    have hN := rowG_next HC.out HTY.out HR.out g1 g2 g3
    go_wp2_with fail
    refine hK _ _ ?_ ?_ ?_
    · rfl
    · refine RegLin.keeps_by hN.1 (by kernel_rfl) (fun j hj hne hl h => ?_)
      match j, hj, hne, hl, h with
      | 0, _, _, _, h => exact h
      | 1, _, _, _, h => exact h
      | 2, _, _, _, h => exact h
      | 3, _, _, hl, _ => exact Bool.noConfusion (hl.symm.trans (show RegLin.liveB _ 10 [(3, 6), (6, 9)] 9 3 = false from by kernel_rfl))
      | 4, _, _, _, h => exact h
      | 5, _, _, _, h => exact h
      | 6, _, _, hl, _ => exact Bool.noConfusion (hl.symm.trans (show RegLin.liveB _ 10 [(3, 6), (6, 9)] 9 6 = false from by kernel_rfl))
      | 7, _, _, _, h => exact h
      | 8, _, _, _, h => exact h
      | 9, _, hne, _, _ => exact absurd rfl hne
      | j + 10, hj, _, _, _ => exact absurd hj (by omega)
    · exact hN.2
  · intro V W hc hd
    have h9 : RowG w0 base (.slice vo kb vc) (l3) (V 14) W := hd 9 (by decide) rfl
    clear hd
    simp only [List.drop_succ_cons, List.drop_zero]
    have H9 := Lib.hid h9
    have HC := Lib.hid hc
    clear h9 hc
    go_wp2_with fail
    go_ret
    exact HOUT.out _ _ _ HC.out H9.out
end Go.Proofs.YtmjelcjdfamikaaGreatDoor.Mrk

namespace Go.Proofs.YtmjelcjdfamikaaGreatDoor.Rd
open Go Go.Proofs.YtmjelcjdfamikaaGreatDoor.Mrk

/-- A number of the bytes from i on, of which n is read (it began at a): its value and the place behind it, or why there is none. -/
def numL (B : List Nat) (a : Nat) : Nat → Nat → Nat → Except Int (Nat × Nat)
  | 0, _, _ => .error 30
  | f + 1, i, n => match B[i]? with
    | none => .error 30
    | some c => if (i = a ∧ c = 128) ∨ 36028797018963968 ≤ n then .error 31 else if c < 128 then .ok (n * 128 + c, i + 1) else numL B a f (i + 1) (n * 128 + c % 128)
def numR (B : List Nat) (a : Nat) : Except Int (Nat × Nat) := numL B a (B.length + 1 - a) a 0
/-- What a reader knows: where it is, and why nothing more is read. -/
abbrev S := Nat × Int
/-- Num: what is told, and the reader behind it. -/
def numS (B : List Nat) (s : S) : Nat × S :=
  if s.2 = 0 then match numR B s.1 with
    | .ok (n, a) => (n, (a, 0))
    | .error e => (0, (s.1, e))
  else (0, s)
theorem numL_step (B : List Nat) (a f i n c : Nat) (h : B[i]? = some c) : numL B a (f + 1) i n = if (i = a ∧ c = 128) ∨ 36028797018963968 ≤ n then .error 31 else if c < 128 then .ok (n * 128 + c, i + 1) else numL B a f (i + 1) (n * 128 + c % 128) := by
  rw [numL, h]
theorem numL_end (B : List Nat) (a f i n : Nat) (h : B.length ≤ i) : numL B a f i n = .error 30 := by
  cases f with
  | zero => rfl
  | succ f => rw [numL, List.getElem?_eq_none h]
theorem numL_bound (B : List Nat) (a : Nat) : ∀ (f i n m b : Nat), i ≤ B.length → numL B a f i n = .ok (m, b) → i < b ∧ b ≤ B.length ∧ m < 4611686018427387904
  | 0, _, _, _, _, _, h => by cases h
  | f + 1, i, n, m, b, hi, h => by
    cases hc : B[i]? with
    | none => rw [numL, hc] at h; cases h
    | some c =>
      rw [numL_step B a f i n c hc] at h
      have hl := (List.getElem?_eq_some_iff.1 hc).1
      split at h
      · cases h
      · rename_i hn
        split at h
        · rename_i h128
          simp only [Except.ok.injEq, Prod.mk.injEq] at h
          obtain ⟨rfl, rfl⟩ := h
          refine ⟨by omega, by omega, ?_⟩
          have : ¬ 36028797018963968 ≤ n := fun h => hn (Or.inr h)
          omega
        · obtain ⟨h1, h2, h3⟩ := numL_bound B a f (i + 1) _ m b hl h
          exact ⟨by omega, h2, h3⟩
theorem numS_ok (B : List Nat) (s : S) (hs : s.1 ≤ B.length) : (numS B s).2.1 ≤ B.length ∧ (numS B s).1 < 4611686018427387904 ∧ s.1 ≤ (numS B s).2.1 := by
  unfold numS
  split
  · cases h : numR B s.1 with
    | error e => exact ⟨hs, (show (0 : Nat) < 4611686018427387904 by omega), Nat.le_refl _⟩
    | ok p =>
      obtain ⟨n, a⟩ := p
      obtain ⟨h1, h2, h3⟩ := numL_bound B s.1 _ _ _ _ _ hs h
      exact ⟨h2, h3, (show s.1 ≤ a by omega)⟩
  · exact ⟨hs, (show (0 : Nat) < 4611686018427387904 by omega), Nat.le_refl _⟩
theorem numL_err (B : List Nat) (a : Nat) : ∀ (f i n : Nat) (e : Int), numL B a f i n = .error e → e = 30 ∨ e = 31
  | 0, _, _, e, h => by simp only [numL, Except.error.injEq] at h; exact Or.inl h.symm
  | f + 1, i, n, e, h => by
    cases hc : B[i]? with
    | none => rw [numL, hc] at h; simp only [Except.error.injEq] at h; exact Or.inl h.symm
    | some c =>
      rw [numL_step B a f i n c hc] at h
      split at h
      · simp only [Except.error.injEq] at h; exact Or.inr h.symm
      · split at h
        · cases h
        · exact numL_err B a f (i + 1) _ e h
theorem numS_pos (B : List Nat) (s : S) (hs : s.1 ≤ B.length) (h0 : (numS B s).2.2 = 0) : s.1 < (numS B s).2.1 := by
  unfold numS at h0 ⊢
  split
  · rename_i hy
    rw [if_pos hy] at h0
    cases h : numR B s.1 with
    | error e =>
      rw [h] at h0
      have h1 : e = 0 := h0
      rcases numL_err B s.1 _ _ _ _ h with h2 | h2 <;> omega
    | ok p =>
      obtain ⟨n, a⟩ := p
      exact (numL_bound B s.1 _ _ _ _ _ hs h).1
  · rename_i hy
    rw [if_neg hy] at h0
    exact absurd h0 hy
theorem or128_nat (n c : Nat) (hc : c < 128) : n * 128 ||| c = n * 128 + c := by
  have h := Nat.two_pow_add_eq_or_of_lt (i := 7) (by simpa using hc) n
  rw [show (2 : Nat) ^ 7 = 128 from rfl, Nat.mul_comm] at h
  exact h.symm
theorem i64_or_nat (a b : Nat) (ha : a < 9223372036854775808) (hb : b < 9223372036854775808) : bits .or .i64 (a : Int) (b : Int) = ((a ||| b : Nat) : Int) := by
  have hx : a ||| b < 2 ^ 63 := Nat.or_lt_two_pow (by omega) (by omega)
  show IntKind.i64.wrap ((BitVec.ofInt 64 (a : Int) ||| BitVec.ofInt 64 (b : Int)).toNat : Int) = _
  rw [BitVec.toNat_or, ofInt_u64 a (by omega), ofInt_u64 b (by omega), Go.IntWalk.i64_in _ (by omega)]
theorem and127_nat (c : Nat) (hc : c < 256) : c &&& 127 = c % 128 := by
  have h := Nat.and_two_pow_sub_one_eq_mod c 7
  simpa using h
end Go.Proofs.YtmjelcjdfamikaaGreatDoor.Rd

namespace Go.Proofs.YtmjelcjdfamikaaGreatDoor.Rd
open Go.RowKit Go.Proofs.YtmjelcjdfamikaaGreatDoor.Mrk

/-- A reader at block r of these bytes, so far. -/
structure Rdr (w : World) (r : Nat) (v : Value) (B : List Nat) (s : S) : Prop where
  lt : r < w.heap.size
  c0 : w.cell? ⟨r, 0, none⟩ = some v
  c1 : w.cell? ⟨r, 1, none⟩ = some (.int .i64 (s.1 : Nat))
  c2 : w.cell? ⟨r, 2, none⟩ = some (.int .i64 s.2)
  f0 : w.frozen? ⟨r, 0, none⟩ = false
  f1 : w.frozen? ⟨r, 1, none⟩ = false
  f2 : w.frozen? ⟨r, 2, none⟩ = false
  row : BRow w v B
  far : B ≠ [] → ∀ ad n c, v = .slice (some ad) n c → ad.block ≠ r
  at_ : s.1 ≤ B.length
  small : B.length ≤ 100000000
theorem Rdr.below {w w' : World} {r : Nat} {v : Value} {B : List Nat} {s : S} (h : Rdr w r v B s) (hb : Below w.heap.size w w') : Rdr w' r v B s :=
  ⟨Nat.lt_of_lt_of_le h.lt hb.size, (hb.cell (p := ⟨r, 0, none⟩) h.lt).trans h.c0, (hb.cell (p := ⟨r, 1, none⟩) h.lt).trans h.c1, (hb.cell (p := ⟨r, 2, none⟩) h.lt).trans h.c2, (hb.frozen (p := ⟨r, 0, none⟩) h.lt).trans h.f0, (hb.frozen (p := ⟨r, 1, none⟩) h.lt).trans h.f1, (hb.frozen (p := ⟨r, 2, none⟩) h.lt).trans h.f2, Lst.below h.row hb, h.far, h.at_, h.small⟩
/-- A row elsewhere stays. -/
theorem lst_set {α : Type} {sz : Nat} {en : α → List Value} {w : World} {v : Value} {l : List α} (h : Lst sz en w v l) {r o : Nat} {u : Value} (hf : l ≠ [] → ∀ ad n c, v = .slice (some ad) n c → ad.block ≠ r) : Lst sz en (w.setCell ⟨r, o, none⟩ u) v l := by
  obtain ⟨ao, cap, e1, h1, h2, h3⟩ := h
  by_cases hl : l = []
  · exact ⟨ao, cap, e1, h1, h2, Or.inl (by rw [hl]; rfl)⟩
  refine ⟨ao, cap, e1, h1, h2, h3.imp id ?_⟩
  rintro ⟨g, off, e2, hb, hc⟩
  subst e2
  have hne := hf hl ⟨g, off, none⟩ _ _ e1
  refine ⟨g, off, rfl, by simpa using hb, fun i x hi j hj => ?_⟩
  rw [World.cell?_setCell_far w ⟨r, o, none⟩ ⟨g, off + i * sz + j, none⟩ u (fun e => hne e.symm)]
  exact hc i x hi j hj
theorem Rdr.setAt {w : World} {r : Nat} {v : Value} {B : List Nat} {s : S} (h : Rdr w r v B s) (a : Nat) (ha : a ≤ B.length) : Rdr (w.setCell ⟨r, 1, none⟩ (.int .i64 (a : Nat))) r v B (a, s.2) := by
  obtain ⟨h0, h1, h2, h3, h4, h5, h6, h7, h8, h9, h10⟩ := h
  exact ⟨by simpa using h0, by go_simp, by go_simp, by go_simp, by go_simp, by go_simp, by go_simp, lst_set h7 h8, h8, ha, h10⟩
theorem Rdr.setWhy {w : World} {r : Nat} {v : Value} {B : List Nat} {s : S} (h : Rdr w r v B s) (y : Int) : Rdr (w.setCell ⟨r, 2, none⟩ (.int .i64 y)) r v B (s.1, y) := by
  obtain ⟨h0, h1, h2, h3, h4, h5, h6, h7, h8, h9, h10⟩ := h
  exact ⟨by simpa using h0, by go_simp, by go_simp, by go_simp, by go_simp, by go_simp, by go_simp, lst_set h7 h8, h8, h9, h10⟩
theorem grown_cell' (w : World) (k o : Nat) (u : Value) : w.grownBy (w.setCell ⟨k, o, none⟩ u) (some k) := grown_setCell (World.grownBy.refl _ _) (Or.inl rfl) _
/-- That comes back, the reader stands so, and nothing but the reader has changed. -/
def RdP (r : Nat) (v : Value) (B : List Nat) (s : S) (x : Value) (w : World) (e : Ending) (w' : World) : Prop := e = .returned x ∧ Rdr w' r v B s ∧ w.grownBy w' (some r)
abbrev pR (r : Nat) : Value := .pointer (some ⟨r, 0, none⟩)
def failS (s : S) (y : Int) : S := if s.2 = 0 then (s.1, y) else s

set_option maxHeartbeats 1000000 in
theorem fail_any (r : Nat) (v : Value) (B : List Nat) (s : S) (y : Int) (w : World) (h : Rdr w r v B s) : Calls Tryz.prog 200 #[pR r, .int .i64 y] w (RdP r v B (failS s y) (.tuple #[]) w) := by
  obtain ⟨a, q⟩ := s
  have HR := Lib.hid h
  obtain ⟨-, c0, c1, c2, f0, f1, f2, -, -, -, -⟩ := h
  simp only [] at c1 c2
  by_cases hq : q = 0
  · have HW := Lib.hid (HR.out.setWhy y)
    have e : failS (a, q) y = (a, y) := by unfold failS; rw [if_pos hq]
    rw [e]
    subst hq
    clear e
    go_enter Tryz.func200, Tryz.ntmps200
    go_wp2_with fail
    first
      | (go_ret; exact ⟨rfl, HW.out, grown_cell' _ _ _ _⟩)
      | (go_end0; exact ⟨rfl, HW.out, grown_cell' _ _ _ _⟩)
  · have e : failS (a, q) y = (a, q) := by unfold failS; rw [if_neg hq]
    rw [e]
    clear e
    go_enter Tryz.func200, Tryz.ntmps200
    go_wp2_with fail
    first
      | (go_ret; exact ⟨rfl, HR.out, World.grownBy.refl _ _⟩)
      | (go_end0; exact ⟨rfl, HR.out, World.grownBy.refl _ _⟩)
set_option maxHeartbeats 1000000 in
theorem why_any (r : Nat) (v : Value) (B : List Nat) (s : S) (w : World) (h : Rdr w r v B s) : Calls Tryz.prog 199 #[pR r] w fun e w' => e = .returned (.int .i64 s.2) ∧ w = w' := by
  obtain ⟨-, c0, c1, c2, f0, f1, f2, -, -, -, -⟩ := h
  go_enter Tryz.func199, Tryz.ntmps199
  go_wp2_with fail
  go_ret
  exact ⟨rfl, rfl⟩
set_option maxHeartbeats 1000000 in
theorem at_any (r : Nat) (v : Value) (B : List Nat) (s : S) (w : World) (h : Rdr w r v B s) : Calls Tryz.prog 225 #[pR r] w fun e w' => e = .returned (.int .i64 (s.1 : Nat)) ∧ w = w' := by
  obtain ⟨-, c0, c1, c2, f0, f1, f2, -, -, -, -⟩ := h
  go_enter Tryz.func225, Tryz.ntmps225
  go_wp2_with fail
  go_ret
  exact ⟨rfl, rfl⟩
set_option maxHeartbeats 1000000 in
theorem left_any (r : Nat) (v : Value) (B : List Nat) (s : S) (w : World) (h : Rdr w r v B s) : Calls Tryz.prog 207 #[pR r] w fun e w' => e = .returned (.int .i64 ((B.length - s.1 : Nat) : Int)) ∧ Below w.heap.size w w' := by
  obtain ⟨ao, cap, rfl, -, -⟩ := Lst.form h.row
  obtain ⟨n, hn⟩ : ∃ n, n = B.length := ⟨_, rfl⟩
  have hs := h.small
  have ha := h.at_
  have hlt0 := h.lt
  obtain ⟨-, c0, c1, c2, f0, f1, f2, -, -, -, -⟩ := h
  rw [← hn] at c0 hs ha ⊢
  obtain ⟨a, y⟩ := s
  simp only [] at c1 c2 ha ⊢
  have e : IntKind.i64.wrap ((n : Int) - (a : Int)) = ((n - a : Nat) : Int) := by rw [Go.IntWalk.i64_in _ (by omega)]; omega
  clear hn
  have hlt : r < w.heap.size := hlt0
  go_enter Tryz.func207, Tryz.ntmps207
  go_upto_region 1 with fail
  refine wp_region_calm (by kernel_rfl) (by kernel_rfl) ?_
  repeat (go_big_quiet_step (fail))
  refine wpQuiet_nil ?_
  rintro _ ⟨y, rfl⟩
  go_wp2_with fail
  go_ret
  exact ⟨rfl, y.below⟩

/-- A number comes back, the reader stands so. -/
theorem num_ok_step {B : List Nat} {a i n c : Nat} {R : Except Int (Nat × Nat)} {f : Nat} (h : numL B a (f + 1) i n = R) (hc : B[i]? = some c) (h1 : ¬ (i = a ∧ c = 128)) (h2 : n < 36028797018963968) (h3 : 128 ≤ c) : numL B a f (i + 1) (n * 128 + c % 128) = R := by
  rw [numL_step B a f i n c hc, if_neg (by omega), if_neg (by omega)] at h
  exact h
set_option maxHeartbeats 4000000 in
set_option maxRecDepth 100000 in
theorem num_any (r : Nat) (v : Value) (B : List Nat) (s : S) (w : World) (h : Rdr w r v B s) (hB : ∀ c ∈ B, c < 256) : Calls Tryz.prog 197 #[pR r] w (RdP r v B (numS B s).2 (.int .i64 ((numS B s).1 : Nat)) w) := by
  obtain ⟨ao, cap, rfl, -, -⟩ := Lst.form h.row
  obtain ⟨nb, hnb⟩ : ∃ n, n = B.length := ⟨_, rfl⟩
  obtain ⟨a, y⟩ := s
  have hh : Rdr w r (.slice ao nb cap) B (a, y) := by rw [hnb]; exact h
  have HFI := Lib.hid (show ∀ (s : S) (x : Value) (e : Ending) (w' : World), RdP r (.slice ao nb cap) B s x w e w' → RdP r (.slice ao B.length cap) B s x w e w' from fun s x e w' h => by rw [← hnb]; exact h)
  have hsm : nb ≤ 100000000 := by rw [hnb]; exact h.small
  have hat : a ≤ nb := by rw [hnb]; exact h.at_
  have HR := Lib.hid hh
  have HB := Lib.hid hB
  have HNB := Lib.hid hnb
  refine Calls.mono (R := RdP r (.slice ao nb cap) B (numS B (a, y)).2 (.int .i64 ((numS B (a, y)).1 : Nat)) w) ?_ (fun e w' h => HFI.out _ _ e w' h)
  obtain ⟨-, c0, c1, c2, f0, f1, f2, -, -, -, -⟩ := hh
  simp only [] at c1 c2
  clear h hB hnb
  by_cases hy : y = 0
  · subst hy
    obtain ⟨Q, hQ⟩ : ∃ Q, Q = numS B (a, 0) := ⟨_, rfl⟩
    rw [← hQ]
    have HQ := Lib.hid (show (match numR B a with | .ok (n, b) => (n, (b, (0 : Int))) | .error e => (0, (a, e))) = Q from by rw [hQ]; unfold numS; first | (rw [if_pos rfl]; rfl) | rw [if_pos rfl])
    have HF := Lib.hid (fun (y : Int) (w1 : World) (h : Rdr w1 r (.slice ao nb cap) B (a, 0)) => fail_any r (.slice ao nb cap) B (a, 0) y w1 h)
    clear hQ c0 c1 c2 f0 f1 f2
    have hc1 : w.cell? ⟨r, 1, none⟩ = some (.int .i64 (a : Nat)) := HR.out.c1
    go_enter Tryz.func197, Tryz.ntmps197
    go_wp2_with fail
    clear hc1
    go_loopw [3, 4] (fun nv iv wr => ∃ (i n : Nat) (y : Int), nv = .int .i64 n ∧ iv = .int .i64 i ∧ a ≤ i ∧ i ≤ nb + 1 ∧ n < 4611686018427387904 ∧ Hid (Rdr wr r (.slice ao nb cap) B (a, y)) ∧ Hid (w.grownBy wr (some r)) ∧ ((y = 0 ∧ i ≤ nb ∧ Hid (numL B a (nb + 1 - i) i n = numR B a)) ∨ (y ≠ 0 ∧ Hid (Q = (0, (a, y)))))) (fun _ iv _ => nb + 2 - (intOf iv).toNat)
    case atStart => exact ⟨a, 0, 0, rfl, rfl, by omega, by omega, by omega, HR, Lib.hid (World.grownBy.refl _ _), Or.inl ⟨rfl, hat, Lib.hid (by unfold numR; rw [HNB.out])⟩⟩
    case round =>
      obtain ⟨i, n, y, rfl, rfl, hai, hin, hn62, hrd, hgr, hm⟩ := hrel
      have c0 := hrd.out.c0
      have c1 := hrd.out.c1
      have c2 := hrd.out.c2
      have f1 := hrd.out.f1
      have hsz := hrd.out.lt
      simp only [] at c1 c2
      rcases hm with ⟨rfl, hib, hL⟩ | ⟨hy, hQ⟩
      · by_cases hlt : i < nb
        · obtain ⟨c, hc⟩ : ∃ c, B[i]? = some c := ⟨_, List.getElem?_eq_getElem (by have := HNB.out; omega)⟩
          obtain ⟨g, off, rfl, hgw, hcell⟩ := byte_at hrd.out.row hc
          have hc256 := HB.out c (List.mem_of_getElem? hc)
          have hst := hL.out
          rw [show nb + 1 - i = (nb - i) + 1 by omega, numL_step B a _ i n c hc] at hst
          have HST := Lib.hid hst
          have HC := Lib.hid hc
          have j0 : (0 : Int) ≤ (i : Int) := by omega
          have j1 : (i : Int) < (nb : Int) := by omega
          clear hst hc hL
          have hg1 : ¬ g = r := hrd.out.far (fun e => by have := HC.out; rw [e] at this; simp at this) _ _ _ rfl
          have hg2 : ¬ r = g := fun e => hg1 e.symm
          cases hqa : ((i : Int) == (a : Int)) <;> cases hq8 : ((c : Int) == 128) <;> cases hqn : decide ((36028797018963968 : Int) ≤ (n : Int))
          · have pa : ¬ i = a := by simp at hqa; omega
            have p8 : ¬ c = 128 := by simp at hq8; omega
            have pn : n < 36028797018963968 := by simp at hqn; omega
            have e1 : IntKind.i64.wrap ((n : Int) * 128) = ((n * 128 : Nat) : Int) := by rw [Go.IntWalk.i64_in _ (by omega)]; omega
            cases hq9 : decide ((c : Int) < 128)
            · have p9 : ¬ c < 128 := by simp at hq9; omega
              have e2 : bits .and .u8 (c : Int) 127 = ((c % 128 : Nat) : Int) := by have h := u8_and_nat c 127 hc256 (by decide); rw [and127_nat c hc256] at h; exact h
              have e3 : bits .or .i64 ((n * 128 : Nat) : Int) ((c % 128 : Nat) : Int) = ((n * 128 + c % 128 : Nat) : Int) := by rw [i64_or_nat _ _ (by omega) (by omega), or128_nat n _ (by omega)]
              have HL2 := Lib.hid (show numL B a (nb + 1 - (i + 1)) (i + 1) (n * 128 + c % 128) = numR B a from by
                have h := HST.out
                rw [if_neg (by omega), if_neg p9] at h
                rw [show nb + 1 - (i + 1) = nb - i by omega]
                exact h)
              obtain ⟨n2, hn2⟩ : ∃ m, m = n * 128 := ⟨_, rfl⟩
              obtain ⟨c2n, hc2⟩ : ∃ m, m = c % 128 := ⟨_, rfl⟩
              obtain ⟨n3, hn3⟩ : ∃ m, m = n * 128 + c % 128 := ⟨_, rfl⟩
              have hn3b : n3 < 4611686018427387904 := by omega
              have hc2b : c2n < 128 := by omega
              rw [← hn3] at e3 HL2
              rw [← hn2] at e1 e3
              rw [← hc2] at e2 e3
              clear pa p8 pn hn2 hc2 hn3 p9
              go_wp2_with fail
              go_roundw
              case rel => exact ⟨i + 1, n3, 0, by first | rfl | go_num, by go_num, by omega, by omega, hn3b, hrd, hgr, Or.inl ⟨rfl, by omega, HL2⟩⟩
              case measure => simp [intOf]; omega
            · have p9 : c < 128 := by simp at hq9; omega
              have e3 : bits .or .i64 ((n * 128 : Nat) : Int) (c : Int) = ((n * 128 + c : Nat) : Int) := by rw [i64_or_nat _ _ (by omega) (by omega), or128_nat n c p9]
              have HQ2 := Lib.hid (show Q = (n * 128 + c, (i + 1, (0 : Int))) from by
                have h := HST.out
                rw [if_neg (by omega), if_pos p9] at h
                have h2 := HQ.out
                rw [← h] at h2
                exact h2.symm)
              have e4 : IntKind.i64.wrap ((i : Int) + 1) = ((i + 1 : Nat) : Int) := by rw [Go.IntWalk.i64_in _ (by omega)]; omega
              have HRS := Lib.hid (show Rdr (wr.setCell ⟨r, 1, none⟩ (.int .i64 ((i : Int) + 1))) r _ B (i + 1, (0 : Int)) from hrd.out.setAt (i + 1) (by have := HNB.out; omega))
              have HGS := Lib.hid (hgr.out.andThen (grown_cell' wr r 1 (.int .i64 ((i : Int) + 1))) (fun j hj => Or.inr hj))
              obtain ⟨n2, hn2⟩ : ∃ m, m = n * 128 := ⟨_, rfl⟩
              obtain ⟨n3, hn3⟩ : ∃ m, m = n * 128 + c := ⟨_, rfl⟩
              rw [← hn3] at e3 HQ2
              rw [← hn2] at e1 e3
              clear e4
              clear pa p8 pn hn2 hn3 p9
              go_wp2_with fail
              go_ret
              exact ⟨by rw [HQ2.out]; rfl, by rw [HQ2.out]; exact HRS.out, HGS.out⟩
          · have pa : ¬ i = a := by simp at hqa; omega
            have p8 : ¬ c = 128 := by simp at hq8; omega
            have pn : 36028797018963968 ≤ n := by simp at hqn; omega
            have HFA := Lib.hid (HF.out 31 _ hrd.out)
            have HQ2 := Lib.hid (show Q = (0, (a, (31 : Int))) from by
              have h := HST.out
              rw [if_pos (by omega)] at h
              have h2 := HQ.out
              rw [← h] at h2
              exact h2.symm)
            clear pa p8 pn
            go_wp2_with fail
            refine HFA.out.mono ?_
            rintro e w1 ⟨rfl, hr1, hg3⟩
            have HR1 := Lib.hid hr1
            have HG1 := Lib.hid (hgr.out.andThen hg3 (fun j hj => Or.inr hj))
            clear hr1 hg3
            go_wp2_with fail
            go_roundw
            case rel => exact ⟨i + 1, n, 31, rfl, by go_num, by omega, by omega, by omega, HR1, HG1, Or.inr ⟨by decide, HQ2⟩⟩
            case measure => simp [intOf]; omega
          · have pa : ¬ i = a := by simp at hqa; omega
            have p8 : c = 128 := by simp at hq8; omega
            have pn : n < 36028797018963968 := by simp at hqn; omega
            have e1 : IntKind.i64.wrap ((n : Int) * 128) = ((n * 128 : Nat) : Int) := by rw [Go.IntWalk.i64_in _ (by omega)]; omega
            cases hq9 : decide ((c : Int) < 128)
            · have p9 : ¬ c < 128 := by simp at hq9; omega
              have e2 : bits .and .u8 (c : Int) 127 = ((c % 128 : Nat) : Int) := by have h := u8_and_nat c 127 hc256 (by decide); rw [and127_nat c hc256] at h; exact h
              have e3 : bits .or .i64 ((n * 128 : Nat) : Int) ((c % 128 : Nat) : Int) = ((n * 128 + c % 128 : Nat) : Int) := by rw [i64_or_nat _ _ (by omega) (by omega), or128_nat n _ (by omega)]
              have HL2 := Lib.hid (show numL B a (nb + 1 - (i + 1)) (i + 1) (n * 128 + c % 128) = numR B a from by
                have h := HST.out
                rw [if_neg (by omega), if_neg p9] at h
                rw [show nb + 1 - (i + 1) = nb - i by omega]
                exact h)
              obtain ⟨n2, hn2⟩ : ∃ m, m = n * 128 := ⟨_, rfl⟩
              obtain ⟨c2n, hc2⟩ : ∃ m, m = c % 128 := ⟨_, rfl⟩
              obtain ⟨n3, hn3⟩ : ∃ m, m = n * 128 + c % 128 := ⟨_, rfl⟩
              have hn3b : n3 < 4611686018427387904 := by omega
              have hc2b : c2n < 128 := by omega
              rw [← hn3] at e3 HL2
              rw [← hn2] at e1 e3
              rw [← hc2] at e2 e3
              clear pa p8 pn hn2 hc2 hn3 p9
              go_wp2_with fail
              go_roundw
              case rel => exact ⟨i + 1, n3, 0, by first | rfl | go_num, by go_num, by omega, by omega, hn3b, hrd, hgr, Or.inl ⟨rfl, by omega, HL2⟩⟩
              case measure => simp [intOf]; omega
            · have p9 : c < 128 := by simp at hq9; omega
              have e3 : bits .or .i64 ((n * 128 : Nat) : Int) (c : Int) = ((n * 128 + c : Nat) : Int) := by rw [i64_or_nat _ _ (by omega) (by omega), or128_nat n c p9]
              have HQ2 := Lib.hid (show Q = (n * 128 + c, (i + 1, (0 : Int))) from by
                have h := HST.out
                rw [if_neg (by omega), if_pos p9] at h
                have h2 := HQ.out
                rw [← h] at h2
                exact h2.symm)
              have e4 : IntKind.i64.wrap ((i : Int) + 1) = ((i + 1 : Nat) : Int) := by rw [Go.IntWalk.i64_in _ (by omega)]; omega
              have HRS := Lib.hid (show Rdr (wr.setCell ⟨r, 1, none⟩ (.int .i64 ((i : Int) + 1))) r _ B (i + 1, (0 : Int)) from hrd.out.setAt (i + 1) (by have := HNB.out; omega))
              have HGS := Lib.hid (hgr.out.andThen (grown_cell' wr r 1 (.int .i64 ((i : Int) + 1))) (fun j hj => Or.inr hj))
              obtain ⟨n2, hn2⟩ : ∃ m, m = n * 128 := ⟨_, rfl⟩
              obtain ⟨n3, hn3⟩ : ∃ m, m = n * 128 + c := ⟨_, rfl⟩
              rw [← hn3] at e3 HQ2
              rw [← hn2] at e1 e3
              clear e4
              clear pa p8 pn hn2 hn3 p9
              go_wp2_with fail
              go_ret
              exact ⟨by rw [HQ2.out]; rfl, by rw [HQ2.out]; exact HRS.out, HGS.out⟩
          · have pa : ¬ i = a := by simp at hqa; omega
            have p8 : c = 128 := by simp at hq8; omega
            have pn : 36028797018963968 ≤ n := by simp at hqn; omega
            have HFA := Lib.hid (HF.out 31 _ hrd.out)
            have HQ2 := Lib.hid (show Q = (0, (a, (31 : Int))) from by
              have h := HST.out
              rw [if_pos (by omega)] at h
              have h2 := HQ.out
              rw [← h] at h2
              exact h2.symm)
            clear pa p8 pn
            go_wp2_with fail
            refine HFA.out.mono ?_
            rintro e w1 ⟨rfl, hr1, hg3⟩
            have HR1 := Lib.hid hr1
            have HG1 := Lib.hid (hgr.out.andThen hg3 (fun j hj => Or.inr hj))
            clear hr1 hg3
            go_wp2_with fail
            go_roundw
            case rel => exact ⟨i + 1, n, 31, rfl, by go_num, by omega, by omega, by omega, HR1, HG1, Or.inr ⟨by decide, HQ2⟩⟩
            case measure => simp [intOf]; omega
          · have pa : i = a := by simp at hqa; omega
            have p8 : ¬ c = 128 := by simp at hq8; omega
            have pn : n < 36028797018963968 := by simp at hqn; omega
            have e1 : IntKind.i64.wrap ((n : Int) * 128) = ((n * 128 : Nat) : Int) := by rw [Go.IntWalk.i64_in _ (by omega)]; omega
            cases hq9 : decide ((c : Int) < 128)
            · have p9 : ¬ c < 128 := by simp at hq9; omega
              have e2 : bits .and .u8 (c : Int) 127 = ((c % 128 : Nat) : Int) := by have h := u8_and_nat c 127 hc256 (by decide); rw [and127_nat c hc256] at h; exact h
              have e3 : bits .or .i64 ((n * 128 : Nat) : Int) ((c % 128 : Nat) : Int) = ((n * 128 + c % 128 : Nat) : Int) := by rw [i64_or_nat _ _ (by omega) (by omega), or128_nat n _ (by omega)]
              have HL2 := Lib.hid (show numL B a (nb + 1 - (i + 1)) (i + 1) (n * 128 + c % 128) = numR B a from by
                have h := HST.out
                rw [if_neg (by omega), if_neg p9] at h
                rw [show nb + 1 - (i + 1) = nb - i by omega]
                exact h)
              obtain ⟨n2, hn2⟩ : ∃ m, m = n * 128 := ⟨_, rfl⟩
              obtain ⟨c2n, hc2⟩ : ∃ m, m = c % 128 := ⟨_, rfl⟩
              obtain ⟨n3, hn3⟩ : ∃ m, m = n * 128 + c % 128 := ⟨_, rfl⟩
              have hn3b : n3 < 4611686018427387904 := by omega
              have hc2b : c2n < 128 := by omega
              rw [← hn3] at e3 HL2
              rw [← hn2] at e1 e3
              rw [← hc2] at e2 e3
              clear pa p8 pn hn2 hc2 hn3 p9
              go_wp2_with fail
              go_roundw
              case rel => exact ⟨i + 1, n3, 0, by first | rfl | go_num, by go_num, by omega, by omega, hn3b, hrd, hgr, Or.inl ⟨rfl, by omega, HL2⟩⟩
              case measure => simp [intOf]; omega
            · have p9 : c < 128 := by simp at hq9; omega
              have e3 : bits .or .i64 ((n * 128 : Nat) : Int) (c : Int) = ((n * 128 + c : Nat) : Int) := by rw [i64_or_nat _ _ (by omega) (by omega), or128_nat n c p9]
              have HQ2 := Lib.hid (show Q = (n * 128 + c, (i + 1, (0 : Int))) from by
                have h := HST.out
                rw [if_neg (by omega), if_pos p9] at h
                have h2 := HQ.out
                rw [← h] at h2
                exact h2.symm)
              have e4 : IntKind.i64.wrap ((i : Int) + 1) = ((i + 1 : Nat) : Int) := by rw [Go.IntWalk.i64_in _ (by omega)]; omega
              have HRS := Lib.hid (show Rdr (wr.setCell ⟨r, 1, none⟩ (.int .i64 ((i : Int) + 1))) r _ B (i + 1, (0 : Int)) from hrd.out.setAt (i + 1) (by have := HNB.out; omega))
              have HGS := Lib.hid (hgr.out.andThen (grown_cell' wr r 1 (.int .i64 ((i : Int) + 1))) (fun j hj => Or.inr hj))
              obtain ⟨n2, hn2⟩ : ∃ m, m = n * 128 := ⟨_, rfl⟩
              obtain ⟨n3, hn3⟩ : ∃ m, m = n * 128 + c := ⟨_, rfl⟩
              rw [← hn3] at e3 HQ2
              rw [← hn2] at e1 e3
              clear e4
              clear pa p8 pn hn2 hn3 p9
              go_wp2_with fail
              go_ret
              exact ⟨by rw [HQ2.out]; rfl, by rw [HQ2.out]; exact HRS.out, HGS.out⟩
          · have pa : i = a := by simp at hqa; omega
            have p8 : ¬ c = 128 := by simp at hq8; omega
            have pn : 36028797018963968 ≤ n := by simp at hqn; omega
            have HFA := Lib.hid (HF.out 31 _ hrd.out)
            have HQ2 := Lib.hid (show Q = (0, (a, (31 : Int))) from by
              have h := HST.out
              rw [if_pos (by omega)] at h
              have h2 := HQ.out
              rw [← h] at h2
              exact h2.symm)
            clear pa p8 pn
            go_wp2_with fail
            refine HFA.out.mono ?_
            rintro e w1 ⟨rfl, hr1, hg3⟩
            have HR1 := Lib.hid hr1
            have HG1 := Lib.hid (hgr.out.andThen hg3 (fun j hj => Or.inr hj))
            clear hr1 hg3
            go_wp2_with fail
            go_roundw
            case rel => exact ⟨i + 1, n, 31, rfl, by go_num, by omega, by omega, by omega, HR1, HG1, Or.inr ⟨by decide, HQ2⟩⟩
            case measure => simp [intOf]; omega
          · have pa : i = a := by simp at hqa; omega
            have p8 : c = 128 := by simp at hq8; omega
            have pn : n < 36028797018963968 := by simp at hqn; omega
            have HFA := Lib.hid (HF.out 31 _ hrd.out)
            have HQ2 := Lib.hid (show Q = (0, (a, (31 : Int))) from by
              have h := HST.out
              rw [if_pos (by omega)] at h
              have h2 := HQ.out
              rw [← h] at h2
              exact h2.symm)
            clear pa p8 pn
            go_wp2_with fail
            refine HFA.out.mono ?_
            rintro e w1 ⟨rfl, hr1, hg3⟩
            have HR1 := Lib.hid hr1
            have HG1 := Lib.hid (hgr.out.andThen hg3 (fun j hj => Or.inr hj))
            clear hr1 hg3
            go_wp2_with fail
            go_roundw
            case rel => exact ⟨i + 1, n, 31, rfl, by go_num, by omega, by omega, by omega, HR1, HG1, Or.inr ⟨by decide, HQ2⟩⟩
            case measure => simp [intOf]; omega
          · have pa : i = a := by simp at hqa; omega
            have p8 : c = 128 := by simp at hq8; omega
            have pn : 36028797018963968 ≤ n := by simp at hqn; omega
            have HFA := Lib.hid (HF.out 31 _ hrd.out)
            have HQ2 := Lib.hid (show Q = (0, (a, (31 : Int))) from by
              have h := HST.out
              rw [if_pos (by omega)] at h
              have h2 := HQ.out
              rw [← h] at h2
              exact h2.symm)
            clear pa p8 pn
            go_wp2_with fail
            refine HFA.out.mono ?_
            rintro e w1 ⟨rfl, hr1, hg3⟩
            have HR1 := Lib.hid hr1
            have HG1 := Lib.hid (hgr.out.andThen hg3 (fun j hj => Or.inr hj))
            clear hr1 hg3
            go_wp2_with fail
            go_roundw
            case rel => exact ⟨i + 1, n, 31, rfl, by go_num, by omega, by omega, by omega, HR1, HG1, Or.inr ⟨by decide, HQ2⟩⟩
            case measure => simp [intOf]; omega
        · obtain rfl : i = nb := by omega
          have HFA := Lib.hid (HF.out 30 _ hrd.out)
          have HQ2 := Lib.hid (show Q = (0, (a, (30 : Int))) from by
            have h := hL.out
            rw [numL_end B a _ i n (by rw [HNB.out]; exact Nat.le_refl _)] at h
            have h2 := HQ.out
            rw [← h] at h2
            exact h2.symm)
          clear hL
          go_wp2_with fail
          refine HFA.out.mono ?_
          rintro e w1 ⟨rfl, hr1, hg3⟩
          have HR1 := Lib.hid hr1
          have HG1 := Lib.hid (hgr.out.andThen hg3 (fun j hj => Or.inr hj))
          clear hr1 hg3
          go_wp2_with fail
          go_roundw
          case rel => exact ⟨i + 1, n, 30, rfl, by go_num, by omega, by omega, by omega, HR1, HG1, Or.inr ⟨by decide, HQ2⟩⟩
          case measure => first | (simp [intOf]; omega) | simp [intOf]
      · have hyb : ((y : Int) == 0) = false := by simpa using hy
        go_wp2_with fail
        go_ret
        exact ⟨by first | (rw [hQ.out]; rfl) | rw [hQ.out], by rw [hQ.out]; exact hrd.out, hgr.out⟩
  · have hyb : ((y : Int) == 0) = false := by simpa using hy
    have e : numS B (a, y) = (0, (a, y)) := by unfold numS; rw [if_neg hy]
    rw [e]
    clear e
    go_enter Tryz.func197, Tryz.ntmps197
    go_wp2_with fail
    go_loopw [4] (fun iv wr => iv = .int .i64 (a : Nat) ∧ wr = w) (fun _ _ => 0)
    case atStart => exact ⟨rfl, rfl⟩
    case round =>
      obtain ⟨rfl, hwr⟩ := hrel
      subst hwr
      go_wp2_with fail
      go_ret
      exact ⟨rfl, HR.out, World.grownBy.refl _ _⟩
end Go.Proofs.YtmjelcjdfamikaaGreatDoor.Rd

namespace Go.Proofs.YtmjelcjdfamikaaGreatDoor.Rd
open Go.RowKit Go.Proofs.YtmjelcjdfamikaaGreatDoor.Mrk

theorem new_any (v : Value) (B : List Nat) (w : World) (hv : BRow w v B) (hs : B.length ≤ 100000000) : Calls Tryz.prog 165 #[v] w fun e w' => e = .returned (pR w.heap.size) ∧ Rdr w' w.heap.size v B (0, 0) ∧ Below w.heap.size w w' := by
  obtain ⟨ao, cap, rfl, -, -⟩ := Lst.form hv
  obtain ⟨n, hn⟩ : ∃ n, n = B.length := ⟨_, rfl⟩
  have HF := Lib.hid (show Rdr (w.alloc (.cells #[.slice ao n cap, .int .i64 0, .int .i64 0] 247)) w.heap.size (.slice ao n cap) B (0, 0) from by
    rw [hn]
    have hb : Below w.heap.size w (w.alloc (.cells #[.slice ao B.length cap, .int .i64 0, .int .i64 0] 247)) := (Below.refl _ _).alloc (Nat.le_refl _) _
    refine ⟨by simp, by go_simp, by go_simp, by go_simp, by go_simp, by go_simp, by go_simp, Lst.below hv hb, fun hne ad k c e => ?_, Nat.zero_le _, hs⟩
    obtain ⟨ao', cap', e1, _, _, h3⟩ := hv
    rcases h3 with h3 | ⟨g, off, e2, hg, _⟩
    · exact absurd (List.eq_nil_of_length_eq_zero h3) hne
    · subst e2
      cases e1
      cases e
      exact Nat.ne_of_lt hg)
  rw [← hn]
  clear hv hs hn
  go_enter Tryz.func165, Tryz.ntmps165
  go_wp2_with fail
  go_ret
  exact ⟨rfl, HF.out, (Below.refl _ _).alloc (Nat.le_refl _) _⟩

/-- Count: the number, the reader behind it. -/
def countS (B : List Nat) (most : Int) (s : S) : Nat × S :=
  if (numS B s).2.2 = 0 then if most < (numS B s).1 then (0, (s.1, 31)) else numS B s else (0, (s.1, (numS B s).2.2))
theorem countS_ok (B : List Nat) (most : Int) (s : S) (hs : s.1 ≤ B.length) : (countS B most s).2.1 ≤ B.length ∧ s.1 ≤ (countS B most s).2.1 ∧ ((countS B most s).1 : Int) ≤ max most 0 := by
  have h := numS_ok B s hs
  unfold countS
  split
  · split
    · exact ⟨hs, Nat.le_refl _, (show ((0 : Nat) : Int) ≤ max most 0 by omega)⟩
    · exact ⟨h.1, h.2.2, by omega⟩
  · exact ⟨hs, Nat.le_refl _, (show ((0 : Nat) : Int) ≤ max most 0 by omega)⟩

set_option maxHeartbeats 4000000 in
set_option maxRecDepth 100000 in
theorem count_any (r : Nat) (v : Value) (B : List Nat) (most : Int) (s : S) (w : World) (h : Rdr w r v B s) (hB : ∀ c ∈ B, c < 256) :
    Calls Tryz.prog 198 #[pR r, .int .i64 most] w (RdP r v B (countS B most s).2 (.int .i64 ((countS B most s).1 : Nat)) w) := by
  have HNU := Lib.hid (num_any r v B s w h hB)
  have HF := Lib.hid (fun (s : S) (y : Int) (w1 : World) (h : Rdr w1 r v B s) => fail_any r v B s y w1 h)
  have hok := numS_ok B s h.at_
  have HAT := Lib.hid (show ∀ (W : World) (q : S), Rdr W r v B q → Rdr (W.setCell ⟨r, 1, none⟩ (.int .i64 (s.1 : Nat))) r v B (s.1, q.2) from fun W q hq => hq.setAt s.1 h.at_)
  obtain ⟨x, hx⟩ : ∃ x, x = numS B s := ⟨_, rfl⟩
  obtain ⟨a, y⟩ := s
  obtain ⟨Q, hQe⟩ : ∃ Q, Q = countS B most (a, y) := ⟨_, rfl⟩
  have HQ := Lib.hid (show Q = if x.2.2 = 0 then if most < x.1 then (0, (a, (31 : Int))) else x else (0, (a, x.2.2)) from by rw [hQe, hx]; rfl)
  rw [← hQe]
  rw [← hx] at HNU hok
  obtain ⟨n, a1, y1⟩ := x
  have c1 := h.c1
  simp only [] at c1 hok
  have hn62 := hok.2.1
  clear h hok hx hQe
  go_enter Tryz.func198, Tryz.ntmps198
  go_wp2_with fail
  refine HNU.out.mono ?_
  rintro e w1 ⟨rfl, hr1, hg1⟩
  have HR1 := Lib.hid hr1
  have HG1 := Lib.hid hg1
  have d1 := hr1.c1
  have d2 := hr1.c2
  have g1 := hr1.f1
  simp only [] at d1 d2
  clear hr1 hg1 c1
  cases hy : ((y1 : Int) == 0)
  · have hy' : ¬ y1 = 0 := by simpa using hy
    have HFA := Lib.hid (HAT.out w1 (a1, y1) HR1.out)
    have HE := Lib.hid (show Q = (0, (a, y1)) from by have h := HQ.out; simpa [hy'] using h)
    clear hy'
    go_wp2_with fail
    go_ret
    exact ⟨by first | (rw [HE.out]; rfl) | rw [HE.out], by rw [HE.out]; exact HFA.out, HG1.out.andThen (grown_cell' _ _ _ _) (fun j hj => Or.inr hj)⟩
  · have hy' : y1 = 0 := by simpa using hy
    subst hy'
    cases hm : decide ((n : Int) > most)
    · have hm' : ¬ most < (n : Int) := by simpa using hm
      have HE := Lib.hid (show Q = (n, (a1, (0 : Int))) from by have h := HQ.out; simpa [hm'] using h)
      clear hm'
      go_wp2_with fail
      go_ret
      exact ⟨by first | (rw [HE.out]; rfl) | rw [HE.out], by rw [HE.out]; exact HR1.out, HG1.out⟩
    · have hm' : most < (n : Int) := by simpa using hm
      have HE := Lib.hid (show Q = (0, (a, (31 : Int))) from by have h := HQ.out; simpa [hm'] using h)
      have HFA := Lib.hid (HF.out (a1, 0) 31 w1 HR1.out)
      clear hm'
      go_wp2_with fail
      refine HFA.out.mono ?_
      rintro e w2 ⟨rfl, hr2, hg2⟩
      have HR2 := Lib.hid (show Rdr w2 r v B (a1, (31 : Int)) from hr2)
      have HG2 := Lib.hid (HG1.out.andThen hg2 (fun j hj => Or.inr hj))
      have e2 := HR2.out.c2
      have e1 := HR2.out.c1
      have k1 := HR2.out.f1
      simp only [] at e1 e2
      have HFB := Lib.hid (HAT.out w2 (a1, 31) HR2.out)
      clear hr2 hg2 d1 d2 g1
      go_wp2_with fail
      go_ret
      exact ⟨by first | (rw [HE.out]; rfl) | rw [HE.out], by rw [HE.out]; exact HFB.out, HG2.out.andThen (grown_cell' _ _ _ _) (fun j hj => Or.inr hj)⟩
end Go.Proofs.YtmjelcjdfamikaaGreatDoor.Rd

namespace Go.Proofs.YtmjelcjdfamikaaGreatDoor.Rd
open Go.RowKit Go.Proofs.YtmjelcjdfamikaaGreatDoor.Mrk Go.Proofs.YtmjelcjdfamikaaGreatDoor.RegInv

/-- The text of these bytes. -/
def strOf (l : List Nat) : ByteArray := (l.map fun c : Nat => (c : Int)).foldl (fun r n => r.push (UInt8.ofNat n.toNat)) ByteArray.empty
theorem conv_bytes (W : World) (ad : Addr) (L : List Nat) (n cc : Nat) (hn : n = L.length) (h : ∀ j c, L[j]? = some c → W.cell? (ad.add j) = some (.int .u8 (c : Nat))) :
    (convert 110 9 (.slice (some ad) n cc)).run Tryz.prog W = .ok (.string (strOf L)) W := by
  rw [run_convert_bytes_string W _ _ 5 (some ad) n cc Tryz.underlying110 Tryz.underlying5 Tryz.underlying9]
  refine run_bytesToString W ad n cc (L.map fun c : Nat => (c : Int)) ?_
  have h1 := run_loadCells_list (P := Tryz.prog) (w := W) ad (L.map fun c : Nat => Value.int .u8 (c : Int)) (fun j v hv => by
    rw [List.getElem?_map] at hv
    obtain ⟨c, hc, rfl⟩ := Option.map_eq_some_iff.1 hv
    exact h j c hc)
  rw [List.length_map, ← hn] at h1
  rw [h1, List.map_map]
  rfl
/-- Text: what is told, the reader behind it. -/
def textS (B : List Nat) (most : Int) (s : S) : ByteArray × S :=
  if (numS B s).2.2 = 0 then
    if most < (numS B s).1 then (ByteArray.empty, (s.1, 31))
    else if B.length - (numS B s).2.1 < (numS B s).1 then (ByteArray.empty, (s.1, 30))
    else (strOf ((B.drop (numS B s).2.1).take (numS B s).1), ((numS B s).2.1 + (numS B s).1, 0))
  else (ByteArray.empty, (s.1, (numS B s).2.2))

set_option maxHeartbeats 8000000 in
set_option maxRecDepth 100000 in
theorem text_any (r : Nat) (v : Value) (B : List Nat) (most : Int) (s : S) (w : World) (h : Rdr w r v B s) (hB : ∀ c ∈ B, c < 256) :
    Calls Tryz.prog 201 #[pR r, .int .i64 most] w (RdP r v B (textS B most s).2 (.string (textS B most s).1) w) := by
  have HNU := Lib.hid (num_any r v B s w h hB)
  have HF := Lib.hid (fun (s : S) (y : Int) (w1 : World) (h : Rdr w1 r v B s) => fail_any r v B s y w1 h)
  have HL := Lib.hid (fun (s : S) (w1 : World) (h : Rdr w1 r v B s) => left_any r v B s w1 h)
  have hok := numS_ok B s h.at_
  have hpos := numS_pos B s h.at_
  have HAT := Lib.hid (show ∀ (W : World) (q : S), Rdr W r v B q → Rdr (W.setCell ⟨r, 1, none⟩ (.int .i64 (s.1 : Nat))) r v B (s.1, q.2) from fun W q hq => hq.setAt s.1 h.at_)
  obtain ⟨x, hx⟩ : ∃ x, x = numS B s := ⟨_, rfl⟩
  obtain ⟨a, y⟩ := s
  obtain ⟨Q, hQe⟩ : ∃ Q, Q = textS B most (a, y) := ⟨_, rfl⟩
  have HQ := Lib.hid (show Q = if x.2.2 = 0 then if most < x.1 then (ByteArray.empty, (a, (31 : Int))) else if B.length - x.2.1 < x.1 then (ByteArray.empty, (a, (30 : Int))) else (strOf ((B.drop x.2.1).take x.1), (x.2.1 + x.1, (0 : Int))) else (ByteArray.empty, (a, x.2.2)) from by rw [hQe, hx]; rfl)
  rw [← hQe]
  rw [← hx] at HNU hok hpos
  obtain ⟨n, a1, y1⟩ := x
  have hq := HQ.out
  have HQ0 := Lib.hid (show ¬ y1 = 0 → Q = (ByteArray.empty, (a, y1)) from fun h1 => by rw [hq]; show (if y1 = 0 then (if most < ((n : Nat) : Int) then (ByteArray.empty, ((a, (31 : Int)) : S)) else if B.length - a1 < n then (ByteArray.empty, (a, (30 : Int))) else (strOf ((B.drop a1).take n), (a1 + n, (0 : Int)))) else (ByteArray.empty, (a, y1))) = _; rw [if_neg h1])
  have HQ1 := Lib.hid (show y1 = 0 → most < (n : Int) → Q = (ByteArray.empty, (a, (31 : Int))) from fun h1 h2 => by rw [hq]; show (if y1 = 0 then (if most < ((n : Nat) : Int) then (ByteArray.empty, ((a, (31 : Int)) : S)) else if B.length - a1 < n then (ByteArray.empty, (a, (30 : Int))) else (strOf ((B.drop a1).take n), (a1 + n, (0 : Int)))) else (ByteArray.empty, (a, y1))) = _; rw [if_pos h1, if_pos h2])
  have HQ2 := Lib.hid (show y1 = 0 → ¬ most < (n : Int) → B.length - a1 < n → Q = (ByteArray.empty, (a, (30 : Int))) from fun h1 h2 h3 => by rw [hq]; show (if y1 = 0 then (if most < ((n : Nat) : Int) then (ByteArray.empty, ((a, (31 : Int)) : S)) else if B.length - a1 < n then (ByteArray.empty, (a, (30 : Int))) else (strOf ((B.drop a1).take n), (a1 + n, (0 : Int)))) else (ByteArray.empty, (a, y1))) = _; rw [if_pos h1, if_neg h2, if_pos h3])
  have HQ3 := Lib.hid (show y1 = 0 → ¬ most < (n : Int) → ¬ B.length - a1 < n → Q = (strOf ((B.drop a1).take n), (a1 + n, (0 : Int))) from fun h1 h2 h3 => by rw [hq]; show (if y1 = 0 then (if most < ((n : Nat) : Int) then (ByteArray.empty, ((a, (31 : Int)) : S)) else if B.length - a1 < n then (ByteArray.empty, (a, (30 : Int))) else (strOf ((B.drop a1).take n), (a1 + n, (0 : Int)))) else (ByteArray.empty, (a, y1))) = _; rw [if_pos h1, if_neg h2, if_neg h3])
  clear hq HQ
  have c1 := h.c1
  have hsm := h.small
  simp only [] at c1 hok hpos
  obtain ⟨ha1, hn62, haa⟩ := hok
  have HPS := Lib.hid hpos
  clear h hx hQe hpos
  go_enter Tryz.func201, Tryz.ntmps201
  go_wp2_with fail
  refine HNU.out.mono ?_
  rintro e w1 ⟨rfl, hr1, hg1⟩
  have HR1 := Lib.hid hr1
  have HG1 := Lib.hid hg1
  have d1 := hr1.c1
  have d2 := hr1.c2
  have g1 := hr1.f1
  simp only [] at d1 d2
  clear hr1 hg1 c1
  cases hy : ((y1 : Int) == 0)
  · have hy' : ¬ y1 = 0 := by simpa using hy
    have HFA := Lib.hid (HAT.out w1 (a1, y1) HR1.out)
    have HE := Lib.hid (HQ0.out hy')
    clear hy'
    go_wp2_with fail
    go_ret
    exact ⟨by first | (rw [HE.out]; rfl) | rw [HE.out], by rw [HE.out]; exact HFA.out, HG1.out.andThen (grown_cell' _ _ _ _) (fun j hj => Or.inr hj)⟩
  · have hy' : y1 = 0 := by simpa using hy
    subst hy'
    cases hm : decide ((n : Int) > most)
    · have hm' : ¬ most < (n : Int) := by simpa using hm
      go_wp2_with fail
      refine (HL.out (a1, 0) w1 HR1.out).mono ?_
      rintro e w2 ⟨rfl, hb2⟩
      have HR2 := Lib.hid (HR1.out.below hb2)
      have HG2 := Lib.hid (show w.grownBy w2 (some r) from HG1.out.andThen (row' := none) ⟨hb2.os, hb2.tape, hb2.output, hb2.size, fun k hk _ => hb2.block k hk⟩ (fun j hj => by cases hj))
      obtain ⟨lf, hlf⟩ : ∃ l, l = B.length - a1 := ⟨_, rfl⟩
      have e0 := HR2.out.c0
      have e1 := HR2.out.c1
      have e2 := HR2.out.c2
      have k1 := HR2.out.f1
      simp only [] at e1 e2
      have hlf2 : ((B.length - (a1, (0 : Int)).1 : Nat) : Int) = (lf : Int) := by rw [hlf]
      rw [hlf2]
      clear hb2 d1 d2 g1 hlf2
      cases hgt : decide ((n : Int) > (lf : Int))
      · have hgt' : ¬ lf < n := by simp at hgt; omega
        have HE := Lib.hid (HQ3.out (by first | rfl | trivial) hm' (by rw [hlf] at hgt'; exact hgt'))
        have hpos := HPS.out (by first | rfl | trivial)
        obtain ⟨ao, cap, rfl, hcb, -⟩ := Lst.form HR2.out.row
        obtain ⟨g, off, rfl, hgw, hgc⟩ : ∃ g off, ao = some ⟨g, off, none⟩ ∧ g < w2.heap.size ∧ ∀ j c, B[j]? = some c → w2.cell? ⟨g, off + j, none⟩ = some (.int .u8 (c : Nat)) := by
          obtain ⟨b, o, e, hb, hc⟩ := Lst.get HR2.out.row (i := 0) (by omega)
          subst e
          refine ⟨b, o, rfl, hb, fun j c hj => ?_⟩
          obtain ⟨b2, o2, e2, -, h2⟩ := byte_at HR2.out.row hj
          cases e2
          exact h2
        obtain ⟨nb, hnb⟩ : ∃ k, k = B.length := ⟨_, rfl⟩
        have HNB := Lib.hid hnb
        rw [← hnb] at e0 hcb ha1 hlf hsm
        have hle : a1 + n ≤ nb := by omega
        have HS := Lib.hid (show Rdr (w2.setCell ⟨r, 1, none⟩ (.int .i64 ((a1 : Int) + (n : Int)))) r _ B (a1 + n, (0 : Int)) from HR2.out.setAt (a1 + n) (by rw [← hnb]; omega))
        have HGS := Lib.hid (HG2.out.andThen (grown_cell' w2 r 1 (.int .i64 ((a1 : Int) + (n : Int)))) (fun j hj => Or.inr hj))
        obtain ⟨W3, hW3⟩ : ∃ W, W = w2.setCell ⟨r, 1, none⟩ (.int .i64 ((a1 : Int) + (n : Int))) := ⟨_, rfl⟩
        rw [← hW3] at HS HGS
        clear hm' hlf
        have HX := Lib.hid (show ∀ (W : World), Below W3.heap.size W3 W → W.cell? ⟨r, 0, none⟩ = some (.slice (some ⟨g, off, none⟩) nb cap) ∧ W.cell? ⟨r, 1, none⟩ = some (.int .i64 ((a1 : Int) + (n : Int))) from fun W hb => by
          have h := (HS.out.below hb).c0
          rw [← hnb] at h
          exact ⟨h, (HS.out.below hb).c1⟩)
        have hrg : g ≠ r := HR2.out.far (fun e => by rw [e] at hnb; simp at hnb; omega) _ _ _ rfl
        have HL3 := Lib.hid (show ∀ (W : World), Below W3.heap.size W3 W → ∀ j c, ((B.drop a1).take n)[j]? = some c → W.cell? ⟨g, off + a1 + j, none⟩ = some (.int .u8 (c : Nat)) from fun W hb j c hj => by
          have hj2 : B[a1 + j]? = some c := by
            rw [List.getElem?_take] at hj
            split at hj
            · rw [List.getElem?_drop] at hj; exact hj
            · cases hj
          have h1 := hgc (a1 + j) c hj2
          have h3 : W3.cell? ⟨g, off + (a1 + j), none⟩ = some (.int .u8 (c : Nat)) := by rw [hW3, World.cell?_setCell_far w2 ⟨r, 1, none⟩ ⟨g, off + (a1 + j), none⟩ _ (fun e => hrg e.symm)]; exact h1
          have hg3 : g < W3.heap.size := by rw [hW3]; simpa using hgw
          rw [Nat.add_assoc, World.cell?_of_block (a := ⟨g, off + (a1 + j), none⟩) (hb.block g hg3)]
          exact h3)
        have HLN := Lib.hid (show n = ((B.drop a1).take n).length from by rw [List.length_take, List.length_drop]; omega)
        obtain ⟨L, hLL⟩ : ∃ L, L = (B.drop a1).take n := ⟨_, rfl⟩
        rw [← hLL] at HE HL3 HLN
        clear hnb hLL hgc
        go_upto_region 4 with fail
        rw [← hW3]
        clear hW3
        refine wp_region_told [] 16 [false, false, false, false, false, false, false, false, false, false, false, false, false, false, false, false, false, false, false, false, false, true, true, true, true, true, true, true, true, true, true, true, true, true, true, true, true, false, false, false, false, false, false, false, false, false, false, false, false, false, false, false, false, false, false, false, false, false, false, false]
          [sLit (.pointer (some ⟨r, 0, none⟩)),
    sLit (.pointer (some ⟨r, 0, none⟩)),
    sLit (.pointer (some ⟨r, 0, none⟩)),
    sLit (.slice (some ⟨g, off, none⟩) nb cap),
    sLit (.pointer (some ⟨r, 0, none⟩)),
    sLit (.pointer (some ⟨r, 0, none⟩)),
    sLit (.pointer (some ⟨r, 1, none⟩)),
    sLit (.int .i64 ((a1 : Int) + (n : Int))),
    sLit (.int .i64 (n : Nat)),
    sLit (.int .i64 (a1 : Nat)),
    sLit (.pointer (some ⟨r, 0, none⟩)),
    sLit (.pointer (some ⟨r, 0, none⟩)),
    sLit (.pointer (some ⟨r, 1, none⟩)),
    sLit (.int .i64 ((a1 : Int) + (n : Int))),
    sOne (fun v _ => ∃ ad cc, v = .slice (some ad) n cc ∧ (n = 0 ∨ ad = ⟨g, off + a1, none⟩)) (fun _ _ _ h _ => h),
    sLit (.string (strOf L))] (by kernel_rfl) (by kernel_rfl) (by kernel_rfl) (fun F hF => ?_)
        simp only [over, overL, Nat.reduceAdd] at hF
        obtain rfl := funext hF
        clear hF
        refine ⟨⟨?_, ?_, ?_, ?_, ?_, ?_, ?_, ?_, ?_, ?_, ?_, ?_, ?_, ?_, ?_, ?_, trivial⟩, ?_⟩
        · intro V W hb hd K hK _
          clear hd
          go_wp2_with fail
          refine hK _ _ ?_ ?_ ?_ ?_
          · rfl
          · exact Below.refl _ _
          · exact rfl
          · trivial
        · intro V W hb hd K hK _
          have h0 : (V 21) = .pointer (some ⟨r, 0, none⟩) := hd 0 (by kernel_rfl)
          clear hd
          go_wp2_with fail
          refine hK _ _ ?_ ?_ ?_ ?_
          · rfl
          · exact Below.refl _ _
          · exact rfl
          · trivial
        · intro V W hb hd K hK _
          have h1 : (V 22) = .pointer (some ⟨r, 0, none⟩) := hd 1 (by kernel_rfl)
          clear hd
          go_wp2_with fail
          refine hK _ _ ?_ ?_ ?_ ?_
          · rfl
          · exact Below.refl _ _
          · exact rfl
          · trivial
        · intro V W hb hd K hK _
          have h2 : (V 23) = .pointer (some ⟨r, 0, none⟩) := hd 2 (by kernel_rfl)
          clear hd
          obtain ⟨s0, s1⟩ := HX.out W hb
          go_wp2_with fail
          refine hK _ _ ?_ ?_ ?_ ?_
          · rfl
          · exact Below.refl _ _
          · exact rfl
          · trivial
        · intro V W hb hd K hK _
          clear hd
          go_wp2_with fail
          refine hK _ _ ?_ ?_ ?_ ?_
          · rfl
          · exact Below.refl _ _
          · exact rfl
          · trivial
        · intro V W hb hd K hK _
          have h4 : (V 25) = .pointer (some ⟨r, 0, none⟩) := hd 4 (by kernel_rfl)
          clear hd
          go_wp2_with fail
          refine hK _ _ ?_ ?_ ?_ ?_
          · rfl
          · exact Below.refl _ _
          · exact rfl
          · trivial
        · intro V W hb hd K hK _
          have h5 : (V 26) = .pointer (some ⟨r, 0, none⟩) := hd 5 (by kernel_rfl)
          clear hd
          go_wp2_with fail
          refine hK _ _ ?_ ?_ ?_ ?_
          · rfl
          · exact Below.refl _ _
          · exact rfl
          · trivial
        · intro V W hb hd K hK _
          have h6 : (V 27) = .pointer (some ⟨r, 1, none⟩) := hd 6 (by kernel_rfl)
          clear hd
          obtain ⟨s0, s1⟩ := HX.out W hb
          go_wp2_with fail
          refine hK _ _ ?_ ?_ ?_ ?_
          · rfl
          · exact Below.refl _ _
          · exact rfl
          · trivial
        · intro V W hb hd K hK _
          clear hd
          go_wp2_with fail
          refine hK _ _ ?_ ?_ ?_ ?_
          · rfl
          · exact Below.refl _ _
          · exact rfl
          · trivial
        · intro V W hb hd K hK _
          have h7 : (V 28) = .int .i64 ((a1 : Int) + (n : Int)) := hd 7 (by kernel_rfl)
          have h8 : (V 29) = .int .i64 (n : Nat) := hd 8 (by kernel_rfl)
          clear hd
          go_wp2_with fail
          refine hK _ _ ?_ ?_ ?_ ?_
          · rfl
          · exact Below.refl _ _
          · first | rfl | simp
          · trivial
        · intro V W hb hd K hK _
          clear hd
          go_wp2_with fail
          refine hK _ _ ?_ ?_ ?_ ?_
          · rfl
          · exact Below.refl _ _
          · exact rfl
          · trivial
        · intro V W hb hd K hK _
          have h10 : (V 31) = .pointer (some ⟨r, 0, none⟩) := hd 10 (by kernel_rfl)
          clear hd
          go_wp2_with fail
          refine hK _ _ ?_ ?_ ?_ ?_
          · rfl
          · exact Below.refl _ _
          · exact rfl
          · trivial
        · intro V W hb hd K hK _
          have h11 : (V 32) = .pointer (some ⟨r, 0, none⟩) := hd 11 (by kernel_rfl)
          clear hd
          go_wp2_with fail
          refine hK _ _ ?_ ?_ ?_ ?_
          · rfl
          · exact Below.refl _ _
          · exact rfl
          · trivial
        · intro V W hb hd K hK _
          have h12 : (V 33) = .pointer (some ⟨r, 1, none⟩) := hd 12 (by kernel_rfl)
          clear hd
          obtain ⟨s0, s1⟩ := HX.out W hb
          go_wp2_with fail
          refine hK _ _ ?_ ?_ ?_ ?_
          · rfl
          · exact Below.refl _ _
          · exact rfl
          · trivial
        · intro V W hb hd K hK _
          have h3 : (V 24) = .slice (some ⟨g, off, none⟩) nb cap := hd 3 (by kernel_rfl)
          have h9 : (V 30) = .int .i64 (a1 : Nat) := hd 9 (by kernel_rfl)
          have h13 : (V 34) = .int .i64 ((a1 : Int) + (n : Int)) := hd 13 (by kernel_rfl)
          clear hd
          go_wp2_with fail
          all_goals
            refine hK _ _ ?_ ?_ ?_ ?_
            · rfl
            · exact Below.refl _ _
            · exact ⟨_, _, rfl, by first | exact Or.inr rfl | (left; omega)⟩
            · trivial
        · intro V W hb hd K hK _
          have h14 : ∃ ad cc, (V 35) = .slice (some ad) n cc ∧ (n = 0 ∨ ad = ⟨g, off + a1, none⟩) := hd 14 (by kernel_rfl)
          clear hd
          obtain ⟨ad, cc, e14, had⟩ := h14
          have hcv := conv_bytes W ad L n cc HLN.out (fun j c hj => by
            rcases had with h0 | h0
            · have h1 := HLN.out; rw [h0] at h1; rw [List.eq_nil_of_length_eq_zero h1.symm] at hj; simp at hj
            · rw [h0, addr_add]; exact HL3.out W hb j c hj)
          clear had
          go_wp2_with fail
          refine hK _ _ ?_ ?_ ?_ ?_
          · rfl
          · exact Below.refl _ _
          · exact rfl
          · trivial
        · intro V W hb hd hap
          have h15 : (V 36) = .string (strOf L) := hd 15 (by decide)
          clear hd hap
          simp only [List.drop_succ_cons, List.drop_zero]
          have HB4 := Lib.hid hb
          have HRZ := Lib.hid (HS.out.below hb)
          have HGZ := Lib.hid (show w.grownBy W (some r) from HGS.out.andThen (row' := none) ⟨hb.os, hb.tape, hb.output, hb.size, fun k hk _ => hb.block k hk⟩ (fun j hj => by cases hj))
          clear hb
          go_wp2_with fail
          go_ret
          exact ⟨by first | (rw [HE.out]; rfl) | rw [HE.out], by rw [HE.out]; exact HRZ.out, HGZ.out⟩
      · have hgt' : lf < n := by simp at hgt; omega
        have HE := Lib.hid (HQ2.out (by first | rfl | trivial) hm' (by rw [hlf] at hgt'; exact hgt'))
        have HFA := Lib.hid (HF.out (a1, 0) 30 w2 HR2.out)
        clear hm' e0 e1 e2 k1 hlf
        go_wp2_with fail
        refine HFA.out.mono ?_
        rintro e w3 ⟨rfl, hr3, hg3⟩
        have HR3 := Lib.hid (show Rdr w3 r v B (a1, (30 : Int)) from hr3)
        have HG3 := Lib.hid (HG2.out.andThen hg3 (fun j hj => Or.inr hj))
        have e2 := HR3.out.c2
        have e1 := HR3.out.c1
        have k1 := HR3.out.f1
        simp only [] at e1 e2
        have HFB := Lib.hid (HAT.out w3 (a1, 30) HR3.out)
        clear hr3 hg3
        go_wp2_with fail
        go_ret
        exact ⟨by first | (rw [HE.out]; rfl) | rw [HE.out], by rw [HE.out]; exact HFB.out, HG3.out.andThen (grown_cell' _ _ _ _) (fun j hj => Or.inr hj)⟩
    · have hm' : most < (n : Int) := by simpa using hm
      have HE := Lib.hid (HQ1.out (by first | rfl | trivial) hm')
      have HFA := Lib.hid (HF.out (a1, 0) 31 w1 HR1.out)
      clear hm'
      go_wp2_with fail
      refine HFA.out.mono ?_
      rintro e w2 ⟨rfl, hr2, hg2⟩
      have HR2 := Lib.hid (show Rdr w2 r v B (a1, (31 : Int)) from hr2)
      have HG2 := Lib.hid (HG1.out.andThen hg2 (fun j hj => Or.inr hj))
      have e2 := HR2.out.c2
      have e1 := HR2.out.c1
      have k1 := HR2.out.f1
      simp only [] at e1 e2
      have HFB := Lib.hid (HAT.out w2 (a1, 31) HR2.out)
      clear hr2 hg2 d1 d2 g1
      go_wp2_with fail
      go_ret
      exact ⟨by first | (rw [HE.out]; rfl) | rw [HE.out], by rw [HE.out]; exact HFB.out, HG2.out.andThen (grown_cell' _ _ _ _) (fun j hj => Or.inr hj)⟩
end Go.Proofs.YtmjelcjdfamikaaGreatDoor.Rd

namespace Go.Proofs.YtmjelcjdfamikaaGreatDoor.Mrk
open Go.RowKit Go.Proofs.YtmjelcjdfamikaaGreatDoor.Spare Go.Proofs.YtmjelcjdfamikaaGreatDoor.RegInv
set_option linter.unusedSectionVars false

def ivN : Value → Nat
  | .int _ x => x.toNat
  | _ => 0
def stL (bs : List Nat) (p l h : Nat) : List Nat := ((bs ++ putF p) ++ putF l) ++ putF h
def headL : List Nat := (([] ++ putF 0) ++ putF 0) ++ putF 0
/-- The bytes of a version that has a fence, and nothing else. -/
def verL (p l h : Nat) : List Nat := stL (stL (stL headL 0 0 0) p l h) 0 0 0 ++ putF 0
abbrev vVer (p l h : Nat) : Value := .agg #[.int .i64 0, .int .i64 0, .slice none 0 0, .int .i64 0, .int .i64 0, .int .i64 0, .int .i64 p, .int .i64 l, .int .i64 h, .int .i64 0, .int .i64 0, .int .i64 0, .bool false]
/-- Bytes come back, in a row of the call's own. -/
def ByP (L : List Nat) (w : World) (e : Ending) (w' : World) : Prop := ∃ v', e = .returned v' ∧ OwnB w' w.heap.size v' L ∧ Below w.heap.size w w'
theorem flag_no (w : World) : Calls Tryz.prog 173 #[.bool false] w fun e w' => e = .returned (.int .i64 0) ∧ w = w' := by
  go_enter Tryz.func173, Tryz.ntmps173
  go_wp2
  go_ret
  exact ⟨rfl, rfl⟩
theorem stL_len (bs : List Nat) (p l h : Nat) (hp : p < 9223372036854775808) (hl : l < 9223372036854775808) (hh : h < 9223372036854775808) : (stL bs p l h).length ≤ bs.length + 30 := by
  have t1 := putF_ten (n := p) (by omega)
  have t2 := putF_ten (n := l) (by omega)
  have t3 := putF_ten (n := h) (by omega)
  unfold stL
  simp only [List.length_append]
  omega

abbrev arr3 (p l h : Nat) : Value := .agg #[.int .i64 0, .int .i64 0, .int .i64 0, .int .i64 p, .int .i64 l, .int .i64 h, .int .i64 0, .int .i64 0, .int .i64 0]
theorem index3_0 (p l h : Nat) (W : World) : (Instr.index 196 (arr3 p l h) (.int .i64 0)).run Tryz.prog W = .ok (.agg #[.int .i64 0, .int .i64 0, .int .i64 0]) W := by kernel_rfl
theorem index3_1 (p l h : Nat) (W : World) : (Instr.index 196 (arr3 p l h) (.int .i64 1)).run Tryz.prog W = .ok (.agg #[.int .i64 p, .int .i64 l, .int .i64 h]) W := by kernel_rfl
theorem index3_2 (p l h : Nat) (W : World) : (Instr.index 196 (arr3 p l h) (.int .i64 2)).run Tryz.prog W = .ok (.agg #[.int .i64 0, .int .i64 0, .int .i64 0]) W := by kernel_rfl

set_option maxHeartbeats 8000000 in
set_option maxRecDepth 100000 in
theorem verPut_any (p l h : Nat) (w : World) (hp : p < 9223372036854775808) (hl : l < 9223372036854775808) (hh : h < 9223372036854775808) :
    Calls Tryz.prog 121 #[vVer p l h] w (ByP (verL p l h) w) := by
  obtain ⟨w0, hw0⟩ : ∃ W, W = w.alloc (.cells #[.int .i64 0, .int .i64 0, .slice none 0 0, .int .i64 0, .int .i64 0, .int .i64 0, .int .i64 p, .int .i64 l, .int .i64 h, .int .i64 0, .int .i64 0, .int .i64 0, .bool false] 95) := ⟨_, rfl⟩
  obtain ⟨k1, hk1⟩ : ∃ k, k = w.heap.size := ⟨_, rfl⟩
  obtain ⟨base, hbs⟩ : ∃ b, b = w0.heap.size := ⟨_, rfl⟩
  have hb0 : Below w.heap.size w w0 := by rw [hw0]; exact (Below.refl _ _).alloc (Nat.le_refl _) _
  have HBX := Lib.hid (show BoxG w0 (Value.slice none 0 0).ownBlock k1 #[.int .i64 0, .int .i64 0, .slice none 0 0, .int .i64 0, .int .i64 0, .int .i64 0, .int .i64 p, .int .i64 l, .int .i64 h, .int .i64 0, .int .i64 0, .int .i64 0, .bool false] 95 w0.drew from ⟨grown_below (row := none) (Below.refl _ _).drew, by rw [hw0, hk1]; exact heap_alloc_new w _⟩)
  have HRW := Lib.hid (show RowG w0 base (.slice none 0 0) [] (.slice none 0 0) w0.drew from ⟨World.ownsRow_nil _ _ _ _, fun g hg => by cases hg⟩)
  have HBS := Lib.hid (show base ≤ w0.heap.size from by rw [hbs]; exact Nat.le_refl _)
  have HTY := Lib.hid (show 95 ≠ 5 from by decide)
  have HW0 := Lib.hid hw0
  have HK1 := Lib.hid hk1
  have HB0 := Lib.hid hb0
  have HBASE := Lib.hid (show w.heap.size ≤ base from by rw [hbs]; exact hb0.size)
  have HBASE2 := Lib.hid (show w0.heap.size ≤ base from by rw [hbs]; exact Nat.le_refl _)
  have hcm : ∀ a b, BoxG w0 (Value.slice none 0 0).ownBlock k1 #[.int .i64 0, .int .i64 0, .slice none 0 0, .int .i64 0, .int .i64 0, .int .i64 0, .int .i64 p, .int .i64 l, .int .i64 h, .int .i64 0, .int .i64 0, .int .i64 0, .bool false] 95 a → Below a.heap.size a b → BoxG w0 (Value.slice none 0 0).ownBlock k1 #[.int .i64 0, .int .i64 0, .slice none 0 0, .int .i64 0, .int .i64 0, .int .i64 0, .int .i64 p, .int .i64 l, .int .i64 h, .int .i64 0, .int .i64 0, .int .i64 0, .bool false] 95 b := fun a b h hb => h.later hb
  have hpr : ∀ (j : Nat) (a b : World), (j = 2 → (fun W => RowG w0 base (.slice none 0 0) [] (.slice none 0 0) W) a) → Below a.heap.size a b → (j = 2 → (fun W => RowG w0 base (.slice none 0 0) [] (.slice none 0 0) W) b) := fun j a b h hb e => (h e).below hb
  have t0 := putF_ten (n := 0) (by omega)
  obtain ⟨l1, hl1'⟩ : ∃ x, x = [] ++ putF 0 := ⟨_, rfl⟩
  obtain ⟨l2, hl2⟩ : ∃ x, x = l1 ++ putF 0 := ⟨_, rfl⟩
  obtain ⟨l3, hl3⟩ : ∃ x, x = l2 ++ putF 0 := ⟨_, rfl⟩
  have n1 : l1.length ≤ 10 := by rw [hl1', List.length_append]; simp; omega
  have n2 : l2.length ≤ 20 := by rw [hl2, List.length_append]; omega
  have n3 : l3.length ≤ 30 := by rw [hl3, List.length_append]; omega
  have HVL := Lib.hid (show verL p l h = stL (stL (stL l3 0 0 0) p l h) 0 0 0 ++ putF 0 from by unfold verL headL; rw [hl3, hl2, hl1'])
  have HL1 := Lib.hid hl1'
  have HL2 := Lib.hid hl2
  have HL3 := Lib.hid hl3
  rw [HVL.out]
  clear hw0 hk1 hbs hb0 hl1' hl2 hl3 t0 HVL
  go_enter Tryz.func121, Tryz.ntmps121
  go_upto_region 1 with fail
  rw [← HW0.out, ← HK1.out]
  clear HW0 HK1
  refine RegLin.wp_region_lin (RegLin.useL [(2, 5), (5, 9)]) (fun W => BoxG w0 (Value.slice none 0 0).ownBlock k1 #[.int .i64 0, .int .i64 0, .slice none 0 0, .int .i64 0, .int .i64 0, .int .i64 0, .int .i64 p, .int .i64 l, .int .i64 h, .int .i64 0, .int .i64 0, .int .i64 0, .bool false] 95 W) (fun j W => j = 2 → (fun W => RowG w0 base (.slice none 0 0) [] (.slice none 0 0) W) W) 10 [false, false, false, false, false, false, false, false, true, true, true, true, true, true, true, true, true, true, false, false, false, false, false, false, false, false, false, false, false, false, false, false, false, false, false, false, false, false, false, false, false, false, false, false, false, false, false, false, false, false, false, false, false]
    [sLit (.pointer (some ⟨k1, 0, none⟩)),
    sLit (.int .i64 0),
    sRow w0 base (.slice none 0 0) (l1),
    sLit (.pointer (some ⟨k1, 1, none⟩)),
    sLit (.int .i64 0),
    sRow w0 base (.slice none 0 0) (l2),
    sLit (.pointer (some ⟨k1, 2, none⟩)),
    sLit (.slice none 0 0),
    sLit (.int .i64 0),
    sRow w0 base (.slice none 0 0) (l3)] (HBX.out) (fun j _ _ => HRW.out) (by kernel_rfl) (by kernel_rfl) (by kernel_rfl) (by kernel_rfl) (fun F hF => ?_)
  simp only [over, overL, Nat.reduceAdd] at hF
  obtain rfl := funext hF
  clear hF
  refine ⟨⟨?_, ?_, ?_, ?_, ?_, ?_, ?_, ?_, ?_, ?_, trivial⟩, ?_⟩
  · intro V W hc hp hd K hK _
    clear hd
    go_wp2_with fail
    refine hK _ _ ?_ ?_ ?_
    · rfl
    · exact RegLin.keeps_below hcm hpr hc (Below.refl _ _)
    · exact rfl
  · intro V W hc hp hd K hK _
    have h0 : (V 8) = .pointer (some ⟨k1, 0, none⟩) := hd 0 (by decide) (by kernel_rfl) (RegLin.useL_ok (by kernel_rfl))
    clear hd
    obtain ⟨m0, m1, m2⟩ := (And.intro (hc.cell 0) (And.intro (hc.cell 1) (hc.cell 2)))
    go_wp2_with fail
    refine hK _ _ ?_ ?_ ?_
    · rfl
    · exact RegLin.keeps_below hcm hpr hc (Below.refl _ _)
    · exact rfl
  · intro V W hc hp hd K hK _
    have h1 : (V 9) = .int .i64 0 := hd 1 (by decide) (by kernel_rfl) (RegLin.useL_ok (by kernel_rfl))
    clear hd
    skip
    have hr : RowG w0 base (.slice none 0 0) _ _ W := (hp rfl)
    have hbw : base ≤ W.heap.size := Nat.le_trans HBS.out hc.grown.size
    have HR := Lib.hid hr
    have HC := Lib.hid hc
    clear hr hp hc
    go_wp2_with fail
    refine ((by have h := put_onto 0 base (.slice none 0 0) [] W (by omega) HR.out.1 hbw (by simp); rw [← HL1.out] at h; exact h : Calls _ _ _ W (OnPost base _ l1 W))).mono ?_
    rintro e w1 ⟨v1, rfl, g1, g2, g3⟩
    have hN := rowG_next HC.out HTY.out HR.out g1 g2 g3
    go_wp2_with fail
    refine hK _ _ ?_ ?_ ?_
    · rfl
    · refine RegLin.keeps_by hN.1 (by kernel_rfl) (fun j hj hne hl h => ?_)
      match j, hj, hne, hl, h with
      | 0, _, _, _, h => exact h
      | 1, _, _, _, h => exact h
      | 2, _, hne, _, _ => exact absurd rfl hne
      | 3, _, _, _, h => exact h
      | 4, _, _, _, h => exact h
      | 5, _, _, hl, _ => exact Bool.noConfusion (hl.symm.trans (show RegLin.liveB _ 10 [(2, 5), (5, 9)] 2 5 = false from by kernel_rfl))
      | 6, _, _, _, h => exact h
      | 7, _, _, _, h => exact h
      | 8, _, _, _, h => exact h
      | 9, _, _, hl, _ => exact Bool.noConfusion (hl.symm.trans (show RegLin.liveB _ 10 [(2, 5), (5, 9)] 2 9 = false from by kernel_rfl))
      | j + 10, hj, _, _, _ => exact absurd hj (by omega)
    · exact hN.2
  · intro V W hc hp hd K hK _
    clear hd
    go_wp2_with fail
    refine hK _ _ ?_ ?_ ?_
    · rfl
    · exact RegLin.keeps_below hcm hpr hc (Below.refl _ _)
    · exact rfl
  · intro V W hc hp hd K hK _
    have h3 : (V 11) = .pointer (some ⟨k1, 1, none⟩) := hd 3 (by decide) (by kernel_rfl) (RegLin.useL_ok (by kernel_rfl))
    clear hd
    obtain ⟨m0, m1, m2⟩ := (And.intro (hc.cell 0) (And.intro (hc.cell 1) (hc.cell 2)))
    go_wp2_with fail
    refine hK _ _ ?_ ?_ ?_
    · rfl
    · exact RegLin.keeps_below hcm hpr hc (Below.refl _ _)
    · exact rfl
  · intro V W hc hp hd K hK _
    have h2 : RowG w0 base (.slice none 0 0) (l1) (V 10) W := hd 2 (by decide) (by kernel_rfl) (RegLin.useL_ok (by kernel_rfl))
    have h4 : (V 12) = .int .i64 0 := hd 4 (by decide) (by kernel_rfl) (RegLin.useL_ok (by kernel_rfl))
    clear hd
    skip
    have hr : RowG w0 base (.slice none 0 0) _ _ W := h2
    have hbw : base ≤ W.heap.size := Nat.le_trans HBS.out hc.grown.size
    have HR := Lib.hid hr
    have HC := Lib.hid hc
    clear hr hp hc h2
    go_wp2_with fail
    refine ((by have h := put_onto 0 base _ l1 W (by omega) HR.out.1 hbw (by omega); rw [← HL2.out] at h; exact h : Calls _ _ _ W (OnPost base _ l2 W))).mono ?_
    rintro e w1 ⟨v1, rfl, g1, g2, g3⟩
    have hN := rowG_next HC.out HTY.out HR.out g1 g2 g3
    go_wp2_with fail
    refine hK _ _ ?_ ?_ ?_
    · rfl
    · refine RegLin.keeps_by hN.1 (by kernel_rfl) (fun j hj hne hl h => ?_)
      match j, hj, hne, hl, h with
      | 0, _, _, _, h => exact h
      | 1, _, _, _, h => exact h
      | 2, _, _, hl, _ => exact Bool.noConfusion (hl.symm.trans (show RegLin.liveB _ 10 [(2, 5), (5, 9)] 5 2 = false from by kernel_rfl))
      | 3, _, _, _, h => exact h
      | 4, _, _, _, h => exact h
      | 5, _, hne, _, _ => exact absurd rfl hne
      | 6, _, _, _, h => exact h
      | 7, _, _, _, h => exact h
      | 8, _, _, _, h => exact h
      | 9, _, _, hl, _ => exact Bool.noConfusion (hl.symm.trans (show RegLin.liveB _ 10 [(2, 5), (5, 9)] 5 9 = false from by kernel_rfl))
      | j + 10, hj, _, _, _ => exact absurd hj (by omega)
    · exact hN.2
  · intro V W hc hp hd K hK _
    clear hd
    go_wp2_with fail
    refine hK _ _ ?_ ?_ ?_
    · rfl
    · exact RegLin.keeps_below hcm hpr hc (Below.refl _ _)
    · exact rfl
  · intro V W hc hp hd K hK _
    have h6 : (V 14) = .pointer (some ⟨k1, 2, none⟩) := hd 6 (by decide) (by kernel_rfl) (RegLin.useL_ok (by kernel_rfl))
    clear hd
    obtain ⟨m0, m1, m2⟩ := (And.intro (hc.cell 0) (And.intro (hc.cell 1) (hc.cell 2)))
    go_wp2_with fail
    refine hK _ _ ?_ ?_ ?_
    · rfl
    · exact RegLin.keeps_below hcm hpr hc (Below.refl _ _)
    · exact rfl
  · intro V W hc hp hd K hK _
    have h7 : (V 15) = .slice none 0 0 := hd 7 (by decide) (by kernel_rfl) (RegLin.useL_ok (by kernel_rfl))
    clear hd
    go_wp2_with fail
    refine hK _ _ ?_ ?_ ?_
    · rfl
    · exact RegLin.keeps_below hcm hpr hc (Below.refl _ _)
    · exact rfl
  · intro V W hc hp hd K hK _
    have h5 : RowG w0 base (.slice none 0 0) (l2) (V 13) W := hd 5 (by decide) (by kernel_rfl) (RegLin.useL_ok (by kernel_rfl))
    have h8 : (V 16) = .int .i64 0 := hd 8 (by decide) (by kernel_rfl) (RegLin.useL_ok (by kernel_rfl))
    clear hd
    skip
    have hr : RowG w0 base (.slice none 0 0) _ _ W := h5
    have hbw : base ≤ W.heap.size := Nat.le_trans HBS.out hc.grown.size
    have HR := Lib.hid hr
    have HC := Lib.hid hc
    clear hr hp hc h5
    go_wp2_with fail
    refine ((by have h := put_onto 0 base _ l2 W (by omega) HR.out.1 hbw (by omega); rw [← HL3.out] at h; exact h : Calls _ _ _ W (OnPost base _ l3 W))).mono ?_
    rintro e w1 ⟨v1, rfl, g1, g2, g3⟩
    have hN := rowG_next HC.out HTY.out HR.out g1 g2 g3
    go_wp2_with fail
    refine hK _ _ ?_ ?_ ?_
    · rfl
    · refine RegLin.keeps_by hN.1 (by kernel_rfl) (fun j hj hne hl h => ?_)
      match j, hj, hne, hl, h with
      | 0, _, _, _, h => exact h
      | 1, _, _, _, h => exact h
      | 2, _, _, hl, _ => exact Bool.noConfusion (hl.symm.trans (show RegLin.liveB _ 10 [(2, 5), (5, 9)] 9 2 = false from by kernel_rfl))
      | 3, _, _, _, h => exact h
      | 4, _, _, _, h => exact h
      | 5, _, _, hl, _ => exact Bool.noConfusion (hl.symm.trans (show RegLin.liveB _ 10 [(2, 5), (5, 9)] 9 5 = false from by kernel_rfl))
      | 6, _, _, _, h => exact h
      | 7, _, _, _, h => exact h
      | 8, _, _, _, h => exact h
      | 9, _, hne, _, _ => exact absurd rfl hne
      | j + 10, hj, _, _, _ => exact absurd hj (by omega)
    · exact hN.2
  · intro V W hc hd
    have h9 : RowG w0 base (.slice none 0 0) (l3) (V 17) W := hd 9 (by decide) rfl
    clear hd
    simp only [List.drop_succ_cons, List.drop_zero]
    have H9 := Lib.hid h9
    have HC := Lib.hid hc
    clear h9 hc
    obtain ⟨vo, vc, e13⟩ := H9.out.1.form
    have c2 : W.cell? ⟨k1, 2, none⟩ = some (.slice none 0 0) := HC.out.cell 2
    have d3 : W.cell? ⟨k1, 3, none⟩ = some (.int .i64 0) := HC.out.cell 3
    have d4 : W.cell? ⟨k1, 4, none⟩ = some (.int .i64 0) := HC.out.cell 4
    have d5 : W.cell? ⟨k1, 5, none⟩ = some (.int .i64 0) := HC.out.cell 5
    have d6 : W.cell? ⟨k1, 6, none⟩ = some (.int .i64 p) := HC.out.cell 6
    have d7 : W.cell? ⟨k1, 7, none⟩ = some (.int .i64 l) := HC.out.cell 7
    have d8 : W.cell? ⟨k1, 8, none⟩ = some (.int .i64 h) := HC.out.cell 8
    have d9 : W.cell? ⟨k1, 9, none⟩ = some (.int .i64 0) := HC.out.cell 9
    have d10 : W.cell? ⟨k1, 10, none⟩ = some (.int .i64 0) := HC.out.cell 10
    have d11 : W.cell? ⟨k1, 11, none⟩ = some (.int .i64 0) := HC.out.cell 11
    have HBW := Lib.hid (show Below w0.heap.size w0 W from ⟨HC.out.grown.os, HC.out.grown.tape, HC.out.grown.output, HC.out.grown.size, fun i hi => HC.out.grown.block i hi (by simp [Value.ownBlock])⟩)
    have hbz : base ≤ W.heap.size := Nat.le_trans HBS.out HBW.out.size
    have hk1l : k1 < base := by
      have h : k1 < w0.heap.size := (Array.getElem?_eq_some_iff.1 HBX.out.box).1
      have h2 := HBASE2.out
      omega
    have HB12 := Lib.hid HC.out.box
    obtain ⟨stg, hstg⟩ : ∃ s : Nat → List Nat, s = fun j => match j with | 0 => l3 | 1 => stL l3 0 0 0 | 2 => stL (stL l3 0 0 0) p l h | _ => stL (stL (stL l3 0 0 0) p l h) 0 0 0 := ⟨_, rfl⟩
    have HSTG := Lib.hid (show stg 0 = l3 ∧ stg 1 = stL (stg 0) 0 0 0 ∧ stg 2 = stL (stg 1) p l h ∧ stg 3 = stL (stg 2) 0 0 0 ∧ stg 3 = stL (stL (stL l3 0 0 0) p l h) 0 0 0 from by rw [hstg]; exact ⟨rfl, rfl, rfl, rfl, rfl⟩)
    have HSL := Lib.hid (show ∀ j, j ≤ 3 → (stg j).length ≤ 200 from fun j hj => by
      have e := HSTG.out
      have q1 := stL_len (stg 0) 0 0 0 (by omega) (by omega) (by omega)
      have q2 := stL_len (stg 1) p l h hp hl hh
      have q3 := stL_len (stg 2) 0 0 0 (by omega) (by omega) (by omega)
      rw [← e.2.1] at q1
      rw [← e.2.2.1] at q2
      rw [← e.2.2.2.1] at q3
      have q0 : (stg 0).length ≤ 30 := by rw [e.1]; exact n3
      rcases (show j = 0 ∨ j = 1 ∨ j = 2 ∨ j = 3 by omega) with rfl | rfl | rfl | rfl <;> omega)
    clear hstg
    have H9' := Lib.hid (show OwnB W base (.slice vo l3.length vc) (stg 0) from by rw [HSTG.out.1, ← e13]; exact H9.out.1)
    go_wp2_with fail
    go_loopw [3, 5, 21] (fun bv _ iv wr => bv = .slice vo l3.length vc ∧ iv = .int .i64 0 ∧ W = wr) (fun _ _ _ _ => 0)
    case atStart => exact ⟨rfl, rfl, rfl⟩
    case round =>
      obtain ⟨rfl, rfl, rfl⟩ := hrel
      go_wp2_with fail
      go_loopw [3, 7, 41] (fun bv _ iv wr => ∃ (j : Nat), j ≤ 3 ∧ iv = .int .i64 j ∧ Hid (OwnB wr base bv (stg j)) ∧ Hid (Below base W wr)) (fun _ _ iv _ => 3 - ivN iv)
      case atStart => exact ⟨0, by omega, rfl, H9', Lib.hid (Below.refl _ _)⟩
      case round =>
        obtain ⟨j, hj, rfl, hown, hbw⟩ := hrel
        obtain ⟨bo, bc, rfl⟩ := hown.out.form
        have hbr : base ≤ wr.heap.size := Nat.le_trans hbz hbw.out.size
        by_cases hlt : j < 3
        · rcases (show j = 0 ∨ j = 1 ∨ j = 2 by omega) with rfl | rfl | rfl
          · have hix := index3_0 p l h (W := wr)
            have hal : Below wr.heap.size wr (wr.alloc (.cells #[.int .i64 0, .int .i64 0, .int .i64 0] 37)) := (Below.refl _ _).alloc (Nat.le_refl _) _
            have HPU := Lib.hid (vput_onto 0 0 0 base (.slice bo (stg 0).length bc) (stg 0) (wr.alloc (.cells #[.int .i64 0, .int .i64 0, .int .i64 0] 37)) (by omega) (by omega) (by omega) (hown.out.below hal) (Nat.le_trans hbr hal.size) (by have := HSL.out 0 (by omega); omega))
            have HLN := Lib.hid (show Below base W (wr.alloc (.cells #[.int .i64 0, .int .i64 0, .int .i64 0] 37)) from hbw.out.alloc hbr _)
            have HOW := Lib.hid (hown.out.below hal)
            clear hal
            go_wp2_with fail
            refine HPU.out.mono ?_
            rintro e w5 ⟨v5, rfl, g1, g2, g3⟩
            have HG1 := Lib.hid (show OwnB w5 base v5 (stg 1) from by rw [HSTG.out.2.1]; exact g1)
            have HG2 := Lib.hid (show Below base W w5 from HLN.out.grown g2 (by simp; omega) (fun q hq => (World.ownsRow.lt HOW.out q hq).1))
            clear g1 g2 g3
            go_wp2_with fail
            go_roundw
            case rel => exact ⟨1, by omega, by go_num, HG1, HG2⟩
            case measure => simp [ivN]
          · have hix := index3_1 p l h (W := wr)
            have hal : Below wr.heap.size wr (wr.alloc (.cells #[.int .i64 p, .int .i64 l, .int .i64 h] 37)) := (Below.refl _ _).alloc (Nat.le_refl _) _
            have HPU := Lib.hid (vput_onto p l h base (.slice bo (stg 1).length bc) (stg 1) (wr.alloc (.cells #[.int .i64 p, .int .i64 l, .int .i64 h] 37)) (by omega) (by omega) (by omega) (hown.out.below hal) (Nat.le_trans hbr hal.size) (by have := HSL.out 1 (by omega); omega))
            have HLN := Lib.hid (show Below base W (wr.alloc (.cells #[.int .i64 p, .int .i64 l, .int .i64 h] 37)) from hbw.out.alloc hbr _)
            have HOW := Lib.hid (hown.out.below hal)
            clear hal
            go_wp2_with fail
            refine HPU.out.mono ?_
            rintro e w5 ⟨v5, rfl, g1, g2, g3⟩
            have HG1 := Lib.hid (show OwnB w5 base v5 (stg 2) from by rw [HSTG.out.2.2.1]; exact g1)
            have HG2 := Lib.hid (show Below base W w5 from HLN.out.grown g2 (by simp; omega) (fun q hq => (World.ownsRow.lt HOW.out q hq).1))
            clear g1 g2 g3
            go_wp2_with fail
            go_roundw
            case rel => exact ⟨2, by omega, by go_num, HG1, HG2⟩
            case measure => simp [ivN]
          · have hix := index3_2 p l h (W := wr)
            have hal : Below wr.heap.size wr (wr.alloc (.cells #[.int .i64 0, .int .i64 0, .int .i64 0] 37)) := (Below.refl _ _).alloc (Nat.le_refl _) _
            have HPU := Lib.hid (vput_onto 0 0 0 base (.slice bo (stg 2).length bc) (stg 2) (wr.alloc (.cells #[.int .i64 0, .int .i64 0, .int .i64 0] 37)) (by omega) (by omega) (by omega) (hown.out.below hal) (Nat.le_trans hbr hal.size) (by have := HSL.out 2 (by omega); omega))
            have HLN := Lib.hid (show Below base W (wr.alloc (.cells #[.int .i64 0, .int .i64 0, .int .i64 0] 37)) from hbw.out.alloc hbr _)
            have HOW := Lib.hid (hown.out.below hal)
            clear hal
            go_wp2_with fail
            refine HPU.out.mono ?_
            rintro e w5 ⟨v5, rfl, g1, g2, g3⟩
            have HG1 := Lib.hid (show OwnB w5 base v5 (stg 3) from by rw [HSTG.out.2.2.2.1]; exact g1)
            have HG2 := Lib.hid (show Below base W w5 from HLN.out.grown g2 (by simp; omega) (fun q hq => (World.ownsRow.lt HOW.out q hq).1))
            clear g1 g2 g3
            go_wp2_with fail
            go_roundw
            case rel => exact ⟨3, by omega, by go_num, HG1, HG2⟩
            case measure => simp [ivN]
        · obtain rfl : j = 3 := by omega
          have r12 : wr.cell? ⟨k1, 12, none⟩ = some (.bool false) := by
            rw [cell_of_row wr k1 12 _ _ (0, 0) ((hbw.out.block k1 hk1l).trans HB12.out)]; rfl
          have HFL := Lib.hid (flag_no wr)
          have HPU := Lib.hid (put_onto 0 base (.slice bo (stg 3).length bc) (stg 3) wr (by omega) hown.out hbr (by have := HSL.out 3 (by omega); omega))
          go_wp2_with fail
          refine HFL.out.mono ?_
          rintro e w5 ⟨rfl, rfl⟩
          go_wp2_with fail
          refine HPU.out.mono ?_
          rintro e w6 ⟨v6, rfl, g1, g2, g3⟩
          have HF := Lib.hid (show ByP (stL (stL (stL l3 0 0 0) p l h) 0 0 0 ++ putF 0) w (.returned v6) w6 from by
            rw [← HSTG.out.2.2.2.2]
            have hb6 : Below base W w6 := hbw.out.grown g2 hbr (fun q hq => (World.ownsRow.lt hown.out q hq).1)
            exact ⟨v6, rfl, own_base g1 HBASE.out, below_then HB0.out (Nat.le_refl _) (HBW.out.trans (hb6.mono (by have := HBASE2.out; omega)))⟩)
          clear g1 g2 g3
          go_wp2_with fail
          go_ret
          exact HF.out
end Go.Proofs.YtmjelcjdfamikaaGreatDoor.Mrk

namespace Go.Proofs.YtmjelcjdfamikaaGreatDoor.Eng
open Go.RowKit Go.Maps Go.Proofs.YtmjelcjdfamikaaGreatDoor.Dsk Go.Proofs.YtmjelcjdfamikaaGreatDoor.Trc Go.Proofs.YtmjelcjdfamikaaGreatDoor.Mut Go.Proofs.YtmjelcjdfamikaaGreatDoor.Rd
set_option linter.unusedSectionVars false

theorem off_any (d m : Nat) (room : Int) (s : St) (w : World) (h : DkAt w d m room s) :
    Calls Tryz.prog 114 #[.pointer (some ⟨d, 0, none⟩)] w fun e w' => e = .returned (.bool s.off) ∧ w = w' := by
  unfold DkAt at h
  have c2 : w.cell? ⟨d, 2, none⟩ = some (.bool s.off) := by rw [cell_of_row w d 2 _ _ (0, 0) h]; rfl
  clear h
  go_enter Tryz.func114, Tryz.ntmps114
  go_wp2_with fail
  go_ret
  exact ⟨rfl, rfl⟩
/-- The words that a range's names begin with. -/
def Pre (pw : ByteArray) : Prop := pw = ⟨#[114, 48]⟩ ∨ pw = ⟨#[114, 49]⟩ ∨ pw = ⟨#[114, 50]⟩ ∨ pw = ⟨#[114, 51]⟩
def nBase (pw : ByteArray) : ByteArray := ⟨pw.data ++ #[45, 98, 97, 115, 101]⟩
def nLog (pw : ByteArray) : ByteArray := ⟨pw.data ++ #[45, 108, 111, 103, 45, 48]⟩
theorem nBase_size {pw : ByteArray} (h : Pre pw) : (nBase pw).size ≤ maxLen := by rcases h with rfl | rfl | rfl | rfl <;> decide
theorem nLog_size {pw : ByteArray} (h : Pre pw) : (nLog pw).size ≤ maxLen := by rcases h with rfl | rfl | rfl | rfl <;> decide
theorem base_r0 (w : World) : Calls Tryz.prog 122 #[.string ⟨#[114, 48]⟩] w fun e w' => e = .returned (.string ⟨#[114, 48, 45, 98, 97, 115, 101]⟩) ∧ w = w' := by
  go_enter Tryz.func122, Tryz.ntmps122
  go_wp2_with fail
  go_ret
  exact ⟨rfl, rfl⟩
theorem base_r1 (w : World) : Calls Tryz.prog 122 #[.string ⟨#[114, 49]⟩] w fun e w' => e = .returned (.string ⟨#[114, 49, 45, 98, 97, 115, 101]⟩) ∧ w = w' := by
  go_enter Tryz.func122, Tryz.ntmps122
  go_wp2_with fail
  go_ret
  exact ⟨rfl, rfl⟩
theorem base_r2 (w : World) : Calls Tryz.prog 122 #[.string ⟨#[114, 50]⟩] w fun e w' => e = .returned (.string ⟨#[114, 50, 45, 98, 97, 115, 101]⟩) ∧ w = w' := by
  go_enter Tryz.func122, Tryz.ntmps122
  go_wp2_with fail
  go_ret
  exact ⟨rfl, rfl⟩
theorem base_r3 (w : World) : Calls Tryz.prog 122 #[.string ⟨#[114, 51]⟩] w fun e w' => e = .returned (.string ⟨#[114, 51, 45, 98, 97, 115, 101]⟩) ∧ w = w' := by
  go_enter Tryz.func122, Tryz.ntmps122
  go_wp2_with fail
  go_ret
  exact ⟨rfl, rfl⟩
theorem read_none (d m : Nat) (room : Int) (s : St) (nm : ByteArray) (w : World) (hd0 : DkAt w d m room s) (hf0 : Files w m none) (hoff : s.off = false) (hnm : nm.size ≤ maxLen) :
    Calls Tryz.prog 123 #[.pointer (some ⟨d, 0, none⟩), .string nm] w fun e w' => e = .returned (.tuple #[.slice none 0 0, .int .i64 112]) ∧ w = w' := by
  have HF := Lib.hid hf0
  unfold DkAt at hd0
  have c0 : w.cell? ⟨d, 0, none⟩ = some (.map (some m)) := by rw [cell_of_row w d 0 _ _ (0, 0) hd0]; rfl
  have c2 : w.cell? ⟨d, 2, none⟩ = some (.bool false) := by rw [cell_of_row w d 2 _ _ (0, 0) hd0, ← hoff]; rfl
  clear hd0 hf0 hoff
  go_enter Tryz.func123, Tryz.ntmps123
  go_wp2_with (first
    | (at_lookup; refine wpList_lookup_own_ok _ rfl _ _ 90 rfl 9 198 law Tryz.underlying90 ptrR (Tryz.zeroValue198 _) .nil [] rfl m _ _ rfl HF.out _ _ rfl (key hnm) ?_; intro v ps hv; have hvp := ptrR_nil (ps := ps) hv; subst hvp; rw [show Maps.has (.map (entr none)) (.string nm.data.toList) = false from rfl]; clear hv))
  go_ret2
  exact ⟨rfl, rfl⟩
set_option maxHeartbeats 1000000 in
theorem fits_r0 (w : World) : Calls Tryz.prog 115 #[.string ⟨#[114, 48]⟩] w fun e w' => e = .returned (.bool true) ∧ Below w.heap.size w w' := by
  go_enter Tryz.func115, Tryz.ntmps115
  go_wp2_with fail
  go_loopw [3, 4] (fun iv rv wr => ∃ (pos : Nat), pos ≤ 2 ∧ wr.heap[w.heap.size]? = some (.stringIter ⟨#[114, 48]⟩ pos) ∧ Hid (Below w.heap.size w wr)) (fun _ _ wr => 2 - wr.iterPos w.heap.size)
  case atStart => exact ⟨0, by omega, World.iter_heap w _ 0, Lib.hid ((Below.refl _ _).alloc (Nat.le_refl _) _)⟩
  case round =>
    obtain ⟨pos, hp, hit, hB⟩ := hrel
    have hpos0 := iter_pos hit
    have hcase : pos = 0 ∨ pos = 1 ∨ pos = 2 := by omega
    have HB := Lib.hid hB.out
    rcases hcase with rfl | rfl | rfl
    · have hnx : ∀ ty, (Instr.next (.pointer (some ⟨w.heap.size, 0, none⟩)) true ty).run Tryz.prog wr = .ok (.tuple #[.bool true, .int .i64 0, .int .i32 114]) (wr.iterAt w.heap.size ⟨#[114, 48]⟩ 1) := fun ty => Lib.run_next_any_at wr w.heap.size ⟨#[114, 48]⟩ 0 ty hit (by decide)
      obtain ⟨W1, hW1⟩ : ∃ W1, W1 = wr.iterAt w.heap.size ⟨#[114, 48]⟩ 1 := ⟨_, rfl⟩
      have hit2 : W1.heap[w.heap.size]? = some (.stringIter ⟨#[114, 48]⟩ 1) := by rw [hW1]; exact Lib.iterAt_heap wr w.heap.size _ 0 _ hit
      have hB1 : Below w.heap.size w W1 := by rw [hW1]; exact Lib.below_iterAt HB.out (Nat.le_refl _) _ _
      rw [← hW1] at hnx
      have HI2 := Lib.hid hit2
      have HB1 := Lib.hid hB1
      have HP0 := Lib.hid hpos0
      clear hW1 hit hB hit2 hB1 hpos0
      go_wp2_with fail
      go_roundw
      case rel => exact ⟨1, by omega, HI2.out, HB1⟩
      case measure => rw [iter_pos HI2.out, HP0.out]; omega
    · have hnx : ∀ ty, (Instr.next (.pointer (some ⟨w.heap.size, 0, none⟩)) true ty).run Tryz.prog wr = .ok (.tuple #[.bool true, .int .i64 1, .int .i32 48]) (wr.iterAt w.heap.size ⟨#[114, 48]⟩ 2) := fun ty => Lib.run_next_any_at wr w.heap.size ⟨#[114, 48]⟩ 1 ty hit (by decide)
      obtain ⟨W1, hW1⟩ : ∃ W1, W1 = wr.iterAt w.heap.size ⟨#[114, 48]⟩ 2 := ⟨_, rfl⟩
      have hit2 : W1.heap[w.heap.size]? = some (.stringIter ⟨#[114, 48]⟩ 2) := by rw [hW1]; exact Lib.iterAt_heap wr w.heap.size _ 1 _ hit
      have hB1 : Below w.heap.size w W1 := by rw [hW1]; exact Lib.below_iterAt HB.out (Nat.le_refl _) _ _
      rw [← hW1] at hnx
      have HI2 := Lib.hid hit2
      have HB1 := Lib.hid hB1
      have HP0 := Lib.hid hpos0
      clear hW1 hit hB hit2 hB1 hpos0
      go_wp2_with fail
      go_roundw
      case rel => exact ⟨2, by omega, HI2.out, HB1⟩
      case measure => rw [iter_pos HI2.out, HP0.out]; omega
    · have hnx : ∀ ty, (Instr.next (.pointer (some ⟨w.heap.size, 0, none⟩)) true ty).run Tryz.prog wr = _ := fun ty => Lib.run_next_end_at wr w.heap.size ⟨#[114, 48]⟩ 2 ty hit (by decide)
      clear hit hB hpos0
      go_wp2_with fail
      go_ret
      exact ⟨rfl, HB.out⟩
set_option maxHeartbeats 1000000 in
theorem fits_r1 (w : World) : Calls Tryz.prog 115 #[.string ⟨#[114, 49]⟩] w fun e w' => e = .returned (.bool true) ∧ Below w.heap.size w w' := by
  go_enter Tryz.func115, Tryz.ntmps115
  go_wp2_with fail
  go_loopw [3, 4] (fun iv rv wr => ∃ (pos : Nat), pos ≤ 2 ∧ wr.heap[w.heap.size]? = some (.stringIter ⟨#[114, 49]⟩ pos) ∧ Hid (Below w.heap.size w wr)) (fun _ _ wr => 2 - wr.iterPos w.heap.size)
  case atStart => exact ⟨0, by omega, World.iter_heap w _ 0, Lib.hid ((Below.refl _ _).alloc (Nat.le_refl _) _)⟩
  case round =>
    obtain ⟨pos, hp, hit, hB⟩ := hrel
    have hpos0 := iter_pos hit
    have hcase : pos = 0 ∨ pos = 1 ∨ pos = 2 := by omega
    have HB := Lib.hid hB.out
    rcases hcase with rfl | rfl | rfl
    · have hnx : ∀ ty, (Instr.next (.pointer (some ⟨w.heap.size, 0, none⟩)) true ty).run Tryz.prog wr = .ok (.tuple #[.bool true, .int .i64 0, .int .i32 114]) (wr.iterAt w.heap.size ⟨#[114, 49]⟩ 1) := fun ty => Lib.run_next_any_at wr w.heap.size ⟨#[114, 49]⟩ 0 ty hit (by decide)
      obtain ⟨W1, hW1⟩ : ∃ W1, W1 = wr.iterAt w.heap.size ⟨#[114, 49]⟩ 1 := ⟨_, rfl⟩
      have hit2 : W1.heap[w.heap.size]? = some (.stringIter ⟨#[114, 49]⟩ 1) := by rw [hW1]; exact Lib.iterAt_heap wr w.heap.size _ 0 _ hit
      have hB1 : Below w.heap.size w W1 := by rw [hW1]; exact Lib.below_iterAt HB.out (Nat.le_refl _) _ _
      rw [← hW1] at hnx
      have HI2 := Lib.hid hit2
      have HB1 := Lib.hid hB1
      have HP0 := Lib.hid hpos0
      clear hW1 hit hB hit2 hB1 hpos0
      go_wp2_with fail
      go_roundw
      case rel => exact ⟨1, by omega, HI2.out, HB1⟩
      case measure => rw [iter_pos HI2.out, HP0.out]; omega
    · have hnx : ∀ ty, (Instr.next (.pointer (some ⟨w.heap.size, 0, none⟩)) true ty).run Tryz.prog wr = .ok (.tuple #[.bool true, .int .i64 1, .int .i32 49]) (wr.iterAt w.heap.size ⟨#[114, 49]⟩ 2) := fun ty => Lib.run_next_any_at wr w.heap.size ⟨#[114, 49]⟩ 1 ty hit (by decide)
      obtain ⟨W1, hW1⟩ : ∃ W1, W1 = wr.iterAt w.heap.size ⟨#[114, 49]⟩ 2 := ⟨_, rfl⟩
      have hit2 : W1.heap[w.heap.size]? = some (.stringIter ⟨#[114, 49]⟩ 2) := by rw [hW1]; exact Lib.iterAt_heap wr w.heap.size _ 1 _ hit
      have hB1 : Below w.heap.size w W1 := by rw [hW1]; exact Lib.below_iterAt HB.out (Nat.le_refl _) _ _
      rw [← hW1] at hnx
      have HI2 := Lib.hid hit2
      have HB1 := Lib.hid hB1
      have HP0 := Lib.hid hpos0
      clear hW1 hit hB hit2 hB1 hpos0
      go_wp2_with fail
      go_roundw
      case rel => exact ⟨2, by omega, HI2.out, HB1⟩
      case measure => rw [iter_pos HI2.out, HP0.out]; omega
    · have hnx : ∀ ty, (Instr.next (.pointer (some ⟨w.heap.size, 0, none⟩)) true ty).run Tryz.prog wr = _ := fun ty => Lib.run_next_end_at wr w.heap.size ⟨#[114, 49]⟩ 2 ty hit (by decide)
      clear hit hB hpos0
      go_wp2_with fail
      go_ret
      exact ⟨rfl, HB.out⟩
set_option maxHeartbeats 1000000 in
theorem fits_r2 (w : World) : Calls Tryz.prog 115 #[.string ⟨#[114, 50]⟩] w fun e w' => e = .returned (.bool true) ∧ Below w.heap.size w w' := by
  go_enter Tryz.func115, Tryz.ntmps115
  go_wp2_with fail
  go_loopw [3, 4] (fun iv rv wr => ∃ (pos : Nat), pos ≤ 2 ∧ wr.heap[w.heap.size]? = some (.stringIter ⟨#[114, 50]⟩ pos) ∧ Hid (Below w.heap.size w wr)) (fun _ _ wr => 2 - wr.iterPos w.heap.size)
  case atStart => exact ⟨0, by omega, World.iter_heap w _ 0, Lib.hid ((Below.refl _ _).alloc (Nat.le_refl _) _)⟩
  case round =>
    obtain ⟨pos, hp, hit, hB⟩ := hrel
    have hpos0 := iter_pos hit
    have hcase : pos = 0 ∨ pos = 1 ∨ pos = 2 := by omega
    have HB := Lib.hid hB.out
    rcases hcase with rfl | rfl | rfl
    · have hnx : ∀ ty, (Instr.next (.pointer (some ⟨w.heap.size, 0, none⟩)) true ty).run Tryz.prog wr = .ok (.tuple #[.bool true, .int .i64 0, .int .i32 114]) (wr.iterAt w.heap.size ⟨#[114, 50]⟩ 1) := fun ty => Lib.run_next_any_at wr w.heap.size ⟨#[114, 50]⟩ 0 ty hit (by decide)
      obtain ⟨W1, hW1⟩ : ∃ W1, W1 = wr.iterAt w.heap.size ⟨#[114, 50]⟩ 1 := ⟨_, rfl⟩
      have hit2 : W1.heap[w.heap.size]? = some (.stringIter ⟨#[114, 50]⟩ 1) := by rw [hW1]; exact Lib.iterAt_heap wr w.heap.size _ 0 _ hit
      have hB1 : Below w.heap.size w W1 := by rw [hW1]; exact Lib.below_iterAt HB.out (Nat.le_refl _) _ _
      rw [← hW1] at hnx
      have HI2 := Lib.hid hit2
      have HB1 := Lib.hid hB1
      have HP0 := Lib.hid hpos0
      clear hW1 hit hB hit2 hB1 hpos0
      go_wp2_with fail
      go_roundw
      case rel => exact ⟨1, by omega, HI2.out, HB1⟩
      case measure => rw [iter_pos HI2.out, HP0.out]; omega
    · have hnx : ∀ ty, (Instr.next (.pointer (some ⟨w.heap.size, 0, none⟩)) true ty).run Tryz.prog wr = .ok (.tuple #[.bool true, .int .i64 1, .int .i32 50]) (wr.iterAt w.heap.size ⟨#[114, 50]⟩ 2) := fun ty => Lib.run_next_any_at wr w.heap.size ⟨#[114, 50]⟩ 1 ty hit (by decide)
      obtain ⟨W1, hW1⟩ : ∃ W1, W1 = wr.iterAt w.heap.size ⟨#[114, 50]⟩ 2 := ⟨_, rfl⟩
      have hit2 : W1.heap[w.heap.size]? = some (.stringIter ⟨#[114, 50]⟩ 2) := by rw [hW1]; exact Lib.iterAt_heap wr w.heap.size _ 1 _ hit
      have hB1 : Below w.heap.size w W1 := by rw [hW1]; exact Lib.below_iterAt HB.out (Nat.le_refl _) _ _
      rw [← hW1] at hnx
      have HI2 := Lib.hid hit2
      have HB1 := Lib.hid hB1
      have HP0 := Lib.hid hpos0
      clear hW1 hit hB hit2 hB1 hpos0
      go_wp2_with fail
      go_roundw
      case rel => exact ⟨2, by omega, HI2.out, HB1⟩
      case measure => rw [iter_pos HI2.out, HP0.out]; omega
    · have hnx : ∀ ty, (Instr.next (.pointer (some ⟨w.heap.size, 0, none⟩)) true ty).run Tryz.prog wr = _ := fun ty => Lib.run_next_end_at wr w.heap.size ⟨#[114, 50]⟩ 2 ty hit (by decide)
      clear hit hB hpos0
      go_wp2_with fail
      go_ret
      exact ⟨rfl, HB.out⟩
set_option maxHeartbeats 1000000 in
theorem fits_r3 (w : World) : Calls Tryz.prog 115 #[.string ⟨#[114, 51]⟩] w fun e w' => e = .returned (.bool true) ∧ Below w.heap.size w w' := by
  go_enter Tryz.func115, Tryz.ntmps115
  go_wp2_with fail
  go_loopw [3, 4] (fun iv rv wr => ∃ (pos : Nat), pos ≤ 2 ∧ wr.heap[w.heap.size]? = some (.stringIter ⟨#[114, 51]⟩ pos) ∧ Hid (Below w.heap.size w wr)) (fun _ _ wr => 2 - wr.iterPos w.heap.size)
  case atStart => exact ⟨0, by omega, World.iter_heap w _ 0, Lib.hid ((Below.refl _ _).alloc (Nat.le_refl _) _)⟩
  case round =>
    obtain ⟨pos, hp, hit, hB⟩ := hrel
    have hpos0 := iter_pos hit
    have hcase : pos = 0 ∨ pos = 1 ∨ pos = 2 := by omega
    have HB := Lib.hid hB.out
    rcases hcase with rfl | rfl | rfl
    · have hnx : ∀ ty, (Instr.next (.pointer (some ⟨w.heap.size, 0, none⟩)) true ty).run Tryz.prog wr = .ok (.tuple #[.bool true, .int .i64 0, .int .i32 114]) (wr.iterAt w.heap.size ⟨#[114, 51]⟩ 1) := fun ty => Lib.run_next_any_at wr w.heap.size ⟨#[114, 51]⟩ 0 ty hit (by decide)
      obtain ⟨W1, hW1⟩ : ∃ W1, W1 = wr.iterAt w.heap.size ⟨#[114, 51]⟩ 1 := ⟨_, rfl⟩
      have hit2 : W1.heap[w.heap.size]? = some (.stringIter ⟨#[114, 51]⟩ 1) := by rw [hW1]; exact Lib.iterAt_heap wr w.heap.size _ 0 _ hit
      have hB1 : Below w.heap.size w W1 := by rw [hW1]; exact Lib.below_iterAt HB.out (Nat.le_refl _) _ _
      rw [← hW1] at hnx
      have HI2 := Lib.hid hit2
      have HB1 := Lib.hid hB1
      have HP0 := Lib.hid hpos0
      clear hW1 hit hB hit2 hB1 hpos0
      go_wp2_with fail
      go_roundw
      case rel => exact ⟨1, by omega, HI2.out, HB1⟩
      case measure => rw [iter_pos HI2.out, HP0.out]; omega
    · have hnx : ∀ ty, (Instr.next (.pointer (some ⟨w.heap.size, 0, none⟩)) true ty).run Tryz.prog wr = .ok (.tuple #[.bool true, .int .i64 1, .int .i32 51]) (wr.iterAt w.heap.size ⟨#[114, 51]⟩ 2) := fun ty => Lib.run_next_any_at wr w.heap.size ⟨#[114, 51]⟩ 1 ty hit (by decide)
      obtain ⟨W1, hW1⟩ : ∃ W1, W1 = wr.iterAt w.heap.size ⟨#[114, 51]⟩ 2 := ⟨_, rfl⟩
      have hit2 : W1.heap[w.heap.size]? = some (.stringIter ⟨#[114, 51]⟩ 2) := by rw [hW1]; exact Lib.iterAt_heap wr w.heap.size _ 1 _ hit
      have hB1 : Below w.heap.size w W1 := by rw [hW1]; exact Lib.below_iterAt HB.out (Nat.le_refl _) _ _
      rw [← hW1] at hnx
      have HI2 := Lib.hid hit2
      have HB1 := Lib.hid hB1
      have HP0 := Lib.hid hpos0
      clear hW1 hit hB hit2 hB1 hpos0
      go_wp2_with fail
      go_roundw
      case rel => exact ⟨2, by omega, HI2.out, HB1⟩
      case measure => rw [iter_pos HI2.out, HP0.out]; omega
    · have hnx : ∀ ty, (Instr.next (.pointer (some ⟨w.heap.size, 0, none⟩)) true ty).run Tryz.prog wr = _ := fun ty => Lib.run_next_end_at wr w.heap.size ⟨#[114, 51]⟩ 2 ty hit (by decide)
      clear hit hB hpos0
      go_wp2_with fail
      go_ret
      exact ⟨rfl, HB.out⟩
/-- What the number nought reads. -/
theorem number_0 (w : World) : Calls Tryz.prog 135 #[.int .i64 0] w fun e w' => e = .returned (.string ⟨#[48]⟩) ∧ Below w.heap.size w w' := by
  have HC : ∀ (W : World), (convert 110 9 (.slice (some ⟨W.heap.size, 0, none⟩) 1 1)).run Tryz.prog (W.alloc (.cells #[.int .u8 48] 5)) = .ok (.string ⟨#[48]⟩) (W.alloc (.cells #[.int .u8 48] 5)) := fun W => by
    have h := conv_bytes (W.alloc (.cells #[.int .u8 48] 5)) ⟨W.heap.size, 0, none⟩ [48] 1 1 rfl (fun j c hj => by
      match j, hj with
      | 0, hj => cases hj; rw [addr_add]; go_simp)
    rw [h]
    rfl
  go_enter Tryz.func135, Tryz.ntmps135
  go_wp2_with fail
  go_loopw [0, 3, 4] (fun nv sv qv wr => ∃ (q : Bool), qv = .bool q ∧ nv = .int .i64 0 ∧ sv = .string (if q then ⟨#[]⟩ else ⟨#[48]⟩) ∧ Hid (Below w.heap.size w wr)) (fun _ _ qv _ => match qv with | .bool true => 1 | _ => 0)
  case atStart => exact ⟨true, rfl, rfl, rfl, Lib.hid (Below.refl _ _)⟩
  case round =>
    obtain ⟨q, rfl, rfl, rfl, hB⟩ := hrel
    cases q
    · simp only [Bool.false_eq_true, if_false]
      go_wp2_with fail
      go_ret
      exact ⟨rfl, hB.out⟩
    · have HCR := HC wr
      simp only [if_true]
      go_wp2_with fail
      go_roundw
      case rel => exact ⟨false, rfl, rfl, rfl, Lib.hid (hB.out.alloc (hB.out.size) _)⟩
      case measure => simp
theorem log_r0 (w : World) : Calls Tryz.prog 89 #[.string ⟨#[114, 48]⟩, .int .i64 0] w fun e w' => e = .returned (.string ⟨#[114, 48, 45, 108, 111, 103, 45, 48]⟩) ∧ Below w.heap.size w w' := by
  have HN := Lib.hid (number_0 w)
  go_enter Tryz.func89, Tryz.ntmps89
  go_wp2_with fail
  refine HN.out.mono ?_
  rintro e w1 ⟨rfl, hb⟩
  have HB := Lib.hid hb
  clear hb
  go_wp2_with fail
  go_ret
  exact ⟨rfl, HB.out⟩
theorem log_r1 (w : World) : Calls Tryz.prog 89 #[.string ⟨#[114, 49]⟩, .int .i64 0] w fun e w' => e = .returned (.string ⟨#[114, 49, 45, 108, 111, 103, 45, 48]⟩) ∧ Below w.heap.size w w' := by
  have HN := Lib.hid (number_0 w)
  go_enter Tryz.func89, Tryz.ntmps89
  go_wp2_with fail
  refine HN.out.mono ?_
  rintro e w1 ⟨rfl, hb⟩
  have HB := Lib.hid hb
  clear hb
  go_wp2_with fail
  go_ret
  exact ⟨rfl, HB.out⟩
theorem log_r2 (w : World) : Calls Tryz.prog 89 #[.string ⟨#[114, 50]⟩, .int .i64 0] w fun e w' => e = .returned (.string ⟨#[114, 50, 45, 108, 111, 103, 45, 48]⟩) ∧ Below w.heap.size w w' := by
  have HN := Lib.hid (number_0 w)
  go_enter Tryz.func89, Tryz.ntmps89
  go_wp2_with fail
  refine HN.out.mono ?_
  rintro e w1 ⟨rfl, hb⟩
  have HB := Lib.hid hb
  clear hb
  go_wp2_with fail
  go_ret
  exact ⟨rfl, HB.out⟩
theorem log_r3 (w : World) : Calls Tryz.prog 89 #[.string ⟨#[114, 51]⟩, .int .i64 0] w fun e w' => e = .returned (.string ⟨#[114, 51, 45, 108, 111, 103, 45, 48]⟩) ∧ Below w.heap.size w w' := by
  have HN := Lib.hid (number_0 w)
  go_enter Tryz.func89, Tryz.ntmps89
  go_wp2_with fail
  refine HN.out.mono ?_
  rintro e w1 ⟨rfl, hb⟩
  have HB := Lib.hid hb
  clear hb
  go_wp2_with fail
  go_ret
  exact ⟨rfl, HB.out⟩
theorem base_pre {pw : ByteArray} (h : Pre pw) (w : World) : Calls Tryz.prog 122 #[.string pw] w fun e w' => e = .returned (.string (nBase pw)) ∧ w = w' := by
  rcases h with rfl | rfl | rfl | rfl
  · exact base_r0 w
  · exact base_r1 w
  · exact base_r2 w
  · exact base_r3 w
theorem fits_pre {pw : ByteArray} (h : Pre pw) (w : World) : Calls Tryz.prog 115 #[.string pw] w fun e w' => e = .returned (.bool true) ∧ Below w.heap.size w w' := by
  rcases h with rfl | rfl | rfl | rfl
  · exact fits_r0 w
  · exact fits_r1 w
  · exact fits_r2 w
  · exact fits_r3 w
theorem log_pre {pw : ByteArray} (h : Pre pw) (w : World) : Calls Tryz.prog 89 #[.string pw, .int .i64 0] w fun e w' => e = .returned (.string (nLog pw)) ∧ Below w.heap.size w w' := by
  rcases h with rfl | rfl | rfl | rfl
  · exact log_r0 w
  · exact log_r1 w
  · exact log_r2 w
  · exact log_r3 w
end Go.Proofs.YtmjelcjdfamikaaGreatDoor.Eng

namespace Go.Proofs.YtmjelcjdfamikaaGreatDoor.Eng
open Go.RowKit Go.Maps Go.Proofs.YtmjelcjdfamikaaGreatDoor.Dsk Go.Proofs.YtmjelcjdfamikaaGreatDoor.Trc Go.Proofs.YtmjelcjdfamikaaGreatDoor.Mut Go.Proofs.YtmjelcjdfamikaaGreatDoor.Rd
set_option linter.unusedSectionVars false

/-- An engine's cells: nothing but a fence. -/
abbrev eng (pw : ByteArray) (d mm tb : Nat) (p : Int) : List Value := [.pointer (some ⟨d, 0, none⟩), .string pw, .int .i64 0, .int .i64 0, .slice none 0 0, .int .i64 0, .int .i64 0, .int .i64 0, .int .i64 p, .int .i64 0, .int .i64 0, .int .i64 0, .int .i64 0, .int .i64 0, .bool false, .slice none 0 0, .slice none 0 0, .slice none 0 0, .pointer (some ⟨mm, 0, none⟩), .map (some tb), .bool true, .bool true, .bool false]
abbrev EngAt (w : World) (g : Nat) (pw : ByteArray) (d mm tb : Nat) (p : Int) : Prop := VarAt w g 99 (eng pw d mm tb p)
/-- A new engine on a disk without files. -/
structure New (w : World) (pw : ByteArray) (room : Int) (g d m mm tb : Nat) : Prop where
  eng : EngAt w g pw d mm tb 0
  dk : DkAt w d m room ⟨false, false, 0, 0⟩
  files : Files w m none
  md : m < d
  pre : Pre pw
theorem New.below {w w' : World} {pw : ByteArray} {room : Int} {g d m mm tb : Nat} (h : New w pw room g d m mm tb) (hb : Below w.heap.size w w') : New w' pw room g d m mm tb :=
  ⟨h.eng.below hb, (hb.block d h.dk.lt).trans h.dk, h.files.kept (row := none) ⟨hb.os, hb.tape, hb.output, hb.size, fun i hi _ => hb.block i hi⟩ (by simp), h.md, h.pre⟩
def OkP (w : World) (e : Ending) (w' : World) : Prop := e = .returned (.int .i64 0) ∧ Below w.heap.size w w'

theorem version_new (pw : ByteArray) (room : Int) (g d m mm tb : Nat) (w : World) (h : New w pw room g d m mm tb) : Calls Tryz.prog 116 #[.pointer (some ⟨g, 0, none⟩)] w (OkP w) := by
  have c0 := h.eng.get (k := 0) rfl
  have c1 := h.eng.get (k := 1) rfl
  have HR := Lib.hid (fun (x : BW w) => read_none d m room ⟨false, false, 0, 0⟩ (nBase pw) x.at (h.below x.below).dk (h.below x.below).files rfl (nBase_size h.pre))
  have hgl := h.eng.lt
  have HPB := Lib.hid (fun W => base_pre h.pre W)
  clear h
  go_enter Tryz.func116, Tryz.ntmps116
  go_wp2_with fail
  refine wp_region_calm (by kernel_rfl) (by kernel_rfl) ?_
  repeat (go_big_quiet_step (first | (go_at_call 122; exact calm_same (HPB.out _)) | (go_at_call 123; exact calm_same (HR.out _))))
  refine wpQuiet_nil ?_
  rintro _ ⟨y, rfl⟩
  have HB := Lib.hid y.below
  go_wp2_with fail
  go_ret
  exact ⟨rfl, HB.out⟩
theorem tables_new (pw : ByteArray) (room : Int) (g d m mm tb : Nat) (w : World) (h : New w pw room g d m mm tb) : Calls Tryz.prog 117 #[.pointer (some ⟨g, 0, none⟩)] w (OkP w) := by
  have c4 := h.eng.get (k := 4) rfl
  clear h
  go_enter Tryz.func117, Tryz.ntmps117
  go_wp2_with fail
  go_loopw [16] (fun iv wr => iv = .int .i64 0 ∧ wr = w) (fun _ _ => 0)
  case atStart => exact ⟨rfl, rfl⟩
  case round =>
    obtain ⟨rfl, h⟩ := hrel
    obtain ⟨w, hw⟩ : ∃ W, W = wr := ⟨_, rfl⟩
    subst hw
    subst h
    go_wp2_with fail
    go_ret
    exact ⟨rfl, Below.refl _ _⟩
theorem log_new (pw : ByteArray) (room : Int) (g d m mm tb : Nat) (w : World) (h : New w pw room g d m mm tb) : Calls Tryz.prog 118 #[.pointer (some ⟨g, 0, none⟩)] w (OkP w) := by
  obtain ⟨W, hW⟩ : ∃ W, W = (w.alloc (.cells #[.pointer (some ⟨g, 0, none⟩)] 70)).alloc (.cells #[.int .i64 0] 53) := ⟨_, rfl⟩
  have hb : Below w.heap.size w W := by rw [hW]; exact ((Below.refl _ _).alloc (Nat.le_refl _) _).alloc (by simp) _
  have hn := h.below hb
  have c0 := hn.eng.get (k := 0) rfl
  have c1 := hn.eng.get (k := 1) rfl
  have c2 := hn.eng.get (k := 2) rfl
  have a1 : W.cell? ⟨w.heap.size, 0, none⟩ = some (.pointer (some ⟨g, 0, none⟩)) := by rw [hW]; go_simp
  have a2 : W.cell? ⟨w.heap.size + 1, 0, none⟩ = some (.int .i64 0) := by rw [hW]; go_simp
  have hs : w.heap.size + 1 < W.heap.size := by rw [hW]; simp
  have hs0 : w.heap.size < W.heap.size := by omega
  have hgl := hn.eng.lt
  have HPB := Lib.hid (fun W => log_pre h.pre W)
  have HR := Lib.hid (fun (x : BW W) => read_none d m room ⟨false, false, 0, 0⟩ (nLog pw) x.at (hn.below x.below).dk (hn.below x.below).files rfl (nLog_size h.pre))
  have HB := Lib.hid hb
  have HW := Lib.hid hW
  clear h hn hb hW
  go_enter Tryz.func118, Tryz.ntmps118
  go_upto_region 1 with fail
  rw [← HW.out]
  refine wp_region_calm (by kernel_rfl) (by kernel_rfl) ?_
  repeat (go_big_quiet_step (first | (go_at_call 89; exact calm (HPB.out _)) | (go_at_call 123; exact calm_same (HR.out _))))
  refine wpQuiet_nil ?_
  rintro _ ⟨y, rfl⟩
  obtain ⟨Y, hY⟩ : ∃ Y, Y = y.at := ⟨_, rfl⟩
  have HY := Lib.hid (show Below W.heap.size W Y from by rw [hY]; exact y.below)
  rw [← hY]
  have a3 : Y.cell? ⟨w.heap.size + 1, 0, none⟩ = some (.int .i64 0) := (HY.out.cell (p := ⟨w.heap.size + 1, 0, none⟩) hs).trans a2
  have f3 : Y.frozen? ⟨w.heap.size + 1, 0, none⟩ = false := (HY.out.frozen (p := ⟨w.heap.size + 1, 0, none⟩) hs).trans (by rw [HW.out]; go_simp)
  have hsy : w.heap.size + 1 < Y.heap.size := Nat.lt_of_lt_of_le hs HY.out.size
  clear hY c0 c1 c2 a1 a2
  go_wp2_with fail
  have u0 : (Y.setCell ⟨w.heap.size + 1, 0, none⟩ (.int .i64 0)).cell? ⟨w.heap.size + 1, 0, none⟩ = some (.int .i64 0) := by go_simp
  refine bodyPost_ret (v := .int .i64 0) (by simp [results, Tryz.f118, go_sem, u0]) rfl ?_
  exact ⟨rfl, (below_then HB.out (Nat.le_refl _) HY.out).setCell (p := ⟨w.heap.size + 1, 0, none⟩) (by simp) _⟩
end Go.Proofs.YtmjelcjdfamikaaGreatDoor.Eng

namespace Go.Proofs.YtmjelcjdfamikaaGreatDoor.Dsk
open Go.RowKit Go.Maps Go.Sort Go.Shelf
attribute [local go_sem] Oper.semAt_some

theorem sorts (m : Nat) : AnyZ.SortsIn Tryz.prog laySorted_ren Fence.wide m :=
  ⟨fun blk off cap ss W hH hblk hsz => callsIn_wide.2 (AnyM.slices_Sort_string laySort blk off cap ss W hH hblk hsz),
   fun p cap W => callsIn_wide.2 (AnyM.slices_Sort_string_none laySort p cap W)⟩
theorem keys_call (n m : Nat) (W : World) : CallsIn Fence.wide n Tryz.prog 211 #[.map (some m)] W fun e w' =>
    e = .returned (.func (.func 232) #[] #[.pointer (some ⟨W.heap.size, 0, none⟩)]) ∧ w' = W.alloc (.cells #[.map (some m)] 90) := AnyZ.keys_in layKeys Fence.wide n trivial rfl (some m) W
theorem keys_one (nm : ByteArray) (F : Nat) : strKeys (DataW.map (entr (some (nm, F)))) = [nm.data.toList] := by simp [entr, strKeys]; rfl
theorem sorted_call (n : Nat) (hn : 4 ≤ n) (m : Nat) (nm : ByteArray) (F : Nat) (W : World) (hv : Files W m (some (nm, F))) :
    CallsIn Fence.wide n Tryz.prog 210 #[.func (.func 232) #[] #[.pointer (some ⟨W.heap.size, 0, none⟩)]] (W.alloc (.cells #[.map (some m)] 90)) fun e w' =>
      ∃ v, e = .returned v ∧ w'.ownsRow (W.heap.size + 1) 9 1 v 1 [encStr nm.data.toList] ∧ Below W.heap.size W w' := by
  have hbl := hv.lt
  have hseq : SeqGives Fence.wide (n - 1 - 1 - 1) Tryz.prog 232 #[.pointer (some ⟨W.heap.size, 0, none⟩)] encStr (fun ss => ss.Perm (strKeys (DataW.map (entr (some (nm, F)))))) (Maps.size (DataW.map (entr (some (nm, F))))) (W.alloc (.cells #[.map (some m)] 90)) :=
    AnyZ.keys_gives (ρ := layKeys_ren) { layKeys with } Fence.wide _ trivial rfl (by omega) W.heap.size m _ _ _ (by simp) (by simp) (by
      obtain ⟨es, clock, hb, Ft, hs, hD⟩ := hv
      exact ⟨es, clock, (Below.heap_alloc _ _ m hbl).trans hb, Ft, hs, hD⟩)
  have cS := AnyZ.sorted_in laySorted Fence.wide n trivial trivial trivial trivial rfl hn (sorts _) (enters_of Tryz.func231 (by kernel_rfl) rfl) 232 #[.pointer (some ⟨W.heap.size, 0, none⟩)] trivial (enters_of Tryz.func232 (by kernel_rfl) rfl) _ _ (by simp [Maps.size_eq, entr, maxLen]) (by simp [Maps.size_eq, entr]) _ hseq
  change CallsIn _ _ Tryz.prog 210 _ _ _ at cS
  refine cS.mono ?_
  rintro e w' ⟨v, ss, rfl, hS, hrow, _, hb⟩
  rw [keys_one] at hS
  obtain rfl := List.perm_singleton.1 hS
  rw [World.size_alloc] at hrow
  exact ⟨v, rfl, by rw [show laySorted_ren.t 26 = 9 from rfl] at hrow; simpa using hrow, ((Below.refl _ W).alloc (Nat.le_refl _) _).trans (hb.mono (by simp))⟩

def ivOf : Value → Nat
  | .int _ x => x.toNat
  | _ => 0
theorem names_in (n d : Nat) (w : World) :
    CallsIn Fence.wide n Tryz.prog 170 #[.pointer (some ⟨d, 0, none⟩)] w fun e w' =>
      e = .returned (.func (.func 209) #[] #[.pointer (some ⟨w.heap.size, 0, none⟩)]) ∧ w' = w.alloc (.cells #[.pointer (some ⟨d, 0, none⟩)] 66) := by
  refine callsIn_of_wp Tryz.func170 rfl trivial ?_ rfl
  simp only [Tryz.ntmps170, List.size_toArray, List.length_cons, List.length_nil, Nat.reduceAdd, Nat.reduceSub, Array.replicate_succ, Array.replicate_zero, List.push_toArray, List.append_toArray, List.nil_append, List.cons_append]
  gi_wp2
  go_ret
  exact ⟨rfl, rfl⟩

set_option maxRecDepth 100000 in
set_option maxHeartbeats 2000000 in
theorem names1_gives (n : Nat) (hn : 6 ≤ n) (Bx d m F : Nat) (room : Int) (s : St) (nm : ByteArray) (bv : Value) (l : List Nat) (k : Nat) (w : World) (h : One w d m F room s nm bv l k) (hx : w.heap[Bx]? = some (.cells #[.pointer (some ⟨d, 0, none⟩)] 66 (0, 0))) :
    SeqGives Fence.wide n Tryz.prog 209 #[.pointer (some ⟨Bx, 0, none⟩)] encStr (fun ss => ss = [nm.data.toList]) 1 w := by
  intro lp J W hW hJab hY hJ0
  have ho := h.below hW
  have hxl : Bx < w.heap.size := (Array.getElem?_eq_some_iff.1 hx).1
  have hx1 := (hW.block Bx hxl).trans hx
  have c0 : W.cell? ⟨Bx, 0, none⟩ = some (.pointer (some ⟨d, 0, none⟩)) := by rw [cell_of_row W Bx 0 _ _ (0, 0) hx1]; rfl
  have hdk := ho.dk
  unfold DkAt at hdk
  have c1 : W.cell? ⟨d, 0, none⟩ = some (.map (some m)) := by rw [cell_of_row W d 0 _ _ (0, 0) hdk]; rfl
  have hn1 : 1 ≤ n := by omega
  have cK := fun W => keys_call (n - 1) m W
  have cS := sorted_call (n - 1) (by omega) m nm F W ho.files
  refine callsIn_of_wp Tryz.func209 rfl trivial ?_ rfl
  simp only [Tryz.ntmps209, List.size_toArray, List.length_cons, List.length_nil, Nat.reduceAdd, Nat.reduceSub, Array.replicate_succ, Array.replicate_zero, List.push_toArray, List.append_toArray, List.nil_append, List.cons_append]
  gi_wp2_with (first
    | (refine ⟨trivial, ?_⟩; gi_at_call 211; refine (cK _).mono ?_; rintro e w' ⟨rfl, rfl⟩)
    | (refine ⟨trivial, ?_⟩; gi_at_call 210; refine cS.mono ?_; rintro e W2 ⟨v, rfl, hrow, hb2⟩; obtain ⟨ao, cap, rfl⟩ := row_form hrow))
  obtain ⟨g, rfl⟩ : ∃ g, ao = some ⟨g, 0, none⟩ := by
    rcases hrow.2 with ⟨e, _⟩ | ⟨g, cap', cur, e, _⟩
    · cases e
    · injection e with e1 e2 e3
      exact ⟨g, e1⟩
  have q0 : W2.cell? ⟨g, 0, none⟩ = some (encStr nm.data.toList) := by
    have h1 := World.ownsRow.cells hrow (g := g) rfl 0 (encStr nm.data.toList) rfl
    rw [addr_add] at h1
    exact h1
  have hJ2 : J [] W2 := hJab _ _ _ none hJ0 ⟨hb2.os, hb2.tape, hb2.output, hb2.size, fun i hi _ => hb2.block i hi⟩ (fun r e => by cases e)
  clear hrow cK cS hJab hJ0 hx hx1 ho h hdk
  gi_loopw [12] (fun iv wr => (iv = .int .i64 0 ∧ wr = W2) ∨ (iv = .int .i64 1 ∧ J [nm.data.toList] wr)) (fun iv _ => 1 - ivOf iv)
  case atStart => exact Or.inl ⟨rfl, rfl⟩
  case round =>
    rcases hrel with ⟨rfl, rfl⟩ | ⟨rfl, hJ1⟩
    · obtain ⟨fn, tmps, assign, body, hy, hR⟩ := hY [] nm.data.toList _ hJ2 (by simp)
      gi_wp2
      refine hR.mono ?_
      rintro e W3 ⟨rfl, hJ3, hk3⟩
      gi_wp2
      go_roundw
      case rel => exact Or.inr ⟨by go_num, by simpa using hJ3⟩
      case measure => simp [ivOf]
    · gi_wp2
      go_end0
      exact ⟨⟨_, rfl⟩, _, rfl, hJ1⟩

def ColP (nm : ByteArray) (w : World) (e : Ending) (w' : World) : Prop := ∃ v, e = .returned v ∧ w'.ownsRow (w.heap.size + 1) 9 1 v 1 [encStr nm.data.toList] ∧ Below w.heap.size w w'
theorem collect_names (d m F : Nat) (room : Int) (s : St) (nm : ByteArray) (bv : Value) (l : List Nat) (k : Nat) (w : World) (h : One w d m F room s nm bv l k) :
    Calls Tryz.prog 169 #[.func (.func 209) #[] #[.pointer (some ⟨w.heap.size, 0, none⟩)]] (w.alloc (.cells #[.pointer (some ⟨d, 0, none⟩)] 66)) (ColP nm w) := by
  refine callsIn_wide (n := 9) |>.1 ?_
  have hseq := names1_gives (9 - 1 - 1) (by omega) w.heap.size d m F room s nm bv l k (w.alloc (.cells #[.pointer (some ⟨d, 0, none⟩)] 66)) (h.below ((Below.refl _ _).alloc (Nat.le_refl _) _)) (heap_alloc_new w _)
  have cC := AnyZ.collect_in layCollect Fence.wide 9 trivial trivial rfl (by omega) 209 #[.pointer (some ⟨w.heap.size, 0, none⟩)] trivial (enters_of Tryz.func209 (by kernel_rfl) rfl) _ 1 (by unfold maxLen; omega) (by omega) _ hseq
  change CallsIn _ _ Tryz.prog 169 _ _ _ at cC
  refine cC.mono ?_
  rintro e w' ⟨v, ss, rfl, rfl, hrow, _, hb⟩
  rw [World.size_alloc, show layCollect_ren.t 26 = 9 from rfl] at hrow
  exact ⟨v, rfl, by simpa using hrow, ((Below.refl _ w).alloc (Nat.le_refl _) _).trans (hb.mono (by simp))⟩
end Go.Proofs.YtmjelcjdfamikaaGreatDoor.Dsk

namespace Go.Proofs.YtmjelcjdfamikaaGreatDoor.Dsk
open Go.RowKit Go.Maps Go.Sort Go.Shelf
attribute [local go_sem] Oper.semAt_some

theorem keys_zero : strKeys (DataW.map (entr none)) = [] := by simp [entr, strKeys]
theorem sorted_none (n : Nat) (hn : 4 ≤ n) (m : Nat) (W : World) (hv : Files W m none) :
    CallsIn Fence.wide n Tryz.prog 210 #[.func (.func 232) #[] #[.pointer (some ⟨W.heap.size, 0, none⟩)]] (W.alloc (.cells #[.map (some m)] 90)) fun e w' =>
      e = .returned (.slice none 0 0) ∧ Below W.heap.size W w' := by
  have hbl := hv.lt
  have hseq : SeqGives Fence.wide (n - 1 - 1 - 1) Tryz.prog 232 #[.pointer (some ⟨W.heap.size, 0, none⟩)] encStr (fun ss => ss.Perm (strKeys (DataW.map (entr none)))) (Maps.size (DataW.map (entr none))) (W.alloc (.cells #[.map (some m)] 90)) :=
    AnyZ.keys_gives (ρ := layKeys_ren) { layKeys with } Fence.wide _ trivial rfl (by omega) W.heap.size m _ _ _ (by simp) (by simp) (by
      obtain ⟨es, clock, hb, Ft, hs, hD⟩ := hv
      exact ⟨es, clock, (Below.heap_alloc _ _ m hbl).trans hb, Ft, hs, hD⟩)
  have cS := AnyZ.sorted_in laySorted Fence.wide n trivial trivial trivial trivial rfl hn (sorts _) (enters_of Tryz.func231 (by kernel_rfl) rfl) 232 #[.pointer (some ⟨W.heap.size, 0, none⟩)] trivial (enters_of Tryz.func232 (by kernel_rfl) rfl) _ _ (by simp [Maps.size_eq, entr, maxLen]) (by simp [Maps.size_eq, entr]) _ hseq
  change CallsIn _ _ Tryz.prog 210 _ _ _ at cS
  refine cS.mono ?_
  rintro e w' ⟨v, ss, rfl, hS, hrow, hnil, hb⟩
  rw [keys_zero] at hS
  have h0 : ss = [] := List.Perm.eq_nil hS
  have hv := hnil.2 h0
  subst hv
  exact ⟨rfl, ((Below.refl _ W).alloc (Nat.le_refl _) _).trans (hb.mono (by simp))⟩

set_option maxRecDepth 100000 in
set_option maxHeartbeats 2000000 in
theorem names1_none (n : Nat) (hn : 6 ≤ n) (Bx d m : Nat) (room : Int) (s : St) (w : World) (hd : DkAt w d m room s) (hf : Files w m none) (hx : w.heap[Bx]? = some (.cells #[.pointer (some ⟨d, 0, none⟩)] 66 (0, 0))) :
    SeqGives Fence.wide n Tryz.prog 209 #[.pointer (some ⟨Bx, 0, none⟩)] encStr (fun ss => ss = []) 0 w := by
  intro lp J W hW hJab hY hJ0
  have hd1 : DkAt W d m room s := (hW.block d hd.lt).trans hd
  have hf1 : Files W m none := hf.kept (row := none) ⟨hW.os, hW.tape, hW.output, hW.size, fun i hi _ => hW.block i hi⟩ (by simp)
  have hxl : Bx < w.heap.size := (Array.getElem?_eq_some_iff.1 hx).1
  have hx1 := (hW.block Bx hxl).trans hx
  have c0 : W.cell? ⟨Bx, 0, none⟩ = some (.pointer (some ⟨d, 0, none⟩)) := by rw [cell_of_row W Bx 0 _ _ (0, 0) hx1]; rfl
  unfold DkAt at hd1
  have c1 : W.cell? ⟨d, 0, none⟩ = some (.map (some m)) := by rw [cell_of_row W d 0 _ _ (0, 0) hd1]; rfl
  have hn1 : 1 ≤ n := by omega
  have cK := fun W => keys_call (n - 1) m W
  have cS := sorted_none (n - 1) (by omega) m W hf1
  refine callsIn_of_wp Tryz.func209 rfl trivial ?_ rfl
  simp only [Tryz.ntmps209, List.size_toArray, List.length_cons, List.length_nil, Nat.reduceAdd, Nat.reduceSub, Array.replicate_succ, Array.replicate_zero, List.push_toArray, List.append_toArray, List.nil_append, List.cons_append]
  gi_wp2_with (first
    | (refine ⟨trivial, ?_⟩; gi_at_call 211; refine (cK _).mono ?_; rintro e w' ⟨rfl, rfl⟩)
    | (refine ⟨trivial, ?_⟩; gi_at_call 210; refine cS.mono ?_; rintro e W2 ⟨rfl, hb2⟩))
  have hJ2 : J [] W2 := hJab _ _ _ none hJ0 ⟨hb2.os, hb2.tape, hb2.output, hb2.size, fun i hi _ => hb2.block i hi⟩ (fun r e => by cases e)
  clear cK cS hJab hJ0 hx hx1 hd1 hf1 hd hf
  gi_loopw [12] (fun iv wr => iv = .int .i64 0 ∧ wr = W2) (fun iv _ => 1 - ivOf iv)
  case atStart => exact ⟨rfl, rfl⟩
  case round =>
    obtain ⟨rfl, rfl⟩ := hrel
    gi_wp2
    go_end0
    exact ⟨⟨_, rfl⟩, _, rfl, hJ2⟩
def NoneP (w : World) (e : Ending) (w' : World) : Prop := e = .returned (.slice none 0 0) ∧ Below w.heap.size w w'
theorem collect_none (d m : Nat) (room : Int) (s : St) (w : World) (hd : DkAt w d m room s) (hf : Files w m none) :
    Calls Tryz.prog 169 #[.func (.func 209) #[] #[.pointer (some ⟨w.heap.size, 0, none⟩)]] (w.alloc (.cells #[.pointer (some ⟨d, 0, none⟩)] 66)) (NoneP w) := by
  refine callsIn_wide (n := 9) |>.1 ?_
  have hseq := names1_none (9 - 1 - 1) (by omega) w.heap.size d m room s (w.alloc (.cells #[.pointer (some ⟨d, 0, none⟩)] 66)) ((Below.heap_alloc w _ d hd.lt).trans hd) (hf.kept (row := none) (World.grownBy_alloc _ _ none) (by simp)) (heap_alloc_new w _)
  have cC := AnyZ.collect_in layCollect Fence.wide 9 trivial trivial rfl (by omega) 209 #[.pointer (some ⟨w.heap.size, 0, none⟩)] trivial (enters_of Tryz.func209 (by kernel_rfl) rfl) _ 0 (by unfold maxLen; omega) (by omega) _ hseq
  change CallsIn _ _ Tryz.prog 169 _ _ _ at cC
  refine cC.mono ?_
  rintro e w' ⟨v, ss, rfl, h0, hrow, hnil, hb⟩
  have hv := hnil.2 h0
  subst hv
  exact ⟨rfl, ((Below.refl _ w).alloc (Nat.le_refl _) _).trans (hb.mono (by simp))⟩
end Go.Proofs.YtmjelcjdfamikaaGreatDoor.Dsk

namespace Go.Proofs.YtmjelcjdfamikaaGreatDoor.Eng
open Go.RowKit Go.Maps Go.Proofs.YtmjelcjdfamikaaGreatDoor.Dsk Go.Proofs.YtmjelcjdfamikaaGreatDoor.Trc Go.Proofs.YtmjelcjdfamikaaGreatDoor.Mut Go.Proofs.YtmjelcjdfamikaaGreatDoor.Rd Go.Proofs.YtmjelcjdfamikaaGreatDoor.RegInv
set_option linter.unusedSectionVars false

abbrev ver (p : Int) : Value := .agg #[.int .i64 0, .int .i64 0, .slice none 0 0, .int .i64 0, .int .i64 0, .int .i64 0, .int .i64 p, .int .i64 0, .int .i64 0, .int .i64 0, .int .i64 0, .int .i64 0, .bool false]
/-- An engine's cells, one by one. -/
structure EngC (w : World) (g : Nat) (pw : ByteArray) (d mm tb : Nat) (p : Int) : Prop where
  lt : g < w.heap.size
  c0 : w.cell? ⟨g, 0, none⟩ = some (.pointer (some ⟨d, 0, none⟩))
  c1 : w.cell? ⟨g, 1, none⟩ = some (.string pw)
  c2 : w.cell? ⟨g, 2, none⟩ = some (.int .i64 0)
  c3 : w.cell? ⟨g, 3, none⟩ = some (.int .i64 0)
  c4 : w.cell? ⟨g, 4, none⟩ = some (.slice none 0 0)
  c5 : w.cell? ⟨g, 5, none⟩ = some (.int .i64 0)
  c6 : w.cell? ⟨g, 6, none⟩ = some (.int .i64 0)
  c7 : w.cell? ⟨g, 7, none⟩ = some (.int .i64 0)
  c8 : w.cell? ⟨g, 8, none⟩ = some (.int .i64 p)
  c9 : w.cell? ⟨g, 9, none⟩ = some (.int .i64 0)
  c10 : w.cell? ⟨g, 10, none⟩ = some (.int .i64 0)
  c11 : w.cell? ⟨g, 11, none⟩ = some (.int .i64 0)
  c12 : w.cell? ⟨g, 12, none⟩ = some (.int .i64 0)
  c13 : w.cell? ⟨g, 13, none⟩ = some (.int .i64 0)
  c14 : w.cell? ⟨g, 14, none⟩ = some (.bool false)
  c15 : w.cell? ⟨g, 15, none⟩ = some (.slice none 0 0)
  c16 : w.cell? ⟨g, 16, none⟩ = some (.slice none 0 0)
  c17 : w.cell? ⟨g, 17, none⟩ = some (.slice none 0 0)
  c18 : w.cell? ⟨g, 18, none⟩ = some (.pointer (some ⟨mm, 0, none⟩))
  c19 : w.cell? ⟨g, 19, none⟩ = some (.map (some tb))
  c20 : w.cell? ⟨g, 20, none⟩ = some (.bool true)
  c21 : w.cell? ⟨g, 21, none⟩ = some (.bool true)
  c22 : w.cell? ⟨g, 22, none⟩ = some (.bool false)
theorem _root_.Go.Proofs.YtmjelcjdfamikaaGreatDoor.Trc.VarAt.c {w : World} {g : Nat} {pw : ByteArray} {d mm tb : Nat} {p : Int} (h : EngAt w g pw d mm tb p) : EngC w g pw d mm tb p := ⟨h.lt, h.get rfl, h.get rfl, h.get rfl, h.get rfl, h.get rfl, h.get rfl, h.get rfl, h.get rfl, h.get rfl, h.get rfl, h.get rfl, h.get rfl, h.get rfl, h.get rfl, h.get rfl, h.get rfl, h.get rfl, h.get rfl, h.get rfl, h.get rfl, h.get rfl, h.get rfl, h.get rfl⟩
def sText (S : Value) : RSpec := sOne (fun v W => ∃ q, v = .slice (some ⟨q, 0, none⟩) 1 1 ∧ q < W.heap.size ∧ W.cell? ⟨q, 0, none⟩ = some S) (fun _ _ _ h hb => by
  obtain ⟨q, h1, h2, h3⟩ := h
  exact ⟨q, h1, Nat.lt_of_lt_of_le h2 hb.size, (hb.cell (p := ⟨q, 0, none⟩) h2).trans h3⟩)
def FilP (pw : ByteArray) (w : World) (e : Ending) (w' : World) : Prop := ∃ q, e = .returned (.slice (some ⟨q, 0, none⟩) 1 1) ∧ q < w'.heap.size ∧ w'.cell? ⟨q, 0, none⟩ = some (.string (nLog pw)) ∧ Below w.heap.size w w'
theorem files_0 {pw : ByteArray} (hpw : Pre pw) (p : Int) (w : World) : Calls Tryz.prog 168 #[ver p, .string pw] w (FilP pw w) := by
  have HPW := Lib.hid hpw
  clear hpw
  go_enter Tryz.func168, Tryz.ntmps168
  go_upto_region 1 with fail
  obtain ⟨W, hW⟩ : ∃ W, W = w.alloc (.cells #[.int .i64 0, .int .i64 0, .slice none 0 0, .int .i64 0, .int .i64 0, .int .i64 0, .int .i64 p, .int .i64 0, .int .i64 0, .int .i64 0, .int .i64 0, .int .i64 0, .bool false] 95) := ⟨_, rfl⟩
  have hb : Below w.heap.size w W := by rw [hW]; exact (Below.refl _ _).alloc (Nat.le_refl _) _
  have c0 : W.cell? ⟨w.heap.size, 0, none⟩ = some (.int .i64 0) := by rw [hW]; go_simp
  have c2 : W.cell? ⟨w.heap.size, 2, none⟩ = some (.slice none 0 0) := by rw [hW]; go_simp
  have hlt : w.heap.size < W.heap.size := by rw [hW]; simp
  rw [← hW]
  have HB := Lib.hid hb
  have HL := Lib.hid (log_pre HPW.out W)
  have HC2 := Lib.hid c2
  clear hW hb c2
  go_wp2_with fail
  refine HL.out.mono ?_
  rintro e w1 ⟨rfl, hb1⟩
  obtain ⟨W2, hW2⟩ : ∃ X, X = w1.alloc (.cells #[.string (nLog pw)] 9) := ⟨_, rfl⟩
  have c2 : W2.cell? ⟨w.heap.size, 2, none⟩ = some (.slice none 0 0) := by rw [hW2]; exact ((hb1.alloc hb1.size _).cell (p := ⟨w.heap.size, 2, none⟩) hlt).trans HC2.out
  obtain ⟨q, hq⟩ : ∃ q, q = w1.heap.size := ⟨_, rfl⟩
  have HQ := Lib.hid (show q < W2.heap.size ∧ W2.cell? ⟨q, 0, none⟩ = some (.string (nLog pw)) from by rw [hW2, hq]; exact ⟨by simp, by go_simp⟩)
  have HBF := Lib.hid (show Below w.heap.size w W2 from by rw [hW2]; exact below_then HB.out (Nat.le_refl _) (hb1.alloc hb1.size _))
  clear hb1 c0
  go_upto_region 2 with fail
  rw [← hW2, ← hq]
  clear hW2 hq
  go_wp2_with fail
  go_loopw [5, 16] (fun ov iv wr => ov = .slice (some ⟨q, 0, none⟩) 1 1 ∧ iv = .int .i64 0 ∧ wr = W2) (fun _ _ _ => 0)
  case atStart => exact ⟨rfl, rfl, rfl⟩
  case round =>
    obtain ⟨rfl, rfl, h⟩ := hrel
    obtain ⟨wq, hw⟩ : ∃ W, W = wr := ⟨_, rfl⟩
    subst hw
    subst h
    go_wp2_with fail
    go_ret
    exact ⟨q, rfl, HQ.out.1, HQ.out.2, HBF.out⟩

set_option maxRecDepth 100000 in
set_option maxHeartbeats 4000000 in
theorem orphans_new (pw : ByteArray) (room : Int) (g d m mm tb : Nat) (w : World) (h : New w pw room g d m mm tb) : Calls Tryz.prog 119 #[.pointer (some ⟨g, 0, none⟩)] w (OkP w) := by
  obtain ⟨i0, hi, hz0, hz1, hz2⟩ := info_parts (show (Tryz.prog.info? 9).map (fun i => (i.zero, i.size, i.bytes)) = some (some (.string ByteArray.empty), 1, 16) from by kernel_rfl)
  have HI := Lib.hid (And.intro hi (And.intro hz0 (And.intro hz1 hz2)))
  have HNW0 := Lib.hid h
  clear h hi hz0 hz1 hz2
  go_enter Tryz.func119, Tryz.ntmps119
  go_upto_region 1 with fail
  obtain ⟨w0, hw0⟩ : ∃ x : World, x = w := ⟨_, rfl⟩
  have HNW := Lib.hid (show New w0 pw room g d m mm tb from by rw [hw0]; exact HNW0.out)
  have HB0 := Lib.hid (show Below w.heap.size w w0 from by rw [hw0]; exact Below.refl _ _)
  rw [← hw0]
  clear hw0
  refine wp_region_told [] 16 [false, false, false, false, false, false, false, true, true, true, true, true, true, true, true, true, true, true, true, true, true, true, true, false, false, false, false, false, false, false, false, false, false, false, false, false, false, false, false, false, false, false, false, false, false, false, false, false, false, false, false, false, false, false, false, false, false]
    [sLit (.pointer (some ⟨g, 0, none⟩)),
    sLit (.pointer (some ⟨g, 0, none⟩)),
    sLit (.pointer (some ⟨g, 2, none⟩)),
    sLit (.agg #[.int .i64 0, .int .i64 0, .slice none 0 0, .int .i64 0, .int .i64 0, .int .i64 0, .int .i64 0, .int .i64 0, .int .i64 0, .int .i64 0, .int .i64 0, .int .i64 0, .bool false]),
    sLit (.pointer (some ⟨g, 0, none⟩)),
    sLit (.pointer (some ⟨g, 0, none⟩)),
    sLit (.pointer (some ⟨g, 1, none⟩)),
    sLit (.string pw),
    sText (.string (nLog pw)),
    sLit (.pointer (some ⟨g, 0, none⟩)),
    sLit (.pointer (some ⟨g, 0, none⟩)),
    sLit (.pointer (some ⟨g, 1, none⟩)),
    sLit (.string pw),
    sLit (.string (nBase pw)),
    sText (.string (nBase pw)),
    sOne (fun v _ => ∃ a n c, v = .slice a n c) (fun _ _ _ h _ => h)] (by kernel_rfl) (by kernel_rfl) (by kernel_rfl) (fun F hF => ?_)
  simp only [over, overL, Nat.reduceAdd] at hF
  obtain rfl := funext hF
  clear hF
  refine ⟨⟨?_, ?_, ?_, ?_, ?_, ?_, ?_, ?_, ?_, ?_, ?_, ?_, ?_, ?_, ?_, ?_, trivial⟩, ?_⟩
  · intro V W hb hd K hK _
    clear hd
    go_wp2_with fail
    refine hK _ _ ?_ ?_ ?_ ?_
    · rfl
    · exact Below.refl _ _
    · exact rfl
    · trivial
  · intro V W hb hd K hK _
    have h0 : (V 7) = .pointer (some ⟨g, 0, none⟩) := hd 0 (by kernel_rfl)
    clear hd
    go_wp2_with fail
    refine hK _ _ ?_ ?_ ?_ ?_
    · rfl
    · exact Below.refl _ _
    · exact rfl
    · trivial
  · intro V W hb hd K hK _
    have h1 : (V 8) = .pointer (some ⟨g, 0, none⟩) := hd 1 (by kernel_rfl)
    clear hd
    go_wp2_with fail
    refine hK _ _ ?_ ?_ ?_ ?_
    · rfl
    · exact Below.refl _ _
    · exact rfl
    · trivial
  · intro V W hb hd K hK _
    have h2 : (V 9) = .pointer (some ⟨g, 2, none⟩) := hd 2 (by kernel_rfl)
    clear hd
    obtain ⟨-, g0, g1, g2, g3, g4, g5, g6, g7, g8, g9, g10, g11, g12, g13, g14, g15, g16, g17, g18, g19, g20, g21, g22⟩ := (HNW.out.below hb).eng.c
    go_wp2_with fail
    refine hK _ _ ?_ ?_ ?_ ?_
    · rfl
    · exact Below.refl _ _
    · exact rfl
    · trivial
  · intro V W hb hd K hK _
    clear hd
    go_wp2_with fail
    refine hK _ _ ?_ ?_ ?_ ?_
    · rfl
    · exact Below.refl _ _
    · exact rfl
    · trivial
  · intro V W hb hd K hK _
    have h4 : (V 11) = .pointer (some ⟨g, 0, none⟩) := hd 4 (by kernel_rfl)
    clear hd
    go_wp2_with fail
    refine hK _ _ ?_ ?_ ?_ ?_
    · rfl
    · exact Below.refl _ _
    · exact rfl
    · trivial
  · intro V W hb hd K hK _
    have h5 : (V 12) = .pointer (some ⟨g, 0, none⟩) := hd 5 (by kernel_rfl)
    clear hd
    go_wp2_with fail
    refine hK _ _ ?_ ?_ ?_ ?_
    · rfl
    · exact Below.refl _ _
    · exact rfl
    · trivial
  · intro V W hb hd K hK _
    have h6 : (V 13) = .pointer (some ⟨g, 1, none⟩) := hd 6 (by kernel_rfl)
    clear hd
    obtain ⟨-, g0, g1, g2, g3, g4, g5, g6, g7, g8, g9, g10, g11, g12, g13, g14, g15, g16, g17, g18, g19, g20, g21, g22⟩ := (HNW.out.below hb).eng.c
    go_wp2_with fail
    refine hK _ _ ?_ ?_ ?_ ?_
    · rfl
    · exact Below.refl _ _
    · exact rfl
    · trivial
  · intro V W hb hd K hK _
    have h3 : (V 10) = .agg #[.int .i64 0, .int .i64 0, .slice none 0 0, .int .i64 0, .int .i64 0, .int .i64 0, .int .i64 0, .int .i64 0, .int .i64 0, .int .i64 0, .int .i64 0, .int .i64 0, .bool false] := hd 3 (by kernel_rfl)
    have h7 : (V 14) = .string pw := hd 7 (by kernel_rfl)
    clear hd
    go_wp2_with fail
    refine (files_0 HNW.out.pre 0 W).mono ?_
    rintro e w1 ⟨q, rfl, hq1, hq2, hb1⟩
    have HQ := Lib.hid (And.intro hq1 hq2)
    clear hq1 hq2
    go_wp2_with fail
    refine hK _ _ ?_ ?_ ?_ ?_
    · rfl
    · exact hb1
    · exact ⟨q, rfl, HQ.out⟩
    · trivial
  · intro V W hb hd K hK _
    clear hd
    go_wp2_with fail
    refine hK _ _ ?_ ?_ ?_ ?_
    · rfl
    · exact Below.refl _ _
    · exact rfl
    · trivial
  · intro V W hb hd K hK _
    have h9 : (V 16) = .pointer (some ⟨g, 0, none⟩) := hd 9 (by kernel_rfl)
    clear hd
    go_wp2_with fail
    refine hK _ _ ?_ ?_ ?_ ?_
    · rfl
    · exact Below.refl _ _
    · exact rfl
    · trivial
  · intro V W hb hd K hK _
    have h10 : (V 17) = .pointer (some ⟨g, 0, none⟩) := hd 10 (by kernel_rfl)
    clear hd
    go_wp2_with fail
    refine hK _ _ ?_ ?_ ?_ ?_
    · rfl
    · exact Below.refl _ _
    · exact rfl
    · trivial
  · intro V W hb hd K hK _
    have h11 : (V 18) = .pointer (some ⟨g, 1, none⟩) := hd 11 (by kernel_rfl)
    clear hd
    obtain ⟨-, g0, g1, g2, g3, g4, g5, g6, g7, g8, g9, g10, g11, g12, g13, g14, g15, g16, g17, g18, g19, g20, g21, g22⟩ := (HNW.out.below hb).eng.c
    go_wp2_with fail
    refine hK _ _ ?_ ?_ ?_ ?_
    · rfl
    · exact Below.refl _ _
    · exact rfl
    · trivial
  · intro V W hb hd K hK _
    have h12 : (V 19) = .string pw := hd 12 (by kernel_rfl)
    clear hd
    go_wp2_with fail
    refine (base_pre HNW.out.pre W).mono ?_
    rintro e w1 ⟨rfl, rfl⟩
    go_wp2_with fail
    refine hK _ _ ?_ ?_ ?_ ?_
    · rfl
    · exact Below.refl _ _
    · rfl
    · trivial
  · intro V W hb hd K hK _
    have h13 : (V 20) = .string (nBase pw) := hd 13 (by kernel_rfl)
    clear hd
    go_wp2_with fail
    refine hK _ _ ?_ ?_ ?_ ?_
    · rfl
    · exact (Below.refl _ _).alloc (Nat.le_refl _) _
    · exact ⟨W.heap.size, rfl, by simp, by go_simp⟩
    · trivial
  · intro V W hb hd K hK _
    have h8 : ∃ q, (V 15) = .slice (some ⟨q, 0, none⟩) 1 1 ∧ q < W.heap.size ∧ W.cell? ⟨q, 0, none⟩ = some (.string (nLog pw)) := hd 8 (by kernel_rfl)
    have h14 : ∃ q, (V 21) = .slice (some ⟨q, 0, none⟩) 1 1 ∧ q < W.heap.size ∧ W.cell? ⟨q, 0, none⟩ = some (.string (nBase pw)) := hd 14 (by kernel_rfl)
    clear hd
    obtain ⟨q1, e8, hq1, hc1⟩ := h8
    obtain ⟨q2, e14, hq2, hc2⟩ := h14
    go_wp2_with (at_builtin; refine Spare.wpList_append_full (P := Tryz.prog) rfl (.tmp 15) (.tmp 21) 187 rfl 9 i0 (.string ByteArray.empty) [.string ByteArray.empty] 16 Tryz.underlying187 HI.out.1 HI.out.2.1 rfl HI.out.2.2.1 HI.out.2.2.2 (by decide) (some ⟨q1, 0, none⟩) 1 [.string (nLog pw)] (by first | rfl | exact e8) rfl (fun h => by cases h) (fun ad h j u hj => by cases h; match j, hj with | 0, hj => cases hj; rw [addr_add]; exact hc1) ⟨q2, 0, none⟩ 1 1 [.string (nBase pw)] (by first | rfl | exact e14) (by decide) rfl (fun j u hj => by match j, hj with | 0, hj => cases hj; rw [addr_add]; exact hc2) (by decide) (by decide) ?_)
    intro v1 w1 hs1 hb1
    obtain ⟨vo, vc, rfl⟩ := row_form (Spare.Spare.own hs1)
    clear hs1
    go_wp2_with fail
    refine hK _ _ ?_ ?_ ?_ ?_
    · rfl
    · exact hb1
    · exact ⟨_, _, _, rfl⟩
    · trivial
  · intro V W hb hd hap
    have h15 : ∃ a n c, (V 22) = .slice a n c := hd 15 (by decide)
    clear hd hap
    simp only [List.drop_succ_cons, List.drop_zero]
    obtain ⟨ka, kn, kc, ek⟩ := h15
    have hnew := HNW.out.below hb
    have HB1 := Lib.hid (below_then HB0.out (Nat.le_refl _) hb)
    have HDF := Lib.hid (And.intro hnew.dk hnew.files)
    obtain ⟨-, g0, -⟩ := hnew.eng.c
    have HNC := Lib.hid (callsIn_wide (n := 9) |>.1 (names_in 9 d W))
    have HCC := Lib.hid (collect_none d m room ⟨false, false, 0, 0⟩ W HDF.out.1 HDF.out.2)
    clear hb hnew
    go_wp2_with fail
    refine HNC.out.mono ?_
    rintro e w1 ⟨rfl, rfl⟩
    go_wp2_with fail
    refine HCC.out.mono ?_
    rintro e w2 ⟨rfl, hb2⟩
    have HB2 := Lib.hid (below_then HB1.out (Nat.le_refl _) hb2)
    clear hb2
    go_wp2_with fail
    go_loopw [30] (fun iv wr => iv = .int .i64 0 ∧ wr = w2) (fun _ _ => 0)
    case atStart => exact ⟨rfl, rfl⟩
    case round =>
      obtain ⟨rfl, h⟩ := hrel
      obtain ⟨wq, hw⟩ : ∃ W, W = wr := ⟨_, rfl⟩
      subst hw
      subst h
      go_wp2_with fail
      go_ret
      exact ⟨rfl, HB2.out⟩
end Go.Proofs.YtmjelcjdfamikaaGreatDoor.Eng

namespace Go.Proofs.YtmjelcjdfamikaaGreatDoor.Eng
open Go.RowKit Go.Maps Go.Proofs.YtmjelcjdfamikaaGreatDoor.Dsk Go.Proofs.YtmjelcjdfamikaaGreatDoor.Trc Go.Proofs.YtmjelcjdfamikaaGreatDoor.Mut Go.Proofs.YtmjelcjdfamikaaGreatDoor.Rd Go.Proofs.YtmjelcjdfamikaaGreatDoor.RegInv
set_option linter.unusedSectionVars false

def OpenP (pw : ByteArray) (room : Int) (d m : Nat) (w : World) (e : Ending) (w' : World) : Prop := ∃ g mm tb, e = .returned (.tuple #[.pointer (some ⟨g, 0, none⟩), .int .i64 0]) ∧ New w' pw room g d m mm tb ∧ w.heap.size ≤ g ∧ Below w.heap.size w w'
set_option maxRecDepth 100000 in
set_option maxHeartbeats 4000000 in
theorem open_any {pw : ByteArray} (hpw : Pre pw) (room : Int) (d m : Nat) (w : World) (hd : DkAt w d m room ⟨false, false, 0, 0⟩) (hf : Files w m none) (hmd : m < d) : Calls Tryz.prog 77 #[.pointer (some ⟨d, 0, none⟩), .string pw] w (OpenP pw room d m w) := by
  have HO := Lib.hid (off_any d m room ⟨false, false, 0, 0⟩ w hd)
  have HF := Lib.hid (fits_pre hpw w)
  have HD := Lib.hid (And.intro hd (And.intro hf (And.intro hmd hpw)))
  have hmm := @run_makeMap Tryz.prog
  clear hd hf hmd hpw
  go_enter Tryz.func77, Tryz.ntmps77
  go_wp2_with fail
  refine HO.out.mono ?_
  rintro e w1 ⟨rfl, rfl⟩
  go_wp2_with fail
  refine HF.out.mono ?_
  rintro e w2 ⟨rfl, hb2⟩
  have HB2 := Lib.hid hb2
  clear hb2
  go_upto_region 6 with fail
  obtain ⟨W1, hW1⟩ : ∃ X, X = w2.alloc (.map #[] 0) := ⟨_, rfl⟩
  obtain ⟨W2, hW2⟩ : ∃ X, X = W1.alloc (.cells #[.pointer none, .int .i64 0] 135) := ⟨_, rfl⟩
  obtain ⟨W3, hW3⟩ : ∃ X, X = W2.alloc (.cells #[.pointer (some ⟨d, 0, none⟩), .string pw, .int .i64 0, .int .i64 0, .slice none 0 0, .int .i64 0, .int .i64 0, .int .i64 0, .int .i64 0, .int .i64 0, .int .i64 0, .int .i64 0, .int .i64 0, .int .i64 0, .bool false, .slice none 0 0, .slice none 0 0, .slice none 0 0, .pointer (some ⟨w2.heap.size + 1, 0, none⟩), .map (some w2.heap.size), .bool true, .bool true, .bool false] 99) := ⟨_, rfl⟩
  have b1 : Below w2.heap.size w2 W1 := by rw [hW1]; exact (Below.refl _ _).alloc (Nat.le_refl _) _
  have b2 : Below w2.heap.size w2 W2 := by rw [hW2]; exact b1.alloc b1.size _
  have b3 : Below w2.heap.size w2 W3 := by rw [hW3]; exact b2.alloc b2.size _
  have s2 : W2.heap.size = w2.heap.size + 1 + 1 := by rw [hW2, hW1]; simp
  obtain ⟨g, hg⟩ : ∃ g, g = w2.heap.size + 1 + 1 := ⟨_, rfl⟩
  have hb23 : Below w.heap.size w W3 := below_then HB2.out (Nat.le_refl _) b3
  have HN3 := Lib.hid (show New W3 pw room g d m (w2.heap.size + 1) w2.heap.size from ⟨by
    rw [hg, ← s2, hW3]
    exact VarAt.new W2 _ _, (hb23.block d HD.out.1.lt).trans HD.out.1, HD.out.2.1.kept (row := none) ⟨hb23.os, hb23.tape, hb23.output, hb23.size, fun i hi _ => hb23.block i hi⟩ (by simp), HD.out.2.2.1, HD.out.2.2.2⟩)
  have HB3 := Lib.hid hb23
  have HGE := Lib.hid (show w.heap.size ≤ g from by have := HB2.out.size; omega)
  rw [← hW1, ← hW2, ← hg, ← hW3]
  obtain ⟨mm, hmm2⟩ : ∃ x, x = w2.heap.size + 1 := ⟨_, rfl⟩
  obtain ⟨tb, htb⟩ : ∃ x, x = w2.heap.size := ⟨_, rfl⟩
  rw [← hmm2, ← htb] at HN3 ⊢
  clear hW1 hW2 hW3 b1 b2 b3 s2 hg hb23 hmm2 htb hmm
  obtain ⟨W4, hW4⟩ : ∃ X, X = W3.alloc (.cells #[.func (.func 116) #[.pointer (some ⟨g, 0, none⟩)] #[], .func (.func 117) #[.pointer (some ⟨g, 0, none⟩)] #[], .func (.func 118) #[.pointer (some ⟨g, 0, none⟩)] #[], .func (.func 119) #[.pointer (some ⟨g, 0, none⟩)] #[]] 107) := ⟨_, rfl⟩
  obtain ⟨q, hq⟩ : ∃ q, q = W3.heap.size := ⟨_, rfl⟩
  have b4 : Below W3.heap.size W3 W4 := by rw [hW4]; exact (Below.refl _ _).alloc (Nat.le_refl _) _
  have HC0 := Lib.hid (show W4.cell? ⟨q, 0, none⟩ = some (.func (.func 116) #[.pointer (some ⟨g, 0, none⟩)] #[]) from by rw [hW4, hq]; go_simp)
  have HC1 := Lib.hid (show W4.cell? ⟨q, 1, none⟩ = some (.func (.func 117) #[.pointer (some ⟨g, 0, none⟩)] #[]) from by rw [hW4, hq]; go_simp)
  have HC2 := Lib.hid (show W4.cell? ⟨q, 2, none⟩ = some (.func (.func 118) #[.pointer (some ⟨g, 0, none⟩)] #[]) from by rw [hW4, hq]; go_simp)
  have HC3 := Lib.hid (show W4.cell? ⟨q, 3, none⟩ = some (.func (.func 119) #[.pointer (some ⟨g, 0, none⟩)] #[]) from by rw [hW4, hq]; go_simp)
  have HQL := Lib.hid (show q < W4.heap.size from by rw [hW4, hq]; simp)
  have HN4 := Lib.hid (HN3.out.below b4)
  have HB4 := Lib.hid (below_then HB3.out (Nat.le_refl _) b4)
  clear b4
  go_wp2_with fail
  rw [← hW4, ← hq]
  clear hW4 hq
  go_loopw [32] (fun iv wr => ∃ k : Nat, k ≤ 4 ∧ iv = .int .i64 k ∧ Hid (Below W4.heap.size W4 wr)) (fun iv _ => 4 - (intOf iv).toNat)
  case atStart => exact ⟨0, by omega, rfl, Lib.hid (Below.refl _ _)⟩
  case round =>
    obtain ⟨k, hk, rfl, hB⟩ := hrel
    have HNR := Lib.hid (HN4.out.below hB.out)
    have hcase : k = 0 ∨ k = 1 ∨ k = 2 ∨ k = 3 ∨ k = 4 := by omega
    rcases hcase with rfl | rfl | rfl | rfl | rfl
    · have c0 : wr.cell? ⟨q, 0, none⟩ = some (.func (.func 116) #[.pointer (some ⟨g, 0, none⟩)] #[]) := (hB.out.cell (p := ⟨q, 0, none⟩) HQL.out).trans HC0.out
      have HV := Lib.hid (version_new pw room g d m mm tb wr HNR.out)
      go_wp2_with fail
      refine HV.out.mono ?_
      rintro e w5 ⟨rfl, hb5⟩
      have HB5 := Lib.hid (below_then hB.out (Nat.le_refl _) hb5)
      clear hb5
      go_wp2_with fail
      go_roundw
      case rel => exact ⟨1, by omega, by go_num, HB5⟩
      case measure => simp [intOf]
    · have c0 : wr.cell? ⟨q, 1, none⟩ = some (.func (.func 117) #[.pointer (some ⟨g, 0, none⟩)] #[]) := (hB.out.cell (p := ⟨q, 1, none⟩) HQL.out).trans HC1.out
      have HV := Lib.hid (tables_new pw room g d m mm tb wr HNR.out)
      go_wp2_with fail
      refine HV.out.mono ?_
      rintro e w5 ⟨rfl, hb5⟩
      have HB5 := Lib.hid (below_then hB.out (Nat.le_refl _) hb5)
      clear hb5
      go_wp2_with fail
      go_roundw
      case rel => exact ⟨2, by omega, by go_num, HB5⟩
      case measure => simp [intOf]
    · have c0 : wr.cell? ⟨q, 2, none⟩ = some (.func (.func 118) #[.pointer (some ⟨g, 0, none⟩)] #[]) := (hB.out.cell (p := ⟨q, 2, none⟩) HQL.out).trans HC2.out
      have HV := Lib.hid (log_new pw room g d m mm tb wr HNR.out)
      go_wp2_with fail
      refine HV.out.mono ?_
      rintro e w5 ⟨rfl, hb5⟩
      have HB5 := Lib.hid (below_then hB.out (Nat.le_refl _) hb5)
      clear hb5
      go_wp2_with fail
      go_roundw
      case rel => exact ⟨3, by omega, by go_num, HB5⟩
      case measure => simp [intOf]
    · have c0 : wr.cell? ⟨q, 3, none⟩ = some (.func (.func 119) #[.pointer (some ⟨g, 0, none⟩)] #[]) := (hB.out.cell (p := ⟨q, 3, none⟩) HQL.out).trans HC3.out
      have HV := Lib.hid (orphans_new pw room g d m mm tb wr HNR.out)
      go_wp2_with fail
      refine HV.out.mono ?_
      rintro e w5 ⟨rfl, hb5⟩
      have HB5 := Lib.hid (below_then hB.out (Nat.le_refl _) hb5)
      clear hb5
      go_wp2_with fail
      go_roundw
      case rel => exact ⟨4, by omega, by go_num, HB5⟩
      case measure => simp [intOf]
    · go_wp2_with fail
      go_ret2
      exact ⟨g, mm, tb, rfl, HNR.out, HGE.out, below_then HB4.out (Nat.le_refl _) hB.out⟩
end Go.Proofs.YtmjelcjdfamikaaGreatDoor.Eng
