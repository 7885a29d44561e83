/- Layer 6 (dots): the walks of the laws DotsSets, DotsJoins. PRINTED by wip/gendotlaw.py. -/
import Derived.Test.YtihfcohebgemdaaDotLaw1
set_option linter.unusedSimpArgs false
set_option linter.unusedVariables false
namespace Go.Proofs.Ytihfcohebgemdaa.Dots
open Go.RowKit Go.Maps Go.Sort Go.Proofs.Ytihfcohebgemdaa.Vec Go.Proofs.Ytihfcohebgemdaa.Spare Go.Proofs.Ytihfcohebgemdaa.RegInv

theorem info_parts_R : ∃ i : TypeInfo, Try.prog.info? 42 = some i ∧ i.zero = some (.agg #[.int .i64 0, .int .i64 0]) ∧ i.size = 2 ∧ i.bytes = 16 := by
  have h := info_R
  cases hq : Try.prog.info? 42 with
  | none => simp [hq] at h
  | some i => simp [hq] at h; exact ⟨i, rfl, h.1, h.2.1, h.2.2⟩
/-- The document's writes, in a row of the call's own with spare zero cells. -/
abbrev SpR (w : World) (base : Nat) (v : Value) (l : List P) : Prop := Spare w base 42 [.int .i64 0, .int .i64 0] v l.length (l.flatMap enD)
theorem spR_row {w : World} {base : Nat} {v : Value} {l : List P} (h : SpR w base v l) : DRow w v l := Lst.of_owns enD_len (by decide) (Spare.own h)
theorem spR_below {w w' : World} {base : Nat} {v : Value} {l : List P} (h : SpR w base v l) (hb : Below w.heap.size w w') : SpR w' base v l :=
  Spare.kept (row := none) h ⟨hb.os, hb.tape, hb.output, hb.size, fun i hi _ => hb.block i hi⟩ (by cases v.ownBlock with | none => exact Or.inl rfl | some g => exact Or.inr (by simp))
def sRowR (b0 : Nat) (l : List P) : RSpec := sOne (fun v W => SpR W b0 v l) (fun _ _ _ h hb => spR_below h hb)
/-- An empty literal. -/
def LitT (base : Nat) (W : World) (v : Value) : Prop := ∃ k, v = .slice (some ⟨k, 0, none⟩) 0 0 ∧ W.heap[k]? = some (.cells #[] 42 (0, 0)) ∧ SpR W base v []
theorem LitT.below {base : Nat} {W W' : World} {v : Value} (h : LitT base W v) (hb : Below W.heap.size W W') : LitT base W' v := by
  obtain ⟨k, e, h1, h2⟩ := h
  exact ⟨k, e, (hb.block k (Array.getElem?_eq_some_iff.1 h1).1).trans h1, spR_below h2 hb⟩
def sLitT (b0 : Nat) : RSpec := sOne (fun v W => LitT b0 W v) (fun _ _ _ h hb => h.below hb)
theorem LitT.new {base : Nat} (W : World) (hb : base ≤ W.heap.size) : LitT base (W.alloc (.cells #[] 42)) (.slice (some ⟨W.heap.size, 0, none⟩) 0 0) :=
  ⟨_, rfl, heap_alloc_new W _, Mut.spare_lit W base 42 [.int .i64 0, .int .i64 0] (by decide) hb⟩
theorem OneD.beside {W W' : World} {v : Value} {d : P} {r : Option Nat} (h : OneD W v d) (hg : W.grownBy W' r) (hr : ∀ j, r = some j → W.heap[j]? = some (.cells #[] 42 (0, 0))) : OneD W' v d := by
  obtain ⟨g, h1, h2, h3⟩ := h
  have hne : some g ≠ r := fun e => by
    have h4 := hr g e.symm
    have h5 := h3 0 _ rfl
    rw [addr_add] at h5
    simp [World.cell?, h4] at h5
  refine ⟨g, h1, Nat.lt_of_lt_of_le h2 hg.size, fun j u hu => ?_⟩
  have := h3 j u hu
  rw [addr_add] at this ⊢
  exact (World.cell?_of_block (a := ⟨g, 0 + j, none⟩) (hg.block g h2 hne)).trans this
def sSet (L : List P) : RSpec := sOne (fun v W => SAt W v L) (fun _ _ _ h hb => h.below hb)
def sRow (l : List P) : RSpec := sOne (fun v W => DRow W v l) (fun _ _ _ h hb => Lst.below h hb)
theorem setOf_self {L : List P} (h : Fine L) : setOf L = L := (setOf_fine L).ext h fun x => by
  rw [mem_setOf]
  exact ⟨fun e => e.1, fun e => ⟨e, h.ok x e⟩⟩
theorem setOf_row {l : List P} : setOf (setOf l) = setOf l := setOf_self (setOf_fine l)
theorem covers_joined (A B : List P) (hB : Fine B) : coversD (setOf (A ++ B)) B = true := (coversD_iff _ _).2 fun x hx => (mem_setOf _ x).2 ⟨List.mem_append_right _ hx, hB.ok x hx⟩
/-- A set lies in memory from here on. -/
theorem set_hold {w : World} {q : Nat} {o : Option Nat} {a : Option Addr} {n c : Nat} (h : w.heap[q]? = some (.cells #[.map o, .slice a n c] 40 (0, 0))) : ∀ W, Below w.heap.size w W → W.cell? ⟨q, 0, none⟩ = some (.map o) ∧ W.cell? ⟨q, 1, none⟩ = some (.slice a n c) := fun W hb => by
  have h2 := (hb.block q (Array.getElem?_eq_some_iff.1 h).1).trans h
  exact ⟨by rw [cell_of_row W q 0 _ _ (0, 0) h2]; rfl, by rw [cell_of_row W q 1 _ _ (0, 0) h2]; rfl⟩

theorem sets_out (ao : Option Addr) (n ac : Nat) (d : P) (w : World) (h : 100 < n) :
    Calls Try.prog 4 #[.slice ao n ac, vD d] w fun e w' => e = .returned (.bool true) ∧ Below w.heap.size w w' := by
  have g1 : decide ((n : Int) > 100) = true := decide_eq_true (by omega)
  go_enter Try.func4, Try.ntmps4
  go_wp2
  go_ret
  exact ⟨rfl, (Below.refl _ _).alloc (Nat.le_refl _) _⟩

set_option maxRecDepth 100000 in
set_option maxHeartbeats 8000000 in
theorem sets_in (ao : Option Addr) (ac : Nat) (l : List P) (d : P) (w : World) (ha : DRow w (.slice ao l.length ac) l) (sa : Sm l) (h1 : l.length ≤ 100) (d1 : -9223372036854775808 ≤ d.who) (d2 : d.who ≤ 9223372036854775807) :
    Calls Try.prog 4 #[.slice ao l.length ac, vD d] w fun e w' => e = .returned (.bool true) ∧ Below w.heap.size w w' := by
  have HA := Lib.hid ha
  have HN := Lib.hid (nice_setOf sa (show l.length ≤ 250 by omega))
  have HSM := Lib.hid sa
  have g1 : decide ((l.length : Int) > 100) = false := decide_eq_false (by omega)
  have hll := setOf_len l
  have HLEN := Lib.hid hll
  obtain ⟨i0, hi, hz0, hz1, hz2⟩ := info_parts_R
  have HI := Lib.hid (And.intro hi (And.intro hz0 (And.intro hz1 hz2)))
  clear ha sa hi hz0 hz1 hz2
  obtain ⟨L, hL⟩ : ∃ L, L = setOf l := ⟨_, rfl⟩
  rw [← hL] at HN hll HLEN
  have HL := Lib.hid hL
  have HND := Lib.hid (HN.out.add d d2 (by omega))
  have HADD := Lib.hid (setOf_add HN.out.fine d)
  clear hL
  go_enter Try.func4, Try.ntmps4
  go_wp2_with fail
  obtain ⟨W0, hW0⟩ : ∃ W, W = w.alloc (.cells #[.int .i64 d.who, .int .i64 d.n] 33) := ⟨_, rfl⟩
  have e0 : W0.cell? ⟨w.heap.size, 0, none⟩ = some (.int .i64 d.who) := by rw [hW0]; go_simp
  have e1 : W0.cell? ⟨w.heap.size, 1, none⟩ = some (.int .i64 d.n) := by rw [hW0]; go_simp
  have hs0 : W0.heap.size = w.heap.size + 1 := by rw [hW0]; simp
  have hb0 : Below w.heap.size w W0 := by rw [hW0]; exact (Below.refl _ _).alloc (Nat.le_refl _) _
  rw [← hW0]
  have HE := Lib.hid (fun W' (h : Below W0.heap.size W0 W') => show W'.cell? ⟨w.heap.size, 0, none⟩ = some (.int .i64 d.who) ∧ W'.cell? ⟨w.heap.size, 1, none⟩ = some (.int .i64 d.n) from
    ⟨(h.cell (p := ⟨w.heap.size, 0, none⟩) (by simp; omega)).trans e0, (h.cell (p := ⟨w.heap.size, 1, none⟩) (by simp; omega)).trans e1⟩)
  have HW := Lib.hid (fun W' (h : Below W0.heap.size W0 W') => show Below w.heap.size w W' from below_then hb0 (by omega) h)
  have hlt0 : w.heap.size < W0.heap.size := by omega
  clear hW0 e0 e1 hb0 hs0
  refine (rows_any ao ac l W0 (Lst.below HA.out (HW.out _ (Below.refl _ _))) (by omega)).mono ?_
  rintro e w1 ⟨v1, rfl, hr1, hb1⟩
  obtain ⟨r1, k1, rfl, -, -⟩ := Lst.form hr1
  have HR1 := Lib.hid hr1
  have HB1 := Lib.hid hb1
  clear hr1 hb1
  go_wp2_with fail
  refine (refsetof_any r1 k1 l w1 HR1.out (by omega)).mono ?_
  rintro e w2 ⟨v2, rfl, hr2, hb2⟩
  rw [← HL.out] at hr2
  obtain ⟨mo, mc, rfl, -, -⟩ := Lst.form hr2
  have HM2 := Lib.hid hr2
  have HB2 := Lib.hid (below_then HB1.out (Nat.le_refl _) hb2)
  clear hr2 hb2
  go_wp2_with fail
  refine (of_any ao ac l w2 (Lst.below HA.out (HW.out _ HB2.out)) HSM.out (by omega)).mono ?_
  rintro e w3 ⟨v3, rfl, hv3, hb3⟩
  rw [← HL.out] at hv3
  obtain ⟨o, so, n0, sc, rfl⟩ := hv3.form
  have HV3 := Lib.hid hv3
  have HM3 := Lib.hid (Lst.below HM2.out hb3)
  have HB3 := Lib.hid (below_then HB2.out (Nat.le_refl _) hb3)
  have hz3 := HB3.out.size
  obtain ⟨c0, c1⟩ := HE.out w3 HB3.out
  have hlt3 : w.heap.size < w3.heap.size := by omega
  have c0a : ∀ ob, (w3.alloc ob).cell? ⟨w.heap.size, 0, none⟩ = some (.int .i64 d.who) := fun ob => (((Below.refl w3.heap.size w3).alloc (Nat.le_refl _) ob).cell (p := ⟨w.heap.size, 0, none⟩) hlt3).trans c0
  have c1a : ∀ ob, (w3.alloc ob).cell? ⟨w.heap.size, 1, none⟩ = some (.int .i64 d.n) := fun ob => (((Below.refl w3.heap.size w3).alloc (Nat.le_refl _) ob).cell (p := ⟨w.heap.size, 1, none⟩) hlt3).trans c1
  clear hv3 hb3
  go_upto_region 6 with fail
  obtain ⟨W4, hW4⟩ : ∃ W, W = (w3.alloc (.cells #[.map o, .slice so n0 sc] 40)).alloc (.cells #[.int .i64 d.who, .int .i64 d.n] 42) := ⟨_, rfl⟩
  have q0 : W4.heap[w3.heap.size]? = some (.cells #[.map o, .slice so n0 sc] 40 (0, 0)) := by
    rw [hW4]
    exact (Below.heap_alloc _ _ w3.heap.size (by simp)).trans (heap_alloc_new w3 _)
  have q2 : W4.cell? ⟨w3.heap.size + 1, 0, none⟩ = some (.int .i64 d.who) := by rw [hW4]; go_simp
  have q3 : W4.cell? ⟨w3.heap.size + 1, 1, none⟩ = some (.int .i64 d.n) := by rw [hW4]; go_simp
  have hs4 : W4.heap.size = w3.heap.size + 2 := by rw [hW4]; simp
  have hb4 : Below w3.heap.size w3 W4 := by rw [hW4]; exact ((Below.refl _ _).alloc (Nat.le_refl _) _).alloc (by simp) _
  rw [← hW4]
  have HB4 := Lib.hid (below_then HB3.out (Nat.le_refl _) hb4)
  have HV4 := Lib.hid (HV3.out.below hb4)
  have HM4 := Lib.hid (Lst.below HM3.out hb4)
  have HSET := Lib.hid (set_hold q0)
  have hlt4 : w3.heap.size + 1 < W4.heap.size := by omega
  have HX := Lib.hid (fun W' (h : Below W4.heap.size W4 W') => show W'.cell? ⟨w3.heap.size + 1, 0, none⟩ = some (.int .i64 d.who) ∧ W'.cell? ⟨w3.heap.size + 1, 1, none⟩ = some (.int .i64 d.n) from
    ⟨(h.cell (p := ⟨w3.heap.size + 1, 0, none⟩) hlt4).trans q2, (h.cell (p := ⟨w3.heap.size + 1, 1, none⟩) hlt4).trans q3⟩)
  have HD := Lib.hid (fun W' (h : Below W4.heap.size W4 W') => HE.out W' (below_then HB4.out (Nat.le_refl _) h))
  clear hW4 q0 q2 q3 hs4 hb4 c0 c1 c0a c1a hlt3 hlt4
  obtain ⟨nL, hnL⟩ : ∃ n, n = L.length := ⟨_, rfl⟩
  rw [← hnL] at HM4 hll ⊢
  have HNL := Lib.hid hnL
  have HSRC := Lib.hid (fun W' (h : Below W4.heap.size W4 W') => Mut.lst_src enD_len (by decide) (Lst.below HM4.out h))
  clear hnL
  have hcm : ∀ a b, Below W4.heap.size W4 a → Below a.heap.size a b → Below W4.heap.size W4 b := fun a b h hb => below_then h (Nat.le_refl _) hb
  have hpr : ∀ (j : Nat) (a b : World), (j = 2 → (fun _ => True) a) → Below a.heap.size a b → (j = 2 → (fun _ => True) b) := fun _ _ _ _ _ _ => trivial
  refine RegLin.wp_region_lin (RegLin.useL [(0, 2)]) (fun W => Below W4.heap.size W4 W) (fun j W => j = 2 → (fun _ => True) W) 5 [false, false, false, false, false, false, false, false, false, false, false, false, false, false, false, false, false, false, false, false, false, false, true, true, true, true, true, false, false, false, false, false, false, false, false, false, false, false, false, false, false, false, false, false, false, false, false, false, false, false, false, false, false, false, false, false]
    [sLitT W4.heap.size,
    sLit (.slice mo nL mc),
    sRowR W4.heap.size L,
    sLit (.agg #[.int .i64 d.who, .int .i64 d.n]),
    sOneD d] ((Below.refl _ _).drew) (fun j _ _ => trivial) (by kernel_rfl) (by kernel_rfl) (by kernel_rfl) (by kernel_rfl) (fun F hF => ?_)
  simp only [over, overL, Nat.reduceAdd] at hF
  obtain rfl := funext hF
  clear hF
  refine ⟨⟨?_, ?_, ?_, ?_, ?_, trivial⟩, ?_⟩
  · intro V W hc hp hd K hK _
    clear hd
    have HCC := Lib.hid hc
    clear hc hp
    go_wp2_with fail
    refine hK _ _ ?_ ?_ ?_
    · rfl
    · exact RegLin.keeps_below hcm hpr HCC.out ((Below.refl _ _).alloc (Nat.le_refl _) _)
    · exact LitT.new _ HCC.out.size
  · intro V W hc hp hd K hK _
    clear hd
    go_wp2_with fail
    refine hK _ _ ?_ ?_ ?_
    · rfl
    · exact RegLin.keeps_below hcm hpr hc (Below.refl _ _)
    · exact rfl
  · intro V W hc hp hd K hK _
    have h0 : LitT W4.heap.size W (V 22) := hd 0 (by decide) (by kernel_rfl) (RegLin.useL_ok (by kernel_rfl))
    have h1 : (V 23) = .slice mo nL mc := hd 1 (by decide) (by kernel_rfl) (RegLin.useL_ok (by kernel_rfl))
    clear hd
    have hbw : W4.heap.size ≤ W.heap.size := hc.size
    have HCC := Lib.hid hc
    obtain ⟨kl, e0, hkl, hsl⟩ := h0
    have HSL := Lib.hid (show Spare W W4.heap.size 42 [.int .i64 0, .int .i64 0] (.slice (some ⟨kl, 0, none⟩) 0 0) 0 [] from by rw [e0] at hsl; exact hsl)
    have HKL := Lib.hid hkl
    clear hc hp hsl hkl
    go_wp2_with (at_builtin; refine wpList_append_spareAny rfl (.tmp 22) (.tmp 23) 34 rfl W4.heap.size 42 i0 (.agg #[.int .i64 0, .int .i64 0]) [.int .i64 0, .int .i64 0] 16 Try.underlying34 HI.out.1 HI.out.2.1 rfl HI.out.2.2.1 HI.out.2.2.2 (by decide) (.slice (some ⟨kl, 0, none⟩) 0 0) 0 [] (by first | rfl | exact e0) HSL.out mo nL mc (L.flatMap enD) (by first | rfl | exact h1) (by rw [flatMap_len enD_len, ← HNL.out]; rfl) (HSRC.out _ HCC.out) (cells_one _) (by unfold maxLen; omega) (by omega) hbw ?_)
    intro v1 w1 g1 g2 g3 g4
    have G1 := Lib.hid (show SpR w1 W4.heap.size v1 L from by unfold SpR; rw [← HNL.out]; simpa using g1)
    have G2 := Lib.hid (show Below W4.heap.size W4 w1 from HCC.out.grown g2 hbw (fun k hk => ((Spare.own HSL.out).lt k hk).1))
    have G3 := Lib.hid (show W.grownBy w1 (some kl) from g2)
    clear g1 g2 g3 g4
    go_wp2_with fail
    refine hK _ _ ?_ ?_ ?_
    · rfl
    · refine RegLin.keeps_by G2.out (by kernel_rfl) (fun j hj hne hl h => ?_)
      match j, hj, hne, hl, h with
      | 0, _, _, hl, _ => exact Bool.noConfusion (hl.symm.trans (show RegLin.liveB _ 5 [(0, 2)] 2 0 = false from by kernel_rfl))
      | 1, _, _, _, h => exact h
      | 2, _, hne, _, _ => exact absurd rfl hne
      | 3, _, _, _, h => exact h
      | 4, _, _, _, h => exact OneD.beside (W := W) (v := V 26) (d := d) h G3.out (fun j e => by injection e with e; subst e; exact HKL.out)
      | j + 5, hj, _, _, _ => exact absurd hj (by omega)
    · exact G1.out
  · intro V W hc hp hd K hK _
    clear hd
    obtain ⟨c2, c3⟩ := HX.out W hc
    go_wp2_with fail
    refine hK _ _ ?_ ?_ ?_
    · rfl
    · exact RegLin.keeps_below hcm hpr hc (Below.refl _ _)
    · exact rfl
  · intro V W hc hp hd K hK _
    have h3 : (V 25) = .agg #[.int .i64 d.who, .int .i64 d.n] := hd 3 (by decide) (by kernel_rfl) (RegLin.useL_ok (by kernel_rfl))
    clear hd
    have HCC := Lib.hid hc
    clear hc hp
    go_wp2_with fail
    refine hK _ _ ?_ ?_ ?_
    · rfl
    · exact RegLin.keeps_below hcm hpr HCC.out ((Below.refl _ _).alloc (Nat.le_refl _) _)
    · exact OneD.new _ _ _
  · intro V W hc hd
    have h2 : SpR W W4.heap.size (V 24) L := hd 2 (by decide) rfl
    have h4 : OneD W (V 26) d := hd 4 (by decide) rfl
    clear hd
    simp only [List.drop_succ_cons, List.drop_zero]
    obtain ⟨g, e26, hgl, hgc⟩ := h4
    have HCC := Lib.hid hc
    have hzW := hc.size
    have HA2 := Lib.hid (show Spare W W4.heap.size 42 [.int .i64 0, .int .i64 0] (V 24) nL (L.flatMap enD) from by have h := h2; unfold SpR at h; rw [← HNL.out] at h; exact h)
    clear h2 hc
    go_wp2_with (at_builtin; refine wpList_append_spareAny rfl (.tmp 24) (.tmp 26) 34 rfl W4.heap.size 42 i0 (.agg #[.int .i64 0, .int .i64 0]) [.int .i64 0, .int .i64 0] 16 Try.underlying34 HI.out.1 HI.out.2.1 rfl HI.out.2.2.1 HI.out.2.2.2 (by decide) (V 24) nL (L.flatMap enD) rfl HA2.out (some ⟨g, 0, none⟩) 1 1 (enD d) (by first | rfl | exact e26) rfl (Or.inr ⟨_, rfl, hgc⟩) (enD_one d) (by unfold maxLen; omega) (by omega) hzW ?_)
    intro v' w5 hs5 hg5 _ _
    have hrow5 : SpR w5 W4.heap.size v' (L ++ [d]) := by
      unfold SpR; rw [List.length_append, ← HNL.out, List.flatMap_append, List.flatMap_singleton]; exact hs5
    have hb5 : Below W4.heap.size W4 w5 := HCC.out.grown hg5 hzW (fun j hj => ((Spare.own HA2.out).lt j hj).1)
    have hform5 := Lst.form (spR_row hrow5)
    obtain ⟨po, pc, rfl, -, -⟩ := hform5
    have hlen5 : (L ++ [d]).length = nL + 1 := by rw [List.length_append, ← HNL.out]; rfl
    have HB5 := Lib.hid hb5
    have HP5 := Lib.hid (spR_row hrow5)
    rw [hlen5] at HP5 ⊢
    have HLEN5 := Lib.hid hlen5
    have HV5 := Lib.hid (HV4.out.below hb5)
    have HM5 := Lib.hid (Lst.below HM4.out hb5)
    clear hs5 hg5 hrow5 hb5 hgl hgc e26 hlen5
    obtain ⟨q, hq⟩ : ∃ q, hasD L d = q := ⟨_, rfl⟩
    have HQ := Lib.hid hq
    have HBF := Lib.hid (fun W' (h : Below w5.heap.size w5 W') => below_then HB5.out (Nat.le_refl _) h)
    clear hq
    go_upto_region 7 with fail
    refine wp_region_told [] 28 [false, false, false, false, false, false, false, false, false, false, false, false, false, false, false, false, false, false, false, false, false, false, false, false, false, false, false, false, true, true, true, true, true, true, true, true, true, true, true, true, true, true, true, true, true, true, true, true, true, true, true, true, true, true, true, true]
      [sLit (.agg #[.map o, .slice so n0 sc]),
    sLit (.slice mo nL mc),
    sLit (.bool true),
    sLit (.bool true),
    sLit (.agg #[.map o, .slice so n0 sc]),
    sLit (.agg #[.int .i64 d.who, .int .i64 d.n]),
    sLit (.bool q),
    sLit (.slice mo nL mc),
    sLit (.agg #[.int .i64 d.who, .int .i64 d.n]),
    sLit (.bool q),
    sLit (.bool true),
    sLit (.bool true),
    sLit (.bool true),
    sLit (.agg #[.map o, .slice so n0 sc]),
    sLit (.agg #[.int .i64 d.who, .int .i64 d.n]),
    sSet (addF L d),
    sLit (.slice po (nL + 1) pc),
    sRow (addF L d),
    sLit (.bool true),
    sLit (.bool true),
    sLit (.bool true),
    sLit (.agg #[.map o, .slice so n0 sc]),
    sLit (.slice mo nL mc),
    sLit (.bool true),
    sLit (.bool true),
    sLit (.bool true),
    sLit (.bool true),
    sLit (.bool true)] (by kernel_rfl) (by kernel_rfl) (by kernel_rfl) (fun F hF => ?_)
    simp only [over, overL, Nat.reduceAdd] at hF
    obtain rfl := funext hF
    clear hF
    refine ⟨⟨?_, ?_, ?_, ?_, ?_, ?_, ?_, ?_, ?_, ?_, ?_, ?_, ?_, ?_, ?_, ?_, ?_, ?_, ?_, ?_, ?_, ?_, ?_, ?_, ?_, ?_, ?_, ?_, trivial⟩, ?_⟩
    · intro V W hb hd K hK _
      clear hd
      obtain ⟨c0, c1⟩ := HSET.out W (HBF.out W hb)
      go_wp2_with fail
      refine hK _ _ ?_ ?_ ?_ ?_
      · rfl
      · exact Below.refl _ _
      · exact rfl
      · trivial
    · intro V W hb hd K hK _
      clear hd
      go_wp2_with fail
      refine hK _ _ ?_ ?_ ?_ ?_
      · rfl
      · exact Below.refl _ _
      · exact rfl
      · trivial
    · intro V W hb hd K hK _
      have h0 : (V 28) = .agg #[.map o, .slice so n0 sc] := hd 0 (by kernel_rfl)
      have h1 : (V 29) = .slice mo nL mc := hd 1 (by kernel_rfl)
      clear hd
      have HIS := Lib.hid (by have h := law_is_any (.agg #[.map o, .slice so n0 sc]) mo mc L W (HV5.out.below hb) (show DRow W (.slice mo L.length mc) L from by rw [← HNL.out]; exact Lst.below HM5.out hb) HN.out; rw [← HNL.out] at h; exact h)
      go_wp2_with fail
      refine (HIS.out).mono ?_
      rintro e w1 ⟨rfl, hb1⟩
      go_wp2_with fail
      refine hK _ _ ?_ ?_ ?_ ?_
      · rfl
      · exact hb1
      · exact rfl
      · trivial
    · intro V W hb hd K hK _
      have h2 : (V 30) = .bool true := hd 2 (by kernel_rfl)
      clear hd
      go_wp2_with fail
      refine hK _ _ ?_ ?_ ?_ ?_
      · rfl
      · exact Below.refl _ _
      · exact rfl
      · trivial
    · intro V W hb hd K hK _
      have h3 : (V 31) = .bool true := hd 3 (by kernel_rfl)
      clear hd
      obtain ⟨c0, c1⟩ := HSET.out W (HBF.out W hb)
      go_wp2_with fail
      refine hK _ _ ?_ ?_ ?_ ?_
      · rfl
      · exact Below.refl _ _
      · exact rfl
      · trivial
    · intro V W hb hd K hK _
      have h3 : (V 31) = .bool true := hd 3 (by kernel_rfl)
      clear hd
      obtain ⟨c4, c5⟩ := HD.out W (HBF.out W hb)
      go_wp2_with fail
      refine hK _ _ ?_ ?_ ?_ ?_
      · rfl
      · exact Below.refl _ _
      · exact rfl
      · trivial
    · intro V W hb hd K hK _
      have h3 : (V 31) = .bool true := hd 3 (by kernel_rfl)
      have h4 : (V 32) = .agg #[.map o, .slice so n0 sc] := hd 4 (by kernel_rfl)
      have h5 : (V 33) = .agg #[.int .i64 d.who, .int .i64 d.n] := hd 5 (by kernel_rfl)
      clear hd
      go_wp2_with fail
      refine (has_lit q _ L d W HQ.out (HV5.out.below hb) HN.out d1 d2).mono ?_
      rintro e w1 ⟨rfl, hb1⟩
      go_wp2_with fail
      refine hK _ _ ?_ ?_ ?_ ?_
      · rfl
      · exact hb1
      · exact rfl
      · trivial
    · intro V W hb hd K hK _
      have h3 : (V 31) = .bool true := hd 3 (by kernel_rfl)
      clear hd
      go_wp2_with fail
      refine hK _ _ ?_ ?_ ?_ ?_
      · rfl
      · exact Below.refl _ _
      · exact rfl
      · trivial
    · intro V W hb hd K hK _
      have h3 : (V 31) = .bool true := hd 3 (by kernel_rfl)
      clear hd
      obtain ⟨c2, c3⟩ := HX.out W (HBF.out W hb)
      go_wp2_with fail
      refine hK _ _ ?_ ?_ ?_ ?_
      · rfl
      · exact Below.refl _ _
      · exact rfl
      · trivial
    · intro V W hb hd K hK _
      have h3 : (V 31) = .bool true := hd 3 (by kernel_rfl)
      have h7 : (V 35) = .slice mo nL mc := hd 7 (by kernel_rfl)
      have h8 : (V 36) = .agg #[.int .i64 d.who, .int .i64 d.n] := hd 8 (by kernel_rfl)
      clear hd
      have HRH := Lib.hid (by have h := refhas_lit q mo mc L d W HQ.out (show DRow W (.slice mo L.length mc) L from by rw [← HNL.out]; exact Lst.below HM5.out hb) (by rw [← HNL.out]; omega); rw [← HNL.out] at h; exact h)
      go_wp2_with fail
      refine (HRH.out).mono ?_
      rintro e w1 ⟨rfl, hb1⟩
      go_wp2_with fail
      refine hK _ _ ?_ ?_ ?_ ?_
      · rfl
      · exact hb1
      · exact rfl
      · trivial
    · intro V W hb hd K hK _
      have h3 : (V 31) = .bool true := hd 3 (by kernel_rfl)
      have h6 : (V 34) = .bool q := hd 6 (by kernel_rfl)
      have h9 : (V 37) = .bool q := hd 9 (by kernel_rfl)
      clear hd
      go_wp2_with fail
      refine hK _ _ ?_ ?_ ?_ ?_
      · rfl
      · exact Below.refl _ _
      · show Value.bool _ = Value.bool true; simp
      · trivial
    · intro V W hb hd K hK _
      have h3 : (V 31) = .bool true := hd 3 (by kernel_rfl)
      have h10 : (V 38) = .bool true := hd 10 (by kernel_rfl)
      clear hd
      go_wp2_with fail
      refine hK _ _ ?_ ?_ ?_ ?_
      · rfl
      · exact Below.refl _ _
      · exact rfl
      · trivial
    · intro V W hb hd K hK _
      have h11 : (V 39) = .bool true := hd 11 (by kernel_rfl)
      clear hd
      go_wp2_with fail
      refine hK _ _ ?_ ?_ ?_ ?_
      · rfl
      · exact Below.refl _ _
      · exact rfl
      · trivial
    · intro V W hb hd K hK _
      have h12 : (V 40) = .bool true := hd 12 (by kernel_rfl)
      clear hd
      obtain ⟨c0, c1⟩ := HSET.out W (HBF.out W hb)
      go_wp2_with fail
      refine hK _ _ ?_ ?_ ?_ ?_
      · rfl
      · exact Below.refl _ _
      · exact rfl
      · trivial
    · intro V W hb hd K hK _
      have h12 : (V 40) = .bool true := hd 12 (by kernel_rfl)
      clear hd
      obtain ⟨c4, c5⟩ := HD.out W (HBF.out W hb)
      go_wp2_with fail
      refine hK _ _ ?_ ?_ ?_ ?_
      · rfl
      · exact Below.refl _ _
      · exact rfl
      · trivial
    · intro V W hb hd K hK _
      have h12 : (V 40) = .bool true := hd 12 (by kernel_rfl)
      have h13 : (V 41) = .agg #[.map o, .slice so n0 sc] := hd 13 (by kernel_rfl)
      have h14 : (V 42) = .agg #[.int .i64 d.who, .int .i64 d.n] := hd 14 (by kernel_rfl)
      clear hd
      go_wp2_with fail
      refine (with_any _ L d W (HV5.out.below hb) HN.out (by have := HLEN.out; omega) d2).mono ?_
      rintro e w1 ⟨v1, rfl, hv1, hb1⟩
      go_wp2_with fail
      refine hK _ _ ?_ ?_ ?_ ?_
      · rfl
      · exact hb1
      · exact hv1
      · trivial
    · intro V W hb hd K hK _
      have h12 : (V 40) = .bool true := hd 12 (by kernel_rfl)
      clear hd
      go_wp2_with fail
      refine hK _ _ ?_ ?_ ?_ ?_
      · rfl
      · exact Below.refl _ _
      · exact rfl
      · trivial
    · intro V W hb hd K hK _
      have h12 : (V 40) = .bool true := hd 12 (by kernel_rfl)
      have h16 : (V 44) = .slice po (nL + 1) pc := hd 16 (by kernel_rfl)
      clear hd
      have HRO := Lib.hid (by have h := refsetof_any po pc (L ++ [d]) W (by rw [HLEN5.out]; exact Lst.below HP5.out hb) (by rw [HLEN5.out]; omega); rw [HLEN5.out, HADD.out] at h; exact h)
      go_wp2_with fail
      refine (HRO.out).mono ?_
      rintro e w1 ⟨v1, rfl, hv1, hb1⟩
      go_wp2_with fail
      refine hK _ _ ?_ ?_ ?_ ?_
      · rfl
      · exact hb1
      · exact hv1
      · trivial
    · intro V W hb hd K hK _
      have h12 : (V 40) = .bool true := hd 12 (by kernel_rfl)
      have h15 : SAt W (V 43) (addF L d) := hd 15 (by kernel_rfl)
      have h17 : DRow W (V 45) (addF L d) := hd 17 (by kernel_rfl)
      clear hd
      obtain ⟨xo, xc, e17, -, -⟩ := Lst.form h17
      have HIS := Lib.hid (law_is_any (V 43) xo xc (addF L d) W h15 (by rw [← e17]; exact h17) HND.out)
      clear h15 h17
      go_wp2_with fail
      refine HIS.out.mono ?_
      rintro e w1 ⟨rfl, hb1⟩
      go_wp2_with fail
      refine hK _ _ ?_ ?_ ?_ ?_
      · rfl
      · exact hb1
      · rfl
      · trivial
    · intro V W hb hd K hK _
      have h12 : (V 40) = .bool true := hd 12 (by kernel_rfl)
      have h18 : (V 46) = .bool true := hd 18 (by kernel_rfl)
      clear hd
      go_wp2_with fail
      refine hK _ _ ?_ ?_ ?_ ?_
      · rfl
      · exact Below.refl _ _
      · exact rfl
      · trivial
    · intro V W hb hd K hK _
      have h19 : (V 47) = .bool true := hd 19 (by kernel_rfl)
      clear hd
      go_wp2_with fail
      refine hK _ _ ?_ ?_ ?_ ?_
      · rfl
      · exact Below.refl _ _
      · exact rfl
      · trivial
    · intro V W hb hd K hK _
      have h20 : (V 48) = .bool true := hd 20 (by kernel_rfl)
      clear hd
      obtain ⟨c0, c1⟩ := HSET.out W (HBF.out W hb)
      go_wp2_with fail
      refine hK _ _ ?_ ?_ ?_ ?_
      · rfl
      · exact Below.refl _ _
      · exact rfl
      · trivial
    · intro V W hb hd K hK _
      have h20 : (V 48) = .bool true := hd 20 (by kernel_rfl)
      clear hd
      go_wp2_with fail
      refine hK _ _ ?_ ?_ ?_ ?_
      · rfl
      · exact Below.refl _ _
      · exact rfl
      · trivial
    · intro V W hb hd K hK _
      have h20 : (V 48) = .bool true := hd 20 (by kernel_rfl)
      have h21 : (V 49) = .agg #[.map o, .slice so n0 sc] := hd 21 (by kernel_rfl)
      have h22 : (V 50) = .slice mo nL mc := hd 22 (by kernel_rfl)
      clear hd
      have HIS := Lib.hid (by have h := law_is_any (.agg #[.map o, .slice so n0 sc]) mo mc L W (HV5.out.below hb) (show DRow W (.slice mo L.length mc) L from by rw [← HNL.out]; exact Lst.below HM5.out hb) HN.out; rw [← HNL.out] at h; exact h)
      go_wp2_with fail
      refine (HIS.out).mono ?_
      rintro e w1 ⟨rfl, hb1⟩
      go_wp2_with fail
      refine hK _ _ ?_ ?_ ?_ ?_
      · rfl
      · exact hb1
      · exact rfl
      · trivial
    · intro V W hb hd K hK _
      have h20 : (V 48) = .bool true := hd 20 (by kernel_rfl)
      have h23 : (V 51) = .bool true := hd 23 (by kernel_rfl)
      clear hd
      go_wp2_with fail
      refine hK _ _ ?_ ?_ ?_ ?_
      · rfl
      · exact Below.refl _ _
      · exact rfl
      · trivial
    · intro V W hb hd K hK _
      have h24 : (V 52) = .bool true := hd 24 (by kernel_rfl)
      clear hd
      go_wp2_with fail
      refine hK _ _ ?_ ?_ ?_ ?_
      · rfl
      · exact Below.refl _ _
      · exact rfl
      · trivial
    · intro V W hb hd K hK _
      have h25 : (V 53) = .bool true := hd 25 (by kernel_rfl)
      clear hd
      go_wp2_with fail
      refine (alive_any W).mono ?_
      rintro e w1 ⟨rfl, hb1⟩
      go_wp2_with fail
      refine hK _ _ ?_ ?_ ?_ ?_
      · rfl
      · exact hb1
      · exact rfl
      · trivial
    · intro V W hb hd K hK _
      have h25 : (V 53) = .bool true := hd 25 (by kernel_rfl)
      have h26 : (V 54) = .bool true := hd 26 (by kernel_rfl)
      clear hd
      go_wp2_with fail
      refine hK _ _ ?_ ?_ ?_ ?_
      · rfl
      · exact Below.refl _ _
      · exact rfl
      · trivial
    · intro V W hb hd hap
      have h27 : (V 55) = .bool true := hd 27 (by decide)
      clear hd hap
      simp only [List.drop_succ_cons, List.drop_zero]
      have HFB := Lib.hid (HW.out _ (below_then HB4.out (Nat.le_refl _) (HBF.out W hb)))
      clear hb
      go_wp2_with fail
      go_ret
      exact ⟨rfl, HFB.out⟩
theorem dotsSets_any (v : Value) (l : List P) (d : P) (w : World) (ha : DRow w v l) (sa : Sm l) (d1 : -9223372036854775808 ≤ d.who) (d2 : d.who ≤ 9223372036854775807) :
    Calls Try.prog 4 #[v, vD d] w fun e w' => e = .returned (.bool true) ∧ Below w.heap.size w w' := by
  obtain ⟨ao, ac, rfl, -, -⟩ := Lst.form ha
  by_cases h : 100 < l.length
  · exact sets_out ao _ ac d w h
  · exact sets_in ao ac l d w ha sa (by omega) d1 d2
end Go.Proofs.Ytihfcohebgemdaa.Dots
