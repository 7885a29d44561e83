/- Layer 6 (dots): With, Of, Join. PRINTED by wip/gendotwith.py. -/
import Derived.Test.YtihfcohebgemdaaDotPack
import Derived.Test.YtihfcohebgemdaaRegLin
set_option linter.unusedSimpArgs false
set_option linter.unusedVariables false
namespace Go.Proofs.Ytihfcohebgemdaa.Dots
open Go.RowKit Go.Maps Go.Sort Go.Proofs.Ytihfcohebgemdaa.Vec Go.Proofs.Ytihfcohebgemdaa.Spare Go.Proofs.Ytihfcohebgemdaa.RegInv

/-- A new set comes back. -/
def SetP (w : World) (L : List P) (e : Ending) (w' : World) : Prop := ∃ v', e = .returned v' ∧ SAt w' v' L ∧ Below w.heap.size w w'
theorem str_of {R : List P} (h : R.Pairwise fun a b => ¬ lt b a) (hn : R.Nodup) : Str R := by
  refine List.Pairwise.imp₂ (fun a b h1 h2 => ?_) h hn
  rcases lt_tri a b with e | e | e
  · exact e
  · exact (h2 e).elim
  · exact (h1 e).elim
theorem Str.nodup {L : List P} (h : Str L) : L.Nodup := List.Pairwise.imp (fun {a b} (e : lt a b) => fun e2 => by subst e2; exact lt_irrefl _ e) h
/-- What is packed of a set's parts and more. -/
theorem packed_is {K R R' L' : List P} (hK : Vec.Good K) (hp : R'.Perm R) (hs : R'.Pairwise fun a b => ¬ lt b a) (hn : R.Nodup) (hr : ∀ x ∈ R, right x = true) (hL : Fine L') (h : ∀ x, x ∈ L' ↔ inK K x ∨ x ∈ R) : packF K R' = (kn L', rs L') :=
  pack_eq hK (str_of hs (hp.nodup_iff.2 hn)) (fun x hx => hr x (hp.mem_iff.1 hx)) hL (fun x => by rw [h x, hp.mem_iff])
theorem Nice.add {L : List P} (h : Nice L) (d : P) (hd : d.who ≤ 9223372036854775807) (hl : L.length ≤ 249) : Nice (addF L d) :=
  ⟨(add_fine h.fine d).1, fun x hx => by
    rcases ((add_fine h.fine d).2 x).1 hx with e | e
    · rw [e.1]; exact hd
    · exact h.sm x e, by have := add_len L d; omega⟩
theorem spD_below {w w' : World} {base : Nat} {v : Value} {l : List P} (h : SpD w base v l) (hb : Below w.heap.size w w') : SpD w' base v l :=
  Spare.kept (row := none) h ⟨hb.os, hb.tape, hb.output, hb.size, fun i hi _ => hb.block i hi⟩ (by cases v.ownBlock with | none => exact Or.inl rfl | some g => exact Or.inr (by simp))
def sRowD (b0 : Nat) (l : List P) : RSpec := sOne (fun v W => SpD W b0 v l) (fun _ _ _ h hb => spD_below h hb)
def OneD (W : World) (v : Value) (d : P) : Prop := ∃ g, v = .slice (some ⟨g, 0, none⟩) 1 1 ∧ g < W.heap.size ∧ ∀ j u, (enD d)[j]? = some u → W.cell? ((⟨g, 0, none⟩ : Addr).add j) = some u
theorem OneD.below {W W' : World} {v : Value} {d : P} (h : OneD W v d) (hb : Below W.heap.size W W') : OneD W' v d := by
  obtain ⟨g, h1, h2, h3⟩ := h
  refine ⟨g, h1, Nat.lt_of_lt_of_le h2 hb.size, fun j u hu => ?_⟩
  have := h3 j u hu
  rw [addr_add] at this ⊢
  exact (hb.cell (p := ⟨g, 0 + j, none⟩) h2).trans this
theorem OneD.new (W : World) (d : P) (t : TypeId) : OneD (W.alloc (.cells ⟨enD d⟩ t)) (.slice (some ⟨W.heap.size, 0, none⟩) 1 1) d := ⟨_, rfl, by simp, fun j u hu => new_cells W (enD d) t j u hu⟩
def sOneD (d : P) : RSpec := sOne (fun v W => OneD W v d) (fun _ _ _ h hb => h.below hb)

/-- A set that is stored into a variable: other maps and rows of writes stay. -/
theorem set_kept {w : World} {k : Nat} {m0 : Option Nat} {a0 : Option Addr} {n0 c0 : Nat} (h : w.heap[k]? = some (.cells #[.map m0, .slice a0 n0 c0] 40 (0, 0))) (x y : Value) :
    (∀ m l, VMap w m l → VMap ((w.setCell ⟨k, 0, none⟩ x).setCell ⟨k, 1, none⟩ y) m l) ∧ (∀ v l, DRow w v l → DRow ((w.setCell ⟨k, 0, none⟩ x).setCell ⟨k, 1, none⟩ y) v l) := by
  have hg : w.grownBy ((w.setCell ⟨k, 0, none⟩ x).setCell ⟨k, 1, none⟩ y) (some k) := by
    iterate 2 refine grown_setCell ?_ (Or.inl rfl) _
    exact World.grownBy.refl _ _
  refine ⟨fun m l hm => World.ownsMap.kept hm hg (fun e => ?_), fun v l hl => ?_⟩
  · obtain ⟨es, clock, hb, _⟩ := hm
    injection e with e
    subst e
    rw [h] at hb
    cases hb
  · obtain ⟨ao, cap, hv, h1, h2, h3⟩ := hl
    refine ⟨ao, cap, hv, h1, h2, ?_⟩
    rcases h3 with h3 | ⟨b, off, ha, hlt, hc⟩
    · exact Or.inl h3
    · by_cases hl0 : l.length = 0
      · exact Or.inl hl0
      · have hne : b ≠ k := by
          rintro rfl
          obtain ⟨x, t, rfl⟩ := List.exists_cons_of_ne_nil (l := l) (fun e => hl0 (by rw [e]; rfl))
          have q := hc 0 x rfl 0 (by decide)
          simp [World.cell?, h, enD] at q
          rcases off with _ | _ | off <;> simp at q
        exact Or.inr ⟨b, off, ha, Nat.lt_of_lt_of_le hlt hg.size, fun i x hi j hj => (World.cell?_of_block (a := ⟨b, off + i * 2 + j, none⟩) (hg.block b hlt (fun e => hne (by injection e)))).trans (hc i x hi j hj)⟩
theorem set_stored {w : World} {k : Nat} {m0 : Option Nat} {a0 : Option Addr} {n0 c0 : Nat} (h : w.heap[k]? = some (.cells #[.map m0, .slice a0 n0 c0] 40 (0, 0))) (x y : Value) {v : Value} {L : List P} (hv : SAt w v L) :
    SAt ((w.setCell ⟨k, 0, none⟩ x).setCell ⟨k, 1, none⟩ y) v L := by
  obtain ⟨o, ao, ac, e, h1, h2⟩ := hv
  refine ⟨o, ao, ac, e, ?_, (set_kept h x y).2 _ _ h2⟩
  cases o with
  | none => exact h1
  | some b => exact (set_kept h x y).1 _ _ h1

set_option maxRecDepth 100000 in
set_option maxHeartbeats 4000000 in
theorem with_in (o : Option Nat) (ao : Option Addr) (ac : Nat) (L : List P) (d : P) (w : World) (h1 : OMap w o (kn L)) (h2 : DRow w (.slice ao (rs L).length ac) (rs L)) (hL : Nice L) (hl : L.length ≤ 249) (hr : right d = true) (d2 : d.who ≤ 9223372036854775807) (hh : hasD L d = false) :
    Calls Try.prog 18 #[.agg #[.map o, .slice ao (rs L).length ac], vD d] w (SetP w (addF L d)) := by
  have hrd := (right_iff d).1 hr
  have hs0 : SAt w (.agg #[.map o, .slice ao (rs L).length ac]) L := ⟨o, ao, ac, rfl, h1, h2⟩
  have HHAS := Lib.hid (fun w' (hb : Below w.heap.size w w') => has_lit false _ L d w' hh (hs0.below hb) hL (by omega) d2)
  have HCL := Lib.hid (fun w' (hb : Below w.heap.size w w') => clone_any _ (rs L) w' (Lst.below h2 hb) (by have := hL.rs.2.2; omega))
  have HO := Lib.hid (fun w' (hb : Below w.heap.size w w') => h1.below hb)
  have HL := Lib.hid hL
  have HD := Lib.hid (And.intro hr (And.intro d2 hh))
  have hrl := hL.rs.2.2
  obtain ⟨i0, hi, hz0, hz1, hz2⟩ := info_parts_D
  have HI := Lib.hid (And.intro hi (And.intro hz0 (And.intro hz1 hz2)))
  clear hi hz0 hz1 hz2 hs0 h1 h2 hL hh
  obtain ⟨n, hn⟩ : ∃ n, n = (rs L).length := ⟨_, rfl⟩
  rw [← hn] at hrl HHAS HCL ⊢
  have HN := Lib.hid hn
  clear hn
  go_enter Try.func18, Try.ntmps18
  go_wp2_with fail
  obtain ⟨W1, hW1⟩ : ∃ W, W = (((w.alloc (.cells #[.map o, .slice ao n ac] 40)).alloc (.cells #[.int .i64 d.who, .int .i64 d.n] 33)).alloc (.cells #[.map none, .slice none 0 0] 40)) := ⟨_, rfl⟩
  have c0 : W1.cell? ⟨w.heap.size, 0, none⟩ = some (.map o) := by rw [hW1]; go_simp
  have c1 : W1.cell? ⟨w.heap.size, 1, none⟩ = some (.slice ao n ac) := by rw [hW1]; go_simp
  have c2 : W1.cell? ⟨w.heap.size + 1, 0, none⟩ = some (.int .i64 d.who) := by rw [hW1]; go_simp
  have c3 : W1.cell? ⟨w.heap.size + 1, 1, none⟩ = some (.int .i64 d.n) := by rw [hW1]; go_simp
  have c4 : W1.heap[w.heap.size + 2]? = some (.cells #[.map none, .slice none 0 0] 40 (0, 0)) := by
    rw [hW1]
    have := heap_alloc_new ((w.alloc (.cells #[.map o, .slice ao n ac] 40)).alloc (.cells #[.int .i64 d.who, .int .i64 d.n] 33)) (.cells #[.map none, .slice none 0 0] 40)
    simpa using this
  have hs1 : W1.heap.size = w.heap.size + 3 := by rw [hW1]; simp
  have hb1 : Below w.heap.size w W1 := by rw [hW1]; exact (((Below.refl _ _).alloc (Nat.le_refl _) _).alloc (by simp) _).alloc (by simp; omega) _
  rw [← hW1]
  have HM := Lib.hid (fun W' (h : Below W1.heap.size W1 W') => show (W'.cell? ⟨w.heap.size, 0, none⟩ = some (.map o) ∧ W'.cell? ⟨w.heap.size, 1, none⟩ = some (.slice ao n ac)) ∧ (W'.cell? ⟨w.heap.size + 1, 0, none⟩ = some (.int .i64 d.who) ∧ W'.cell? ⟨w.heap.size + 1, 1, none⟩ = some (.int .i64 d.n)) ∧ W'.heap[w.heap.size + 2]? = some (.cells #[.map none, .slice none 0 0] 40 (0, 0)) from
    ⟨⟨(h.cell (p := ⟨w.heap.size, 0, none⟩) (by simp; omega)).trans c0, (h.cell (p := ⟨w.heap.size, 1, none⟩) (by simp; omega)).trans c1⟩, ⟨(h.cell (p := ⟨w.heap.size + 1, 0, none⟩) (by simp; omega)).trans c2, (h.cell (p := ⟨w.heap.size + 1, 1, none⟩) (by simp; omega)).trans c3⟩, (h.block _ (by omega)).trans c4⟩)
  have HB1 := Lib.hid hb1
  clear hW1 c0 c1 c4 hb1
  refine (right_lit true d _ hr).mono ?_
  rintro e w2 ⟨rfl, hb2⟩
  have HB2 := Lib.hid hb2
  have hz2 := hb2.size
  obtain ⟨⟨c0, c1⟩, ⟨c2', c3'⟩, -⟩ := HM.out w2 hb2
  clear hb2 c2 c3
  go_wp2_with fail
  refine (HHAS.out _ (below_then HB1.out (by omega) HB2.out)).mono ?_
  rintro e w3 ⟨rfl, hb3⟩
  have HB3 := Lib.hid (below_then HB2.out (Nat.le_refl _) hb3)
  have hz3 := hb3.size
  clear hb3 c0 c1 c2' c3'
  go_upto_region 3 with fail
  refine wp_region_told [] 5 [false, false, false, false, false, false, false, false, false, false, false, false, false, false, false, true, true, true, true, true, false, false, false, false, false, false, false, false]
    [sLit (.pointer (some ⟨w.heap.size, 1, none⟩)),
    sLit (.slice ao n ac),
    sRowD w3.heap.size (rs L),
    sLit (.agg #[.int .i64 d.who, .int .i64 d.n]),
    sOneD d] (by kernel_rfl) (by kernel_rfl) (by kernel_rfl) (fun F hF => ?_)
  simp only [over, overL, Nat.reduceAdd] at hF
  obtain rfl := funext hF
  clear hF
  refine ⟨⟨?_, ?_, ?_, ?_, ?_, trivial⟩, ?_⟩
  · intro V W hb hd K hK _
    clear hd
    go_wp2_with fail
    refine hK _ _ ?_ ?_ ?_ ?_
    · rfl
    · exact Below.refl _ _
    · exact rfl
    · trivial
  · intro V W hb hd K hK _
    have h0 : (V 15) = .pointer (some ⟨w.heap.size, 1, none⟩) := hd 0 (by kernel_rfl)
    clear hd
    obtain ⟨⟨c0, c1⟩, -, -⟩ := HM.out W (below_then HB3.out (Nat.le_refl _) hb)
    go_wp2_with fail
    refine hK _ _ ?_ ?_ ?_ ?_
    · rfl
    · exact Below.refl _ _
    · exact rfl
    · trivial
  · intro V W hb hd K hK _
    have h1 : (V 16) = .slice ao n ac := hd 1 (by kernel_rfl)
    clear hd
    go_wp2_with fail
    refine (HCL.out W (below_then HB1.out (by omega) (below_then HB3.out (Nat.le_refl _) hb))).mono ?_
    rintro e w1 ⟨v1, rfl, hv1, hb1⟩
    go_wp2_with fail
    refine hK _ _ ?_ ?_ ?_ ?_
    · rfl
    · exact hb1
    · exact ⟨own_base (Spare.own hv1) hb.size, hv1.rest⟩
    · trivial
  · intro V W hb hd K hK _
    clear hd
    obtain ⟨-, ⟨c2, c3⟩, -⟩ := HM.out W (below_then HB3.out (Nat.le_refl _) hb)
    go_wp2_with fail
    refine hK _ _ ?_ ?_ ?_ ?_
    · rfl
    · exact Below.refl _ _
    · exact rfl
    · trivial
  · intro V W hb hd K hK _
    have h3 : (V 18) = .agg #[.int .i64 d.who, .int .i64 d.n] := hd 3 (by kernel_rfl)
    clear hd
    go_wp2_with fail
    refine hK _ _ ?_ ?_ ?_ ?_
    · rfl
    · exact (Below.refl _ _).alloc (Nat.le_refl _) _
    · exact OneD.new _ _ _
    · trivial
  · intro V W hb hd hap
    have h2 : SpD W w3.heap.size (V 17) (rs L) := hd 2 (by decide)
    have h4 : OneD W (V 19) d := hd 4 (by decide)
    clear hd hap
    simp only [List.drop_succ_cons, List.drop_zero]
    obtain ⟨g, e4, hgl, hgc⟩ := h4
    have HA := Lib.hid h2
    have HHB := Lib.hid hb
    have hzW := hb.size
    clear h2 hb
    have hsA : SpD W w3.heap.size (V 17) (rs L) := HA.out
    unfold SpD at hsA
    rw [← HN.out] at hsA
    have HSA := Lib.hid hsA
    have hform := row_form (Spare.own HSA.out)
    obtain ⟨vo, vc, e17⟩ := hform
    have hgc2 := hgc
    clear hsA
    go_wp2_with (at_builtin; refine wpList_append_spareAny rfl (.tmp 17) (.tmp 19) 31 rfl w3.heap.size 33 i0 (.agg #[.int .i64 0, .int .i64 0]) [.int .i64 0, .int .i64 0] 16 Try.underlying31 HI.out.1 HI.out.2.1 rfl HI.out.2.2.1 HI.out.2.2.2 (by decide) (V 17) n ((rs L).flatMap enD) rfl HSA.out (some ⟨g, 0, none⟩) 1 1 (enD d) (by first | rfl | exact e4) rfl (Or.inr ⟨_, rfl, hgc⟩) (enD_one d) (by unfold maxLen; omega) (by omega) hzW ?_)
    intro v' w5 hs5 hg5 _ _
    have hrow5 : SpD w5 w3.heap.size v' (rs L ++ [d]) := by
      unfold SpD; rw [List.length_append, ← HN.out, List.flatMap_append, List.flatMap_singleton]; exact hs5
    have hb5 : Below w3.heap.size w3 w5 := HHB.out.grown hg5 hzW (fun j hj => ((Spare.own HSA.out).lt j (by rw [e17]; exact hj)).1)
    obtain ⟨g5, cap5, rfl⟩ : ∃ g cap, v' = .slice (some ⟨g, 0, none⟩) (n + 1) cap := by
      rcases (Spare.own hs5).2 with ⟨e, h0⟩ | ⟨g', cap', cur', e, _⟩
      · omega
      · exact ⟨g', cap', e⟩
    have HROW5 := Lib.hid (Spare.own hrow5)
    have HB5 := Lib.hid hb5
    have hz5 := hb5.size
    have hlen5 : (rs L ++ [d]).length = n + 1 := by rw [List.length_append, ← HN.out]; rfl
    have HLEN5 := Lib.hid hlen5
    clear hs5 hg5 hrow5 hb5 e17 e4 hgl hgc hgc2 hlen5
    go_wp2_with fail
    have hso := sort_some w3.heap.size g5 cap5 (rs L ++ [d]) w5 (by rw [HLEN5.out]; have h := HROW5.out; rw [HLEN5.out] at h; exact h) (by rw [HLEN5.out]; omega)
    rw [HLEN5.out] at hso
    refine hso.mono ?_
    clear hso
    rintro e w6 ⟨rfl, R', hp6, hs6, ho6, hg6⟩
    have hlen6 : R'.length = n + 1 := by rw [hp6.length_eq, HLEN5.out]
    have hlt6 : ∀ j, (Value.slice (some ⟨g5, 0, none⟩) (n + 1) cap5).ownBlock = some j → w3.heap.size ≤ j := fun j hj => (World.ownsRow.lt HROW5.out j hj).1
    have hb6 : Below w3.heap.size w3 w6 := HB5.out.grown hg6 hz5 hlt6
    have HB6 := Lib.hid (below_then HB3.out (Nat.le_refl _) hb6)
    have HROW6 := Lib.hid (show DRow w6 (.slice (some ⟨g5, 0, none⟩) R'.length cap5) R' from by rw [hlen6]; exact Lst.of_owns enD_len (by decide) ho6)
    have HP6 := Lib.hid (And.intro hp6 hs6)
    have hz6 := HB6.out.size
    obtain ⟨⟨c0, c1⟩, -, -⟩ := HM.out w6 HB6.out
    clear hb6 ho6 hg6 hlt6 hp6 hs6
    go_wp2_with fail
    have hfine := HL.out.fine
    have hrs := HL.out.rs
    have hmem : ∀ x, x ∈ addF L d ↔ inK (kn L) x ∨ x ∈ rs L ++ [d] := fun x => by
      rw [(add_fine hfine d).2 x, mem_parts hfine x, List.mem_append, List.mem_singleton]
      constructor
      · rintro (e | e | e)
        · exact Or.inr (Or.inr e.1)
        · exact Or.inl e
        · exact Or.inr (Or.inl e)
      · rintro (e | e | e)
        · exact Or.inr (Or.inl e)
        · exact Or.inr (Or.inr e)
        · exact Or.inl ⟨e, HD.out.1⟩
    have hnod : (rs L ++ [d]).Nodup := by
      refine List.nodup_append.2 ⟨hrs.1.str.nodup, by simp, fun a ha b hb e => ?_⟩
      have := List.mem_singleton.1 hb
      subst this
      subst e
      have h1 := (mem_parts hfine a).2 (Or.inr ha)
      have h2 := (hasD_iff L a).2 h1
      rw [HD.out.2.2] at h2
      cases h2
    have hrr : ∀ x ∈ rs L ++ [d], right x = true := fun x hx => by
      rcases List.mem_append.1 hx with e | e
      · exact hrs.1.ok x e
      · rw [List.mem_singleton.1 e]; exact HD.out.1
    have hsm : Sm R' := fun x hx => by
      rcases List.mem_append.1 (HP6.out.1.mem_iff.1 hx) with e | e
      · exact hrs.2.1 x e
      · rw [List.mem_singleton.1 e]; exact HD.out.2.1
    have HPK := Lib.hid (packed_is HL.out.kn.1 HP6.out.1 HP6.out.2 hnod hrr (add_fine hfine d).1 hmem)
    have hpk := packed_any o (some ⟨g5, 0, none⟩) cap5 (kn L) R' w6 HL.out.kn.1 HL.out.kn.2.1 (by have := HL.out.kn.2.2; omega) (fun x hx => hrr x (HP6.out.1.mem_iff.1 hx)) hsm (by omega) (HO.out _ (below_then HB1.out (by omega) HB6.out)) HROW6.out
    rw [HPK.out, hlen6] at hpk
    refine hpk.mono ?_
    clear hpk hmem hnod hrr hsm hrs hfine c0 c1
    rintro e w7 ⟨b, po, pc, rfl, hv7, hr7, hb7⟩
    simp only [] at hv7 hr7
    have HB7 := Lib.hid (below_then HB6.out (by omega) hb7)
    have HV7 := Lib.hid (And.intro hv7 hr7)
    have hc7 := (HM.out w7 HB7.out).2.2
    have f0 := frozen_of_row w7 (w.heap.size + 2) 0 _ _ hc7
    have f1 := frozen_of_row w7 (w.heap.size + 2) 1 _ _ hc7
    have q0 : w7.cell? ⟨w.heap.size + 2, 0, none⟩ = some (.map none) := by rw [cell_of_row w7 _ 0 _ _ (0, 0) hc7]; rfl
    have q1 : w7.cell? ⟨w.heap.size + 2, 1, none⟩ = some (.slice none 0 0) := by rw [cell_of_row w7 _ 1 _ _ (0, 0) hc7]; rfl
    have hz7 := HB7.out.size
    clear hv7 hr7 hb7 hc7
    go_wp2_with fail
    have p0 : ((w7.setCell ⟨w.heap.size + 2, 0, none⟩ (.map (some b))).setCell ⟨w.heap.size + 2, 1, none⟩ (.slice po (rs (addF L d)).length pc)).cell? ⟨w.heap.size + 2, 0, none⟩ = some (.map (some b)) := by go_simp
    have p1 : ((w7.setCell ⟨w.heap.size + 2, 0, none⟩ (.map (some b))).setCell ⟨w.heap.size + 2, 1, none⟩ (.slice po (rs (addF L d)).length pc)).cell? ⟨w.heap.size + 2, 1, none⟩ = some (.slice po (rs (addF L d)).length pc) := by go_simp
    refine bodyPost_ret (v := .agg #[.map (some b), .slice po (rs (addF L d)).length pc]) (by simp [results, Try.f18, go_sem, p0, p1]) rfl ?_
    have hk := set_kept (HM.out w7 HB7.out).2.2 (.map (some b)) (.slice po (rs (addF L d)).length pc)
    exact ⟨_, rfl, ⟨some b, po, pc, rfl, hk.1 _ _ HV7.out.1, hk.2 _ _ HV7.out.2⟩, ((below_then HB1.out (by omega) HB7.out).setCell (p := ⟨w.heap.size + 2, 0, none⟩) (by simp) _).setCell (p := ⟨w.heap.size + 2, 1, none⟩) (by simp) _⟩
end Go.Proofs.Ytihfcohebgemdaa.Dots
