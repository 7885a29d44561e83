/- Layer 6 (dots): packed. -/
import Derived.Test.YtihfcohebgemdaaDotSet
set_option linter.unusedSimpArgs false
set_option linter.unusedVariables false
namespace Go.Proofs.Ytihfcohebgemdaa.Dots
open Go.RowKit Go.Maps Go.Sort Go.Proofs.Ytihfcohebgemdaa.Vec Go.Proofs.Ytihfcohebgemdaa.Spare

def PackP (w : World) (s : List P × List P) (e : Ending) (w' : World) : Prop := ∃ b ao ac, e = .returned (.agg #[.map (some b), .slice ao s.2.length ac]) ∧ VMap w' b s.1 ∧ DRow w' (.slice ao s.2.length ac) s.2 ∧ Below w.heap.size w w'
structure PackI (K : List P) (k : Nat) (s : List P × List P) : Prop where
  good : Vec.Good s.1
  sm : Sm s.1
  len : s.1.length ≤ K.length + k
  out : s.2.length ≤ k
theorem PackI.step {K : List P} {k : Nat} {s : List P × List P} (h : PackI K k s) {d : P} (hr : right d = true) (hs : d.who ≤ 9223372036854775807) : PackI K (k + 1) (packS s d) := by
  have h1 := h.len
  have h2 := h.out
  have h3 := setF_len s.1 d
  unfold packS
  split
  · exact ⟨h.good.set hr, h.sm.set hs, by show (setF s.1 d).length ≤ _; omega, by show s.2.length ≤ _; omega⟩
  · split
    · exact ⟨h.good, h.sm, by omega, by omega⟩
    · exact ⟨h.good, h.sm, by show s.1.length ≤ _; omega, by show (s.2 ++ [d]).length ≤ _; simp; omega⟩
set_option maxRecDepth 100000 in
set_option maxHeartbeats 4000000 in
theorem packed_any (o : Option Nat) (ao : Option Addr) (ac : Nat) (K R : List P) (w : World) (hK : Vec.Good K) (sK : Sm K) (lK : K.length ≤ 400) (hR : ∀ x ∈ R, right x = true) (sR : Sm R) (lR : R.length ≤ 400) (h1 : OMap w o K) (h2 : DRow w (.slice ao R.length ac) R) :
    Calls Try.prog 48 #[.agg #[.map o, .slice ao R.length ac]] w (PackP w (packF K R)) := by
  obtain ⟨i0, hi, hz0, hz1, hz2⟩ := info_parts_D
  have HI := Lib.hid (And.intro hi (And.intro hz0 (And.intro hz1 hz2)))
  clear hi hz0 hz1 hz2
  have HJ := Lib.hid (fun w' (hb : Below w.heap.size w w') => join_any o none K [] w' hK sK Good.nil (fun x hx => by cases hx) (h1.below hb) rfl lK (by simp))
  have HR := Lib.hid (And.intro hR (And.intro sR h2))
  have HK := Lib.hid (And.intro hK sK)
  clear h1 h2 hR sR hK sK
  go_enter Try.func48, Try.ntmps48
  go_wp2_with fail
  obtain ⟨W0, hW0⟩ : ∃ W, W = (w.alloc (.cells #[.map o, .slice ao R.length ac] 40)).alloc (.cells #[.map none, .slice none 0 0] 40) := ⟨_, rfl⟩
  have e1 : W0.cell? ⟨w.heap.size, 1, none⟩ = some (.slice ao R.length ac) := by rw [hW0]; go_simp
  have e2 : W0.heap[w.heap.size + 1]? = some (.cells #[.map none, .slice none 0 0] 40 (0, 0)) := by
    rw [hW0]
    have := heap_alloc_new (w.alloc (.cells #[.map o, .slice ao R.length ac] 40)) (.cells #[.map none, .slice none 0 0] 40)
    simpa using this
  have hs0 : W0.heap.size = w.heap.size + 2 := by rw [hW0]; simp
  have hb0 : Below w.heap.size w W0 := by rw [hW0]; exact ((Below.refl _ _).alloc (Nat.le_refl _) _).alloc (by simp) _
  rw [← hW0]
  have HB0 := Lib.hid hb0
  clear hW0 hb0
  refine (HJ.out _ HB0.out).mono ?_
  rintro e W1 ⟨b, rfl, hv1, hbb, hb1⟩
  rw [join_nil] at hv1
  have e1' := (hb1.cell (p := ⟨w.heap.size, 1, none⟩) (by simp; omega)).trans e1
  have hs1 := hb1.size
  have hbl := hv1.lt
  have HV1 := Lib.hid hv1
  have HB1 := Lib.hid hb1
  have E2 := Lib.hid e2
  have HS := Lib.hid (And.intro hs0 (And.intro hbb (And.intro hs1 hbl)))
  clear hv1 hb1 e1 e2 HJ
  go_wp2_with fail
  go_loopw [4, 13] (fun ov iv wr => ∃ (k : Nat) (s : List P × List P), k ≤ R.length ∧ iv = .int .i64 k ∧ Hid (s = (R.take k).foldl packS (K, [])) ∧ Hid (PackI K k s) ∧ Hid (VMap wr b s.1) ∧ Hid (wr.ownsRow (b + 1) 33 2 ov s.2.length (s.2.flatMap enD)) ∧ Hid (Below W0.heap.size W0 wr ∧ b < wr.heap.size)) (fun _ iv _ => R.length - (vInt iv).toNat)
  case atStart => exact ⟨0, (K, []), by omega, rfl, Lib.hid rfl, Lib.hid ⟨HK.out.1, HK.out.2, by simp, by simp⟩, HV1, Lib.hid (World.ownsRow_nil _ _ _ _), Lib.hid ⟨HB1.out, by omega⟩⟩
  case round =>
    obtain ⟨k, s, hk, rfl, hs, hp, hv, hown, hbx⟩ := hrel
    obtain ⟨K1, out⟩ := s
    simp only [] at hv hown
    have hsz := hbx.out.1.size
    have hbw := hbx.out.2
    have lK1 := hp.out.len
    have lO1 := hp.out.out
    simp only [] at lK1 lO1
    by_cases hlt : k < R.length
    · have hA := Lst.below HR.out.2.2 (below_then HB0.out (by omega) hbx.out.1)
      obtain ⟨ab, aoff, rfl, hab, a0, a1⟩ := dot_at hA (List.getElem?_eq_getElem hlt)
      have htk := List.take_succ_eq_append_getElem hlt
      have hmem : R[k] ∈ R := List.getElem_mem hlt
      have hry := HR.out.1 _ hmem
      have hsm := HR.out.2.1 _ hmem
      obtain ⟨d, hd⟩ : ∃ d, d = R[k] := ⟨_, rfl⟩
      rw [← hd] at a0 a1 htk hry hsm
      have hrd := (right_iff d).1 hry
      have HNX := Lib.hid (show packS (K1, out) d = (R.take (k + 1)).foldl packS (K, []) from by rw [htk, List.foldl_append, ← hs.out]; rfl)
      have HPI := Lib.hid (hp.out.step hry hsm)
      have hnn := hp.out.good.nonneg d.who
      simp only [] at hnn
      have HG := Lib.hid hp.out.good
      have hrun : ∀ ob, (Instr.lookup 38 (.map (some b)) (.int .i64 d.who) false).run Try.prog (wr.alloc ob) = .ok (.int .i64 (getF K1 d.who)) (wr.alloc ob) := fun ob => (hv.out.below ((Below.refl _ _).alloc (Nat.le_refl _) ob)).at (by omega) hsm
      have HVA := Lib.hid (fun ob => hv.out.below ((Below.refl wr.heap.size wr).alloc (Nat.le_refl _) ob))
      have HOA := Lib.hid (fun ob => World.ownsRow.alloc hown.out ob)
      have HBA := Lib.hid (fun ob => hbx.out.1.alloc (show W0.heap.size ≤ wr.heap.size by omega) ob)
      obtain ⟨g, hg⟩ : ∃ g, g = getF K1 d.who := ⟨_, rfl⟩
      rw [← hg] at hrun hnn
      have HGT := Lib.hid hg
      clear hA htk hmem hry hd hg hs hp
      by_cases c1 : d.n = g + 1
      · have HN2 := Lib.hid (show packS (K1, out) d = (setF K1 d, out) from by unfold packS; simp only []; rw [if_pos (by rw [← HGT.out]; exact c1)])
        have c1b : (d.n == g + 1) = true := by simpa using c1
        have hkey := key (x := d.who) (by omega) hsm
        have hval : plainElem (H := Unit) Try.prog 3 (.int .i64 d.n) = some (.lit (.int .i64 d.n), []) := plainElem_int Try.underlying3 (wf64 (by omega) (by omega))
        clear c1
        go_wp2_with (at_mapUpdate; refine wpList_mapUpdate_own _ rfl _ _ _ 38 rfl 3 3 law Try.underlying38 _ b K1.length (dat K1) rfl (HVA.out _) (by unfold maxLen; omega) _ _ (.int .i64 d.who) rfl rfl hkey _ [] hval ?_)
        intro w3 hown3 hgrow3
        rw [dat_put HG.out.1 d] at hown3
        have HV3 := Lib.hid (own_tight hown3)
        have HO3 := Lib.hid (World.ownsRow.kept (HOA.out _) hgrow3 (Or.inr fun e => by
          have := (World.ownsRow.lt (HOA.out (.cells #[.int .i64 d.who, .int .i64 d.n] 33)) b e).1
          omega))
        have HB3 := Lib.hid ((HBA.out (.cells #[.int .i64 d.who, .int .i64 d.n] 33)).grown hgrow3 (by simp; omega) (fun j hj => by cases hj; omega))
        have hs3 := hgrow3.size
        simp at hs3
        clear hown3 hgrow3
        rw [HN2.out] at HPI HNX
        go_wp2_with fail
        go_roundw
        case rel => exact ⟨k + 1, (setF K1 d, out), by omega, by go_num, HNX, HPI, HV3, HO3, Lib.hid ⟨HB3.out, by omega⟩⟩
        case measure => simp [vInt]; omega
      · have c1b : (d.n == g + 1) = false := by simpa using c1
        obtain ⟨q, hq⟩ : ∃ q, knowsF K1 d = q := ⟨_, rfl⟩
        have HKN := Lib.hid (fun w' (hb : Below wr.heap.size wr w') => knows_lit q (some b) K1 d w' hq (hv.out.below hb) (by omega) hsm)
        have hqi : q = true ↔ d.n ≤ g := by rw [← hq, HGT.out]; unfold knowsF; simp [(right_iff d).2 hrd]
        have HQI := Lib.hid hqi
        have C1 := Lib.hid c1
        clear hq hqi c1
        cases q
        · have HN2 := Lib.hid (show packS (K1, out) d = (K1, out ++ [d]) from by
            unfold packS; simp only []
            rw [if_neg (by rw [← HGT.out]; exact C1.out), if_neg (fun h => by have := HQI.out.2 (by rw [HGT.out]; exact h.2); cases this)])
          rw [HN2.out] at HPI HNX
          go_wp2_with fail
          refine (HKN.out _ ((Below.refl _ _).alloc (Nat.le_refl _) _)).mono ?_
          rintro e w2 ⟨rfl, hb2⟩
          have d0 := (hb2.cell (p := ⟨wr.heap.size, 0, none⟩) (by simp)).trans (show (wr.alloc (.cells #[.int .i64 d.who, .int .i64 d.n] 33)).cell? ⟨wr.heap.size, 0, none⟩ = some (.int .i64 d.who) by go_simp)
          have d1 := (hb2.cell (p := ⟨wr.heap.size, 1, none⟩) (by simp)).trans (show (wr.alloc (.cells #[.int .i64 d.who, .int .i64 d.n] 33)).cell? ⟨wr.heap.size, 1, none⟩ = some (.int .i64 d.n) by go_simp)
          have hb3 : Below wr.heap.size wr w2 := below_then ((Below.refl _ _).alloc (Nat.le_refl _) _) (Nat.le_refl _) hb2
          have hs2 := hb2.size
          simp at hs2
          have HV2 := Lib.hid (hv.out.below hb3)
          have HO2 := Lib.hid (World.ownsRow.kept hown.out (row := none) ⟨hb3.os, hb3.tape, hb3.output, hb3.size, fun i hi _ => hb3.block i hi⟩ (by cases u4.ownBlock <;> simp))
          have HB2 := Lib.hid (below_then hbx.out.1 (by omega) hb3)
          clear hb2 hb3
          go_wp2_with (at_builtin; refine wpList_append_own _ rfl _ _ 31 rfl (b + 1) 33 i0 (.agg #[.int .i64 0, .int .i64 0]) 2 16 Try.underlying31 HI.out.1 HI.out.2.1 HI.out.2.2.1 HI.out.2.2.2 rfl (by decide) _ _ _ rfl (HO2.out.alloc _) ⟨_, 0, none⟩ 1 1 (enD d) rfl rfl ?d1 ?d2 ?d3 ?d4 ?d5 ?_)
          case d1 => exact new_cells _ (enD d) _
          case d2 => exact enD_one d
          case d3 => unfold maxLen; omega
          case d4 => omega
          case d5 => simp; omega
          intro v' w3 hown3 hgrow3 _
          have HO3 := Lib.hid (show w3.ownsRow (b + 1) 33 2 v' (out ++ [d]).length ((out ++ [d]).flatMap enD) from by rw [List.length_append, List.flatMap_append, List.flatMap_singleton]; exact hown3)
          have HV3 := Lib.hid (show VMap w3 b K1 from World.ownsMap.kept (HV2.out.below ((Below.refl _ _).alloc (Nat.le_refl _) _)) hgrow3 (fun e => by
            have := (World.ownsRow.lt HO2.out b e.symm).1
            omega))
          have HB3 := Lib.hid ((HB2.out.alloc (by omega) _).grown hgrow3 (by simp; omega) (fun j hj => by have := (World.ownsRow.lt HO2.out j hj).1; omega))
          have hs3 := hgrow3.size
          simp at hs3
          clear hown3 hgrow3
          go_wp2_with fail
          go_roundw
          case rel => exact ⟨k + 1, (K1, out ++ [d]), by omega, by go_num, HNX, HPI, HV3, HO3, Lib.hid ⟨HB3.out, by omega⟩⟩
          case measure => simp [vInt]; omega
        · have HN2 := Lib.hid (show packS (K1, out) d = (K1, out) from by
            unfold packS; simp only []
            rw [if_neg (by rw [← HGT.out]; exact C1.out), if_pos ⟨(right_iff d).2 hrd, by rw [← HGT.out]; exact HQI.out.1 rfl⟩])
          rw [HN2.out] at HPI HNX
          go_wp2_with fail
          refine (HKN.out _ ((Below.refl _ _).alloc (Nat.le_refl _) _)).mono ?_
          rintro e w2 ⟨rfl, hb2⟩
          have hb3 : Below wr.heap.size wr w2 := below_then ((Below.refl _ _).alloc (Nat.le_refl _) _) (Nat.le_refl _) hb2
          have hs2 := hb2.size
          simp at hs2
          have HV2 := Lib.hid (hv.out.below hb3)
          have HO2 := Lib.hid (World.ownsRow.kept hown.out (row := none) ⟨hb3.os, hb3.tape, hb3.output, hb3.size, fun i hi _ => hb3.block i hi⟩ (by cases u4.ownBlock <;> simp))
          have HB2 := Lib.hid (below_then hbx.out.1 (by omega) hb3)
          clear hb2 hb3
          go_wp2_with fail
          go_roundw
          case rel => exact ⟨k + 1, (K1, out), by omega, by go_num, HNX, HPI, HV2, HO2, Lib.hid ⟨HB2.out, by omega⟩⟩
          case measure => simp [vInt]; omega
    · obtain rfl : k = R.length := by omega
      have hfin := hs.out
      rw [List.take_length] at hfin
      have HF := Lib.hid (show (K1, out) = packF K R from hfin)
      obtain ⟨vo, vc, rfl⟩ := row_form hown.out
      have hc2 : wr.heap[w.heap.size + 1]? = some (.cells #[.map none, .slice none 0 0] 40 (0, 0)) := (hbx.out.1.block _ (by omega)).trans E2.out
      have f0 := frozen_of_row wr (w.heap.size + 1) 0 _ _ hc2
      have f1 := frozen_of_row wr (w.heap.size + 1) 1 _ _ hc2
      have q0 : wr.cell? ⟨w.heap.size + 1, 0, none⟩ = some (.map none) := by rw [cell_of_row wr _ 0 _ _ (0, 0) hc2]; rfl
      have q1 : wr.cell? ⟨w.heap.size + 1, 1, none⟩ = some (.slice none 0 0) := by rw [cell_of_row wr _ 1 _ _ (0, 0) hc2]; rfl
      have hlt2 : w.heap.size + 1 < wr.heap.size := by omega
      have hgw : wr.grownBy ((wr.setCell ⟨w.heap.size + 1, 0, none⟩ (.map (some b))).setCell ⟨w.heap.size + 1, 1, none⟩ (.slice vo out.length vc)) (some (w.heap.size + 1)) := by
        iterate 2 refine grown_setCell ?_ (Or.inl rfl) _
        exact World.grownBy.refl _ _
      have HV3 := Lib.hid (World.ownsMap.kept hv.out hgw (by simp; omega))
      have HO3 := Lib.hid (World.ownsRow.kept hown.out hgw (Or.inr fun e => by have := (World.ownsRow.lt hown.out _ e).1; omega))
      have HB3 := Lib.hid (below_then HB0.out (by omega) hbx.out.1)
      have hbs := HB3.out.size
      clear hfin hc2 hgw hs hp
      go_wp2_with fail
      have p0 : ((wr.setCell ⟨w.heap.size + 1, 0, none⟩ (.map (some b))).setCell ⟨w.heap.size + 1, 1, none⟩ (.slice vo out.length vc)).cell? ⟨w.heap.size + 1, 0, none⟩ = some (.map (some b)) := by go_simp
      have p1 : ((wr.setCell ⟨w.heap.size + 1, 0, none⟩ (.map (some b))).setCell ⟨w.heap.size + 1, 1, none⟩ (.slice vo out.length vc)).cell? ⟨w.heap.size + 1, 1, none⟩ = some (.slice vo out.length vc) := by go_simp
      refine bodyPost_ret (v := .agg #[.map (some b), .slice vo out.length vc]) (by simp [results, Try.f48, go_sem, p0, p1]) rfl ?_
      rw [← HF.out]
      exact ⟨b, vo, vc, rfl, HV3.out, Lst.of_owns enD_len (by decide) HO3.out, (HB3.out.setCell (p := ⟨w.heap.size + 1, 0, none⟩) (by simp) _).setCell (p := ⟨w.heap.size + 1, 1, none⟩) (by simp) _⟩
end Go.Proofs.Ytihfcohebgemdaa.Dots
