/- wire.Reader.Text (layer 3). PRINTED by wip/genrdtext.py. -/
import Derived.Test.YtemckpmedjennaaGreatDoorRdMore
import Derived.Test.YtemckpmedjennaaGreatDoorRegApp
import Derived.Laws.BytesString
import Derived.Laws.Cells
set_option linter.unusedSimpArgs false
set_option linter.unusedVariables false
namespace Go.Proofs.YtemckpmedjennaaGreatDoor.Rd
open Go.RowKit Go.Proofs.YtemckpmedjennaaGreatDoor.Mrk Go.Proofs.YtemckpmedjennaaGreatDoor.RegInv

/-- The text of these bytes. -/
def strOf (l : List Nat) : ByteArray := (l.map fun c : Nat => (c : Int)).foldl (fun r n => r.push (UInt8.ofNat n.toNat)) ByteArray.empty
theorem conv_bytes (W : World) (ad : Addr) (L : List Nat) (n cc : Nat) (hn : n = L.length) (h : ∀ j c, L[j]? = some c → W.cell? (ad.add j) = some (.int .u8 (c : Nat))) :
    (convert 74 9 (.slice (some ad) n cc)).run Tryz.prog W = .ok (.string (strOf L)) W := by
  rw [run_convert_bytes_string W _ _ 5 (some ad) n cc Tryz.underlying74 Tryz.underlying5 Tryz.underlying9]
  refine run_bytesToString W ad n cc (L.map fun c : Nat => (c : Int)) ?_
  have h1 := run_loadCells_list (P := Tryz.prog) (w := W) ad (L.map fun c : Nat => Value.int .u8 (c : Int)) (fun j v hv => by
    rw [List.getElem?_map] at hv
    obtain ⟨c, hc, rfl⟩ := Option.map_eq_some_iff.1 hv
    exact h j c hc)
  rw [List.length_map, ← hn] at h1
  rw [h1, List.map_map]
  rfl
/-- Text: what is told, the reader behind it. -/
def textS (B : List Nat) (most : Int) (s : S) : ByteArray × S :=
  if (numS B s).2.2 = 0 then
    if most < (numS B s).1 then (ByteArray.empty, (s.1, 31))
    else if B.length - (numS B s).2.1 < (numS B s).1 then (ByteArray.empty, (s.1, 30))
    else (strOf ((B.drop (numS B s).2.1).take (numS B s).1), ((numS B s).2.1 + (numS B s).1, 0))
  else (ByteArray.empty, (s.1, (numS B s).2.2))

set_option maxHeartbeats 8000000 in
set_option maxRecDepth 100000 in
theorem text_any (r : Nat) (v : Value) (B : List Nat) (most : Int) (s : S) (w : World) (h : Rdr w r v B s) (hB : ∀ c ∈ B, c < 256) :
    Calls Tryz.prog 139 #[pR r, .int .i64 most] w (RdP r v B (textS B most s).2 (.string (textS B most s).1) w) := by
  have HNU := Lib.hid (num_any r v B s w h hB)
  have HF := Lib.hid (fun (s : S) (y : Int) (w1 : World) (h : Rdr w1 r v B s) => fail_any r v B s y w1 h)
  have HL := Lib.hid (fun (s : S) (w1 : World) (h : Rdr w1 r v B s) => left_any r v B s w1 h)
  have hok := numS_ok B s h.at_
  have hpos := numS_pos B s h.at_
  have HAT := Lib.hid (show ∀ (W : World) (q : S), Rdr W r v B q → Rdr (W.setCell ⟨r, 1, none⟩ (.int .i64 (s.1 : Nat))) r v B (s.1, q.2) from fun W q hq => hq.setAt s.1 h.at_)
  obtain ⟨x, hx⟩ : ∃ x, x = numS B s := ⟨_, rfl⟩
  obtain ⟨a, y⟩ := s
  obtain ⟨Q, hQe⟩ : ∃ Q, Q = textS B most (a, y) := ⟨_, rfl⟩
  have HQ := Lib.hid (show Q = if x.2.2 = 0 then if most < x.1 then (ByteArray.empty, (a, (31 : Int))) else if B.length - x.2.1 < x.1 then (ByteArray.empty, (a, (30 : Int))) else (strOf ((B.drop x.2.1).take x.1), (x.2.1 + x.1, (0 : Int))) else (ByteArray.empty, (a, x.2.2)) from by rw [hQe, hx]; rfl)
  rw [← hQe]
  rw [← hx] at HNU hok hpos
  obtain ⟨n, a1, y1⟩ := x
  have hq := HQ.out
  have HQ0 := Lib.hid (show ¬ y1 = 0 → Q = (ByteArray.empty, (a, y1)) from fun h1 => by rw [hq]; show (if y1 = 0 then (if most < ((n : Nat) : Int) then (ByteArray.empty, ((a, (31 : Int)) : S)) else if B.length - a1 < n then (ByteArray.empty, (a, (30 : Int))) else (strOf ((B.drop a1).take n), (a1 + n, (0 : Int)))) else (ByteArray.empty, (a, y1))) = _; rw [if_neg h1])
  have HQ1 := Lib.hid (show y1 = 0 → most < (n : Int) → Q = (ByteArray.empty, (a, (31 : Int))) from fun h1 h2 => by rw [hq]; show (if y1 = 0 then (if most < ((n : Nat) : Int) then (ByteArray.empty, ((a, (31 : Int)) : S)) else if B.length - a1 < n then (ByteArray.empty, (a, (30 : Int))) else (strOf ((B.drop a1).take n), (a1 + n, (0 : Int)))) else (ByteArray.empty, (a, y1))) = _; rw [if_pos h1, if_pos h2])
  have HQ2 := Lib.hid (show y1 = 0 → ¬ most < (n : Int) → B.length - a1 < n → Q = (ByteArray.empty, (a, (30 : Int))) from fun h1 h2 h3 => by rw [hq]; show (if y1 = 0 then (if most < ((n : Nat) : Int) then (ByteArray.empty, ((a, (31 : Int)) : S)) else if B.length - a1 < n then (ByteArray.empty, (a, (30 : Int))) else (strOf ((B.drop a1).take n), (a1 + n, (0 : Int)))) else (ByteArray.empty, (a, y1))) = _; rw [if_pos h1, if_neg h2, if_pos h3])
  have HQ3 := Lib.hid (show y1 = 0 → ¬ most < (n : Int) → ¬ B.length - a1 < n → Q = (strOf ((B.drop a1).take n), (a1 + n, (0 : Int))) from fun h1 h2 h3 => by rw [hq]; show (if y1 = 0 then (if most < ((n : Nat) : Int) then (ByteArray.empty, ((a, (31 : Int)) : S)) else if B.length - a1 < n then (ByteArray.empty, (a, (30 : Int))) else (strOf ((B.drop a1).take n), (a1 + n, (0 : Int)))) else (ByteArray.empty, (a, y1))) = _; rw [if_pos h1, if_neg h2, if_neg h3])
  clear hq HQ
  have c1 := h.c1
  have hsm := h.small
  simp only [] at c1 hok hpos
  obtain ⟨ha1, hn62, haa⟩ := hok
  have HPS := Lib.hid hpos
  clear h hx hQe hpos
  go_enter Tryz.func139, Tryz.ntmps139
  go_wp2_with fail
  refine HNU.out.mono ?_
  rintro e w1 ⟨rfl, hr1, hg1⟩
  have HR1 := Lib.hid hr1
  have HG1 := Lib.hid hg1
  have d1 := hr1.c1
  have d2 := hr1.c2
  have g1 := hr1.f1
  simp only [] at d1 d2
  clear hr1 hg1 c1
  cases hy : ((y1 : Int) == 0)
  · have hy' : ¬ y1 = 0 := by simpa using hy
    have HFA := Lib.hid (HAT.out w1 (a1, y1) HR1.out)
    have HE := Lib.hid (HQ0.out hy')
    clear hy'
    go_wp2_with fail
    go_ret
    exact ⟨by first | (rw [HE.out]; rfl) | rw [HE.out], by rw [HE.out]; exact HFA.out, HG1.out.andThen (grown_cell' _ _ _ _) (fun j hj => Or.inr hj)⟩
  · have hy' : y1 = 0 := by simpa using hy
    subst hy'
    cases hm : decide ((n : Int) > most)
    · have hm' : ¬ most < (n : Int) := by simpa using hm
      go_wp2_with fail
      refine (HL.out (a1, 0) w1 HR1.out).mono ?_
      rintro e w2 ⟨rfl, hb2⟩
      have HR2 := Lib.hid (HR1.out.below hb2)
      have HG2 := Lib.hid (show w.grownBy w2 (some r) from HG1.out.andThen (row' := none) ⟨hb2.os, hb2.tape, hb2.output, hb2.size, fun k hk _ => hb2.block k hk⟩ (fun j hj => by cases hj))
      obtain ⟨lf, hlf⟩ : ∃ l, l = B.length - a1 := ⟨_, rfl⟩
      have e0 := HR2.out.c0
      have e1 := HR2.out.c1
      have e2 := HR2.out.c2
      have k1 := HR2.out.f1
      simp only [] at e1 e2
      have hlf2 : ((B.length - (a1, (0 : Int)).1 : Nat) : Int) = (lf : Int) := by rw [hlf]
      rw [hlf2]
      clear hb2 d1 d2 g1 hlf2
      cases hgt : decide ((n : Int) > (lf : Int))
      · have hgt' : ¬ lf < n := by simp at hgt; omega
        have HE := Lib.hid (HQ3.out (by first | rfl | trivial) hm' (by rw [hlf] at hgt'; exact hgt'))
        have hpos := HPS.out (by first | rfl | trivial)
        obtain ⟨ao, cap, rfl, hcb, -⟩ := Lst.form HR2.out.row
        obtain ⟨g, off, rfl, hgw, hgc⟩ : ∃ g off, ao = some ⟨g, off, none⟩ ∧ g < w2.heap.size ∧ ∀ j c, B[j]? = some c → w2.cell? ⟨g, off + j, none⟩ = some (.int .u8 (c : Nat)) := by
          obtain ⟨b, o, e, hb, hc⟩ := Lst.get HR2.out.row (i := 0) (by omega)
          subst e
          refine ⟨b, o, rfl, hb, fun j c hj => ?_⟩
          obtain ⟨b2, o2, e2, -, h2⟩ := byte_at HR2.out.row hj
          cases e2
          exact h2
        obtain ⟨nb, hnb⟩ : ∃ k, k = B.length := ⟨_, rfl⟩
        have HNB := Lib.hid hnb
        rw [← hnb] at e0 hcb ha1 hlf hsm
        have hle : a1 + n ≤ nb := by omega
        have HS := Lib.hid (show Rdr (w2.setCell ⟨r, 1, none⟩ (.int .i64 ((a1 : Int) + (n : Int)))) r _ B (a1 + n, (0 : Int)) from HR2.out.setAt (a1 + n) (by rw [← hnb]; omega))
        have HGS := Lib.hid (HG2.out.andThen (grown_cell' w2 r 1 (.int .i64 ((a1 : Int) + (n : Int)))) (fun j hj => Or.inr hj))
        obtain ⟨W3, hW3⟩ : ∃ W, W = w2.setCell ⟨r, 1, none⟩ (.int .i64 ((a1 : Int) + (n : Int))) := ⟨_, rfl⟩
        rw [← hW3] at HS HGS
        clear hm' hlf
        have HX := Lib.hid (show ∀ (W : World), Below W3.heap.size W3 W → W.cell? ⟨r, 0, none⟩ = some (.slice (some ⟨g, off, none⟩) nb cap) ∧ W.cell? ⟨r, 1, none⟩ = some (.int .i64 ((a1 : Int) + (n : Int))) from fun W hb => by
          have h := (HS.out.below hb).c0
          rw [← hnb] at h
          exact ⟨h, (HS.out.below hb).c1⟩)
        have hrg : g ≠ r := HR2.out.far (fun e => by rw [e] at hnb; simp at hnb; omega) _ _ _ rfl
        have HL3 := Lib.hid (show ∀ (W : World), Below W3.heap.size W3 W → ∀ j c, ((B.drop a1).take n)[j]? = some c → W.cell? ⟨g, off + a1 + j, none⟩ = some (.int .u8 (c : Nat)) from fun W hb j c hj => by
          have hj2 : B[a1 + j]? = some c := by
            rw [List.getElem?_take] at hj
            split at hj
            · rw [List.getElem?_drop] at hj; exact hj
            · cases hj
          have h1 := hgc (a1 + j) c hj2
          have h3 : W3.cell? ⟨g, off + (a1 + j), none⟩ = some (.int .u8 (c : Nat)) := by rw [hW3, World.cell?_setCell_far w2 ⟨r, 1, none⟩ ⟨g, off + (a1 + j), none⟩ _ (fun e => hrg e.symm)]; exact h1
          have hg3 : g < W3.heap.size := by rw [hW3]; simpa using hgw
          rw [Nat.add_assoc, World.cell?_of_block (a := ⟨g, off + (a1 + j), none⟩) (hb.block g hg3)]
          exact h3)
        have HLN := Lib.hid (show n = ((B.drop a1).take n).length from by rw [List.length_take, List.length_drop]; omega)
        obtain ⟨L, hLL⟩ : ∃ L, L = (B.drop a1).take n := ⟨_, rfl⟩
        rw [← hLL] at HE HL3 HLN
        clear hnb hLL hgc
        go_upto_region 4 with fail
        rw [← hW3]
        clear hW3
        refine wp_region_told [] 16 [false, false, false, false, false, false, false, false, false, false, false, false, false, false, false, false, false, false, false, false, false, true, true, true, true, true, true, true, true, true, true, true, true, true, true, true, true, false, false, false, false, false, false, false, false, false, false, false, false, false, false, false, false, false, false, false, false, false, false, false]
          [sLit (.pointer (some ⟨r, 0, none⟩)),
    sLit (.pointer (some ⟨r, 0, none⟩)),
    sLit (.pointer (some ⟨r, 0, none⟩)),
    sLit (.slice (some ⟨g, off, none⟩) nb cap),
    sLit (.pointer (some ⟨r, 0, none⟩)),
    sLit (.pointer (some ⟨r, 0, none⟩)),
    sLit (.pointer (some ⟨r, 1, none⟩)),
    sLit (.int .i64 ((a1 : Int) + (n : Int))),
    sLit (.int .i64 (n : Nat)),
    sLit (.int .i64 (a1 : Nat)),
    sLit (.pointer (some ⟨r, 0, none⟩)),
    sLit (.pointer (some ⟨r, 0, none⟩)),
    sLit (.pointer (some ⟨r, 1, none⟩)),
    sLit (.int .i64 ((a1 : Int) + (n : Int))),
    sOne (fun v _ => ∃ ad cc, v = .slice (some ad) n cc ∧ (n = 0 ∨ ad = ⟨g, off + a1, none⟩)) (fun _ _ _ h _ => h),
    sLit (.string (strOf L))] (by kernel_rfl) (by kernel_rfl) (by kernel_rfl) (fun F hF => ?_)
        simp only [over, overL, Nat.reduceAdd] at hF
        obtain rfl := funext hF
        clear hF
        refine ⟨⟨?_, ?_, ?_, ?_, ?_, ?_, ?_, ?_, ?_, ?_, ?_, ?_, ?_, ?_, ?_, ?_, trivial⟩, ?_⟩
        · intro V W hb hd K hK _
          clear hd
          go_wp2_with fail
          refine hK _ _ ?_ ?_ ?_ ?_
          · rfl
          · exact Below.refl _ _
          · exact rfl
          · trivial
        · intro V W hb hd K hK _
          have h0 : (V 21) = .pointer (some ⟨r, 0, none⟩) := hd 0 (by kernel_rfl)
          clear hd
          go_wp2_with fail
          refine hK _ _ ?_ ?_ ?_ ?_
          · rfl
          · exact Below.refl _ _
          · exact rfl
          · trivial
        · intro V W hb hd K hK _
          have h1 : (V 22) = .pointer (some ⟨r, 0, none⟩) := hd 1 (by kernel_rfl)
          clear hd
          go_wp2_with fail
          refine hK _ _ ?_ ?_ ?_ ?_
          · rfl
          · exact Below.refl _ _
          · exact rfl
          · trivial
        · intro V W hb hd K hK _
          have h2 : (V 23) = .pointer (some ⟨r, 0, none⟩) := hd 2 (by kernel_rfl)
          clear hd
          obtain ⟨s0, s1⟩ := HX.out W hb
          go_wp2_with fail
          refine hK _ _ ?_ ?_ ?_ ?_
          · rfl
          · exact Below.refl _ _
          · exact rfl
          · trivial
        · intro V W hb hd K hK _
          clear hd
          go_wp2_with fail
          refine hK _ _ ?_ ?_ ?_ ?_
          · rfl
          · exact Below.refl _ _
          · exact rfl
          · trivial
        · intro V W hb hd K hK _
          have h4 : (V 25) = .pointer (some ⟨r, 0, none⟩) := hd 4 (by kernel_rfl)
          clear hd
          go_wp2_with fail
          refine hK _ _ ?_ ?_ ?_ ?_
          · rfl
          · exact Below.refl _ _
          · exact rfl
          · trivial
        · intro V W hb hd K hK _
          have h5 : (V 26) = .pointer (some ⟨r, 0, none⟩) := hd 5 (by kernel_rfl)
          clear hd
          go_wp2_with fail
          refine hK _ _ ?_ ?_ ?_ ?_
          · rfl
          · exact Below.refl _ _
          · exact rfl
          · trivial
        · intro V W hb hd K hK _
          have h6 : (V 27) = .pointer (some ⟨r, 1, none⟩) := hd 6 (by kernel_rfl)
          clear hd
          obtain ⟨s0, s1⟩ := HX.out W hb
          go_wp2_with fail
          refine hK _ _ ?_ ?_ ?_ ?_
          · rfl
          · exact Below.refl _ _
          · exact rfl
          · trivial
        · intro V W hb hd K hK _
          clear hd
          go_wp2_with fail
          refine hK _ _ ?_ ?_ ?_ ?_
          · rfl
          · exact Below.refl _ _
          · exact rfl
          · trivial
        · intro V W hb hd K hK _
          have h7 : (V 28) = .int .i64 ((a1 : Int) + (n : Int)) := hd 7 (by kernel_rfl)
          have h8 : (V 29) = .int .i64 (n : Nat) := hd 8 (by kernel_rfl)
          clear hd
          go_wp2_with fail
          refine hK _ _ ?_ ?_ ?_ ?_
          · rfl
          · exact Below.refl _ _
          · first | rfl | simp
          · trivial
        · intro V W hb hd K hK _
          clear hd
          go_wp2_with fail
          refine hK _ _ ?_ ?_ ?_ ?_
          · rfl
          · exact Below.refl _ _
          · exact rfl
          · trivial
        · intro V W hb hd K hK _
          have h10 : (V 31) = .pointer (some ⟨r, 0, none⟩) := hd 10 (by kernel_rfl)
          clear hd
          go_wp2_with fail
          refine hK _ _ ?_ ?_ ?_ ?_
          · rfl
          · exact Below.refl _ _
          · exact rfl
          · trivial
        · intro V W hb hd K hK _
          have h11 : (V 32) = .pointer (some ⟨r, 0, none⟩) := hd 11 (by kernel_rfl)
          clear hd
          go_wp2_with fail
          refine hK _ _ ?_ ?_ ?_ ?_
          · rfl
          · exact Below.refl _ _
          · exact rfl
          · trivial
        · intro V W hb hd K hK _
          have h12 : (V 33) = .pointer (some ⟨r, 1, none⟩) := hd 12 (by kernel_rfl)
          clear hd
          obtain ⟨s0, s1⟩ := HX.out W hb
          go_wp2_with fail
          refine hK _ _ ?_ ?_ ?_ ?_
          · rfl
          · exact Below.refl _ _
          · exact rfl
          · trivial
        · intro V W hb hd K hK _
          have h3 : (V 24) = .slice (some ⟨g, off, none⟩) nb cap := hd 3 (by kernel_rfl)
          have h9 : (V 30) = .int .i64 (a1 : Nat) := hd 9 (by kernel_rfl)
          have h13 : (V 34) = .int .i64 ((a1 : Int) + (n : Int)) := hd 13 (by kernel_rfl)
          clear hd
          go_wp2_with fail
          all_goals
            refine hK _ _ ?_ ?_ ?_ ?_
            · rfl
            · exact Below.refl _ _
            · exact ⟨_, _, rfl, by first | exact Or.inr rfl | (left; omega)⟩
            · trivial
        · intro V W hb hd K hK _
          have h14 : ∃ ad cc, (V 35) = .slice (some ad) n cc ∧ (n = 0 ∨ ad = ⟨g, off + a1, none⟩) := hd 14 (by kernel_rfl)
          clear hd
          obtain ⟨ad, cc, e14, had⟩ := h14
          have hcv := conv_bytes W ad L n cc HLN.out (fun j c hj => by
            rcases had with h0 | h0
            · have h1 := HLN.out; rw [h0] at h1; rw [List.eq_nil_of_length_eq_zero h1.symm] at hj; simp at hj
            · rw [h0, addr_add]; exact HL3.out W hb j c hj)
          clear had
          go_wp2_with fail
          refine hK _ _ ?_ ?_ ?_ ?_
          · rfl
          · exact Below.refl _ _
          · exact rfl
          · trivial
        · intro V W hb hd hap
          have h15 : (V 36) = .string (strOf L) := hd 15 (by decide)
          clear hd hap
          simp only [List.drop_succ_cons, List.drop_zero]
          have HB4 := Lib.hid hb
          have HRZ := Lib.hid (HS.out.below hb)
          have HGZ := Lib.hid (show w.grownBy W (some r) from HGS.out.andThen (row' := none) ⟨hb.os, hb.tape, hb.output, hb.size, fun k hk _ => hb.block k hk⟩ (fun j hj => by cases hj))
          clear hb
          go_wp2_with fail
          go_ret
          exact ⟨by first | (rw [HE.out]; rfl) | rw [HE.out], by rw [HE.out]; exact HRZ.out, HGZ.out⟩
      · have hgt' : lf < n := by simp at hgt; omega
        have HE := Lib.hid (HQ2.out (by first | rfl | trivial) hm' (by rw [hlf] at hgt'; exact hgt'))
        have HFA := Lib.hid (HF.out (a1, 0) 30 w2 HR2.out)
        clear hm' e0 e1 e2 k1 hlf
        go_wp2_with fail
        refine HFA.out.mono ?_
        rintro e w3 ⟨rfl, hr3, hg3⟩
        have HR3 := Lib.hid (show Rdr w3 r v B (a1, (30 : Int)) from hr3)
        have HG3 := Lib.hid (HG2.out.andThen hg3 (fun j hj => Or.inr hj))
        have e2 := HR3.out.c2
        have e1 := HR3.out.c1
        have k1 := HR3.out.f1
        simp only [] at e1 e2
        have HFB := Lib.hid (HAT.out w3 (a1, 30) HR3.out)
        clear hr3 hg3
        go_wp2_with fail
        go_ret
        exact ⟨by first | (rw [HE.out]; rfl) | rw [HE.out], by rw [HE.out]; exact HFB.out, HG3.out.andThen (grown_cell' _ _ _ _) (fun j hj => Or.inr hj)⟩
    · have hm' : most < (n : Int) := by simpa using hm
      have HE := Lib.hid (HQ1.out (by first | rfl | trivial) hm')
      have HFA := Lib.hid (HF.out (a1, 0) 31 w1 HR1.out)
      clear hm'
      go_wp2_with fail
      refine HFA.out.mono ?_
      rintro e w2 ⟨rfl, hr2, hg2⟩
      have HR2 := Lib.hid (show Rdr w2 r v B (a1, (31 : Int)) from hr2)
      have HG2 := Lib.hid (HG1.out.andThen hg2 (fun j hj => Or.inr hj))
      have e2 := HR2.out.c2
      have e1 := HR2.out.c1
      have k1 := HR2.out.f1
      simp only [] at e1 e2
      have HFB := Lib.hid (HAT.out w2 (a1, 31) HR2.out)
      clear hr2 hg2 d1 d2 g1
      go_wp2_with fail
      go_ret
      exact ⟨by first | (rw [HE.out]; rfl) | rw [HE.out], by rw [HE.out]; exact HFB.out, HG2.out.andThen (grown_cell' _ _ _ _) (fun j hj => Or.inr hj)⟩
end Go.Proofs.YtemckpmedjennaaGreatDoor.Rd
