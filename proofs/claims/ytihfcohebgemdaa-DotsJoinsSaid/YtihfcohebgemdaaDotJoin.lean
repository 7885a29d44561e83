/- Layer 6 (dots): With, Of, Join. PRINTED by wip/gendotjoin.py. -/
import Derived.Test.YtihfcohebgemdaaDotWith
set_option linter.unusedSimpArgs false
set_option linter.unusedVariables false
namespace Go.Proofs.Ytihfcohebgemdaa.Dots
open Go.RowKit Go.Maps Go.Sort Go.Proofs.Ytihfcohebgemdaa.Vec Go.Proofs.Ytihfcohebgemdaa.Spare Go.Proofs.Ytihfcohebgemdaa.RegInv

set_option maxRecDepth 100000 in
set_option maxHeartbeats 2000000 in
theorem with_same (q : Bool) (o : Option Nat) (ao : Option Addr) (ac : Nat) (L : List P) (d : P) (w : World) (h1 : OMap w o (kn L)) (h2 : DRow w (.slice ao (rs L).length ac) (rs L)) (hL : Nice L) (hq : right d = q) (d2 : d.who ≤ 9223372036854775807) (hh : q = true → hasD L d = true) :
    Calls Try.prog 18 #[.agg #[.map o, .slice ao (rs L).length ac], vD d] w (SetP w L) := by
  have hs0 : SAt w (.agg #[.map o, .slice ao (rs L).length ac]) L := ⟨o, ao, ac, rfl, h1, h2⟩
  have HHAS := Lib.hid (fun (e : q = true) w' (hb : Below w.heap.size w w') => has_lit true _ L d w' (hh e) (hs0.below hb) hL (by have := (right_iff d).1 (hq.trans e); omega) d2)
  have HS0 := Lib.hid hs0
  have HR := Lib.hid (fun w' => right_lit q d w' hq)
  have hrl := hL.rs.2.2
  clear hs0 h1 h2 hL hh hq
  obtain ⟨n, hn⟩ : ∃ n, n = (rs L).length := ⟨_, rfl⟩
  rw [← hn] at hrl HHAS HS0 ⊢
  clear hn
  go_enter Try.func18, Try.ntmps18
  go_wp2_with fail
  obtain ⟨W1, hW1⟩ : ∃ W, W = (((w.alloc (.cells #[.map o, .slice ao n ac] 40)).alloc (.cells #[.int .i64 d.who, .int .i64 d.n] 33)).alloc (.cells #[.map none, .slice none 0 0] 40)) := ⟨_, rfl⟩
  have c0 : W1.cell? ⟨w.heap.size, 0, none⟩ = some (.map o) := by rw [hW1]; go_simp
  have c1 : W1.cell? ⟨w.heap.size, 1, none⟩ = some (.slice ao n ac) := by rw [hW1]; go_simp
  have c2 : W1.cell? ⟨w.heap.size + 1, 0, none⟩ = some (.int .i64 d.who) := by rw [hW1]; go_simp
  have c3 : W1.cell? ⟨w.heap.size + 1, 1, none⟩ = some (.int .i64 d.n) := by rw [hW1]; go_simp
  have c4 : W1.heap[w.heap.size + 2]? = some (.cells #[.map none, .slice none 0 0] 40 (0, 0)) := by
    rw [hW1]
    have := heap_alloc_new ((w.alloc (.cells #[.map o, .slice ao n ac] 40)).alloc (.cells #[.int .i64 d.who, .int .i64 d.n] 33)) (.cells #[.map none, .slice none 0 0] 40)
    simpa using this
  have hs1 : W1.heap.size = w.heap.size + 3 := by rw [hW1]; simp
  have hb1 : Below w.heap.size w W1 := by rw [hW1]; exact (((Below.refl _ _).alloc (Nat.le_refl _) _).alloc (by simp) _).alloc (by simp; omega) _
  rw [← hW1]
  have HM := Lib.hid (fun W' (h : Below W1.heap.size W1 W') => show (W'.cell? ⟨w.heap.size, 0, none⟩ = some (.map o) ∧ W'.cell? ⟨w.heap.size, 1, none⟩ = some (.slice ao n ac)) ∧ (W'.cell? ⟨w.heap.size + 1, 0, none⟩ = some (.int .i64 d.who) ∧ W'.cell? ⟨w.heap.size + 1, 1, none⟩ = some (.int .i64 d.n)) ∧ W'.heap[w.heap.size + 2]? = some (.cells #[.map none, .slice none 0 0] 40 (0, 0)) from
    ⟨⟨(h.cell (p := ⟨w.heap.size, 0, none⟩) (by simp; omega)).trans c0, (h.cell (p := ⟨w.heap.size, 1, none⟩) (by simp; omega)).trans c1⟩, ⟨(h.cell (p := ⟨w.heap.size + 1, 0, none⟩) (by simp; omega)).trans c2, (h.cell (p := ⟨w.heap.size + 1, 1, none⟩) (by simp; omega)).trans c3⟩, (h.block _ (by omega)).trans c4⟩)
  have HB1 := Lib.hid hb1
  clear hW1 c0 c1 c4 hb1
  refine (HR.out _).mono ?_
  rintro e w2 ⟨rfl, hb2⟩
  have HB2 := Lib.hid hb2
  have hz2 := hb2.size
  obtain ⟨⟨c0, c1⟩, ⟨c2', c3'⟩, c4⟩ := HM.out w2 hb2
  clear hb2 c2 c3
  cases q
  · have f0 := frozen_of_row w2 (w.heap.size + 2) 0 _ _ c4
    have f1 := frozen_of_row w2 (w.heap.size + 2) 1 _ _ c4
    have q0 : w2.cell? ⟨w.heap.size + 2, 0, none⟩ = some (.map none) := by rw [cell_of_row w2 _ 0 _ _ (0, 0) c4]; rfl
    have q1 : w2.cell? ⟨w.heap.size + 2, 1, none⟩ = some (.slice none 0 0) := by rw [cell_of_row w2 _ 1 _ _ (0, 0) c4]; rfl
    have C4 := Lib.hid c4
    clear c4
    go_wp2_with fail
    have p0 : ((w2.setCell ⟨w.heap.size + 2, 0, none⟩ (.map o)).setCell ⟨w.heap.size + 2, 1, none⟩ (.slice ao n ac)).cell? ⟨w.heap.size + 2, 0, none⟩ = some (.map o) := by go_simp
    have p1 : ((w2.setCell ⟨w.heap.size + 2, 0, none⟩ (.map o)).setCell ⟨w.heap.size + 2, 1, none⟩ (.slice ao n ac)).cell? ⟨w.heap.size + 2, 1, none⟩ = some (.slice ao n ac) := by go_simp
    refine bodyPost_ret (v := .agg #[.map o, .slice ao n ac]) (by simp [results, Try.f18, go_sem, p0, p1]) rfl ?_
    have hb := below_then HB1.out (by omega) HB2.out
    exact ⟨_, rfl, set_stored C4.out _ _ (HS0.out.below hb), (hb.setCell (p := ⟨w.heap.size + 2, 0, none⟩) (by simp) _).setCell (p := ⟨w.heap.size + 2, 1, none⟩) (by simp) _⟩
  · clear c4
    go_wp2_with fail
    refine (HHAS.out (by first | rfl | trivial) _ (below_then HB1.out (by omega) HB2.out)).mono ?_
    rintro e w3 ⟨rfl, hb3⟩
    have HB3 := Lib.hid (below_then HB2.out (Nat.le_refl _) hb3)
    have hz3 := hb3.size
    clear hb3 c0 c1 c2' c3'
    obtain ⟨⟨c0, c1⟩, -, c4⟩ := HM.out w3 HB3.out
    have f0 := frozen_of_row w3 (w.heap.size + 2) 0 _ _ c4
    have f1 := frozen_of_row w3 (w.heap.size + 2) 1 _ _ c4
    have q0 : w3.cell? ⟨w.heap.size + 2, 0, none⟩ = some (.map none) := by rw [cell_of_row w3 _ 0 _ _ (0, 0) c4]; rfl
    have q1 : w3.cell? ⟨w.heap.size + 2, 1, none⟩ = some (.slice none 0 0) := by rw [cell_of_row w3 _ 1 _ _ (0, 0) c4]; rfl
    have C4 := Lib.hid c4
    clear c4
    go_wp2_with fail
    have p0 : ((w3.setCell ⟨w.heap.size + 2, 0, none⟩ (.map o)).setCell ⟨w.heap.size + 2, 1, none⟩ (.slice ao n ac)).cell? ⟨w.heap.size + 2, 0, none⟩ = some (.map o) := by go_simp
    have p1 : ((w3.setCell ⟨w.heap.size + 2, 0, none⟩ (.map o)).setCell ⟨w.heap.size + 2, 1, none⟩ (.slice ao n ac)).cell? ⟨w.heap.size + 2, 1, none⟩ = some (.slice ao n ac) := by go_simp
    refine bodyPost_ret (v := .agg #[.map o, .slice ao n ac]) (by simp [results, Try.f18, go_sem, p0, p1]) rfl ?_
    have hb := below_then HB1.out (by omega) HB3.out
    exact ⟨_, rfl, set_stored C4.out _ _ (HS0.out.below hb), (hb.setCell (p := ⟨w.heap.size + 2, 0, none⟩) (by simp) _).setCell (p := ⟨w.heap.size + 2, 1, none⟩) (by simp) _⟩

theorem with_any (v : Value) (L : List P) (d : P) (w : World) (hv : SAt w v L) (hL : Nice L) (hl : L.length ≤ 249) (d2 : d.who ≤ 9223372036854775807) :
    Calls Try.prog 18 #[v, vD d] w (SetP w (addF L d)) := by
  obtain ⟨o, ao, ac, rfl, h1, h2⟩ := hv
  cases hr : right d with
  | false =>
    rw [show addF L d = L from by unfold addF; rw [hr]; rfl]
    exact with_same false o ao ac L d w h1 h2 hL hr d2 (fun e => by cases e)
  | true =>
    cases hh : hasD L d with
    | true =>
      rw [add_in hL.fine ((hasD_iff L d).1 hh)]
      exact with_same true o ao ac L d w h1 h2 hL hr d2 (fun _ => hh)
    | false => exact with_in o ao ac L d w h1 h2 hL hl hr d2 hh

theorem nice_setOf {l : List P} (hs : Sm l) (hl : l.length ≤ 250) : Nice (setOf l) :=
  ⟨setOf_fine l, fun x hx => hs x ((mem_setOf l x).1 hx).1, Nat.le_trans (setOf_len l) hl⟩
theorem s_empty (w : World) : SAt w (.agg #[.map none, .slice none 0 0]) [] := ⟨none, none, 0, rfl, rfl, Lst.nil _⟩
theorem SAt.form {w : World} {v : Value} {L : List P} (h : SAt w v L) : ∃ o ao n ac, v = .agg #[.map o, .slice ao n ac] := by
  obtain ⟨o, ao, ac, e, -, -⟩ := h
  exact ⟨o, ao, _, ac, e⟩

set_option maxRecDepth 100000 in
set_option maxHeartbeats 4000000 in
theorem of_any (ao : Option Addr) (ac : Nat) (l : List P) (w : World) (ha : DRow w (.slice ao l.length ac) l) (hs : Sm l) (h1 : l.length ≤ 200) :
    Calls Try.prog 14 #[.slice ao l.length ac] w (SetP w (setOf l)) := by
  have HA := Lib.hid ha
  have HS := Lib.hid hs
  clear ha hs
  go_enter Try.func14, Try.ntmps14
  go_wp2_with fail
  go_loopw [9] (fun iv wr => ∃ (k : Nat) (m0 : Option Nat) (a0 : Option Addr) (n0 c0 : Nat), k ≤ l.length ∧ iv = .int .i64 k ∧ Hid (SAt wr (.agg #[.map m0, .slice a0 n0 c0]) (setOf (l.take k))) ∧ Hid (wr.heap[w.heap.size]? = some (.cells #[.map none, .slice none 0 0] 40 (0, 0)) ∧ wr.heap[w.heap.size + 1]? = some (.cells #[.map m0, .slice a0 n0 c0] 40 (0, 0))) ∧ Hid (Below w.heap.size w wr)) (fun iv _ => l.length - (vInt iv).toNat)
  case atStart =>
    refine ⟨0, none, none, 0, 0, by omega, rfl, Lib.hid ?_, Lib.hid ⟨?_, ?_⟩, Lib.hid ?_⟩
    · exact s_empty _
    · exact (Below.heap_alloc (w.alloc (.cells #[.map none, .slice none 0 0] 40)) _ w.heap.size (by simp)).trans (heap_alloc_new w _)
    · have := heap_alloc_new (w.alloc (.cells #[.map none, .slice none 0 0] 40)) (.cells #[.map none, .slice none 0 0] 40)
      simpa using this
    · exact ((Below.refl _ _).alloc (Nat.le_refl _) _).alloc (by simp) _
  case round =>
    obtain ⟨k, m0, a0, n0, c0, hk, rfl, hset, hcs, hbl⟩ := hrel
    have hsz : w.heap.size + 1 < wr.heap.size := (Array.getElem?_eq_some_iff.1 hcs.out.2).1
    by_cases hlt : k < l.length
    · have HA' := Lib.hid (Lst.below HA.out hbl.out)
      obtain ⟨ab, aoff, rfl, hab, x0, x1⟩ := dot_at HA'.out (List.getElem?_eq_getElem hlt)
      have htk := List.take_succ_eq_append_getElem hlt
      have hmem : l[k] ∈ l := List.getElem_mem hlt
      obtain ⟨d, hd⟩ : ∃ d, d = l[k] := ⟨_, rfl⟩
      rw [← hd] at x0 x1 htk hmem
      have hsm := HS.out d hmem
      have HNX := Lib.hid (show setOf (l.take (k + 1)) = addF (setOf (l.take k)) d from by rw [htk, setOf_snoc])
      have hnice : Nice (setOf (l.take k)) := nice_setOf (fun x hx => HS.out x (List.mem_of_mem_take hx)) (by rw [List.length_take]; omega)
      have hsl : (setOf (l.take k)).length ≤ 249 := by have := setOf_len (l.take k); rw [List.length_take] at this; omega
      have HW := Lib.hid (fun w' (hb : Below wr.heap.size wr w') => with_any _ (setOf (l.take k)) d w' (hset.out.below hb) hnice hsl hsm)
      have y0 : wr.cell? ⟨w.heap.size + 1, 0, none⟩ = some (.map m0) := by rw [cell_of_row wr _ 0 _ _ (0, 0) hcs.out.2]; rfl
      have y1 : wr.cell? ⟨w.heap.size + 1, 1, none⟩ = some (.slice a0 n0 c0) := by rw [cell_of_row wr _ 1 _ _ (0, 0) hcs.out.2]; rfl
      clear hd htk hmem hnice hsl
      go_wp2_with fail
      refine (HW.out _ ((Below.refl _ _).alloc (Nat.le_refl _) _)).mono ?_
      rintro e w2 ⟨v2, rfl, hv2, hb2⟩
      obtain ⟨m2, a2, n2, cc2, rfl⟩ := hv2.form
      have hb3 : Below wr.heap.size wr w2 := below_then ((Below.refl _ _).alloc (Nat.le_refl _) _) (Nat.le_refl _) hb2
      have hs2 := hb3.size
      have hc1 := (hb3.block _ hsz).trans hcs.out.2
      have hc0 := (hb3.block w.heap.size (by omega)).trans hcs.out.1
      have HB3 := Lib.hid (below_then hbl.out (by omega) hb3)
      have f0 := frozen_of_row w2 (w.heap.size + 1) 0 _ _ hc1
      have f1 := frozen_of_row w2 (w.heap.size + 1) 1 _ _ hc1
      have z0 : w2.cell? ⟨w.heap.size + 1, 0, none⟩ = some (.map m0) := by rw [cell_of_row w2 _ 0 _ _ (0, 0) hc1]; rfl
      have z1 : w2.cell? ⟨w.heap.size + 1, 1, none⟩ = some (.slice a0 n0 c0) := by rw [cell_of_row w2 _ 1 _ _ (0, 0) hc1]; rfl
      have HV2 := Lib.hid (set_stored hc1 (.map m2) (.slice a2 n2 cc2) hv2)
      have hgw : w2.grownBy ((w2.setCell ⟨w.heap.size + 1, 0, none⟩ (.map m2)).setCell ⟨w.heap.size + 1, 1, none⟩ (.slice a2 n2 cc2)) (some (w.heap.size + 1)) := by
        iterate 2 refine grown_setCell ?_ (Or.inl rfl) _
        exact World.grownBy.refl _ _
      have HC := Lib.hid (And.intro ((hgw.block w.heap.size (by omega) (fun e => by injection e with e; omega)).trans hc0) (heap_setCell_same _ (w.heap.size + 1) 1 _ _ (.slice a2 n2 cc2) (heap_setCell_same w2 (w.heap.size + 1) 0 _ _ (.map m2) hc1)))
      clear hv2 hb2 hb3 hc1 hc0 hgw
      go_wp2_with fail
      go_roundw
      case rel =>
        refine ⟨k + 1, m2, a2, n2, cc2, by omega, by go_num, by rw [HNX.out]; exact HV2, Lib.hid ⟨HC.out.1, ?_⟩, Lib.hid ((HB3.out.setCell (p := ⟨w.heap.size + 1, 0, none⟩) (by simp) _).setCell (p := ⟨w.heap.size + 1, 1, none⟩) (by simp) _)⟩
        exact HC.out.2
      case measure => simp [vInt]; omega
    · obtain rfl : k = l.length := by omega
      have hr := hset.out
      rw [List.take_length] at hr
      have HR := Lib.hid (set_stored hcs.out.1 (.map m0) (.slice a0 n0 c0) hr)
      have y0 : wr.cell? ⟨w.heap.size + 1, 0, none⟩ = some (.map m0) := by rw [cell_of_row wr _ 0 _ _ (0, 0) hcs.out.2]; rfl
      have y1 : wr.cell? ⟨w.heap.size + 1, 1, none⟩ = some (.slice a0 n0 c0) := by rw [cell_of_row wr _ 1 _ _ (0, 0) hcs.out.2]; rfl
      have hc0 := hcs.out.1
      have f0 := frozen_of_row wr w.heap.size 0 _ _ hc0
      have f1 := frozen_of_row wr w.heap.size 1 _ _ hc0
      have z0 : wr.cell? ⟨w.heap.size, 0, none⟩ = some (.map none) := by rw [cell_of_row wr _ 0 _ _ (0, 0) hc0]; rfl
      have z1 : wr.cell? ⟨w.heap.size, 1, none⟩ = some (.slice none 0 0) := by rw [cell_of_row wr _ 1 _ _ (0, 0) hc0]; rfl
      clear hr hset hc0
      go_wp2_with fail
      have p0 : ((wr.setCell ⟨w.heap.size, 0, none⟩ (.map m0)).setCell ⟨w.heap.size, 1, none⟩ (.slice a0 n0 c0)).cell? ⟨w.heap.size, 0, none⟩ = some (.map m0) := by go_simp
      have p1 : ((wr.setCell ⟨w.heap.size, 0, none⟩ (.map m0)).setCell ⟨w.heap.size, 1, none⟩ (.slice a0 n0 c0)).cell? ⟨w.heap.size, 1, none⟩ = some (.slice a0 n0 c0) := by go_simp
      refine bodyPost_ret (v := .agg #[.map m0, .slice a0 n0 c0]) (by simp [results, Try.f14, go_sem, p0, p1]) rfl ?_
      exact ⟨_, rfl, HR.out, (hbl.out.setCell (p := ⟨w.heap.size, 0, none⟩) (by simp) _).setCell (p := ⟨w.heap.size, 1, none⟩) (by simp) _⟩
end Go.Proofs.Ytihfcohebgemdaa.Dots
