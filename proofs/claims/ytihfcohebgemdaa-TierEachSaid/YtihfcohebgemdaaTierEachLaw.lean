/- Layer 18 (tier): TierEach's walk. PRINTED by wip/gentierlaw.py. -/
import Derived.Test.YtihfcohebgemdaaTierAlive
set_option linter.unusedSimpArgs false
set_option linter.unusedVariables false
namespace Go.Proofs.Ytihfcohebgemdaa.Tier
open Go.RowKit Go.Proofs.Ytihfcohebgemdaa.Ints Go.Proofs.Ytihfcohebgemdaa.Spare Go.Proofs.Ytihfcohebgemdaa.RegInv

theorem flat_len (l : List Int) : (groups l).flatten.length = l.length := by
  have hi := (groupF_inv l (sortF l)).flat
  unfold groups
  rw [hi]
  have h2 := List.Perm.length_eq ((List.perm_ext_iff_of_nodup ((sortF_sorted l).1.imp fun {a b} h e => by subst e; exact R_asymm h h) (places_nodup _)).2 (sortF_sorted l).2)
  have h3 : (places l.length).length = l.length := by unfold places; simp
  omega
theorem places_get {n k : Nat} (h : k < n) : (places n)[k]? = some (k : Int) := by
  unfold places
  rw [List.getElem?_map, List.getElem?_range h]; rfl
theorem places_len (n : Nat) : (places n).length = n := by unfold places; simp

set_option maxRecDepth 100000 in
set_option maxHeartbeats 8000000 in
theorem tierEach_any (ao : Option Addr) (ac : Nat) (l : List Int) (w : World) (ha : IRow w (.slice ao l.length ac) l) :
    Calls Try.prog 3 #[.slice ao l.length ac] w fun e w' => e = .returned (.bool true) ∧ Below w.heap.size w w' := by
  have HA := Lib.hid ha
  have hmx : l.length ≤ 9223372036854775807 := by
    obtain ⟨o, c, hv, h1, h2, _⟩ := ha
    unfold maxLen at h2; omega
  obtain ⟨n, hn⟩ : ∃ n, n = l.length := ⟨_, rfl⟩
  have HN := Lib.hid hn
  rw [← hn] at hmx HA ⊢
  clear ha hn
  go_enter Try.func3, Try.ntmps3
  by_cases hbig : 60 < n
  · have hbig' : (60 : Int) < n := by omega
    go_wp2_with fail
    go_ret
    exact ⟨rfl, Below.refl _ _⟩
  have hbig' : ¬ (60 : Int) < n := by omega
  have hl : n ≤ 60 := by omega
  clear hbig hmx
  go_wp2_with fail
  clear hbig'
  go_loopw [3] (fun iv wr => ∃ k : Nat, k ≤ n ∧ iv = .int .i64 k ∧ wr = w ∧ Hid (∀ j x, j < k → l[j]? = some x → 1 ≤ x ∧ x ≤ 1099511627776)) (fun iv _ => n - (intOf iv).toNat)
  case atStart => exact ⟨0, by omega, rfl, rfl, Lib.hid (fun j x h _ => by omega)⟩
  case round =>
    obtain ⟨k, hk, rfl, rfl, hok⟩ := hrel
    by_cases hlt : k < n
    · obtain ⟨x, hx⟩ : ∃ x, l[k]? = some x := ⟨_, List.getElem?_eq_getElem (by have := HN.out; omega)⟩
      obtain ⟨ab, aoff, rfl, hab, a0⟩ := int_at HA.out hx
      have HX := Lib.hid hx
      have HOK := Lib.hid hok.out
      clear hx hok
      by_cases h1 : x < 1
      · have h1' : decide (x < 1) = true := decide_eq_true h1
        go_wp2_with fail
        go_ret
        exact ⟨rfl, Below.refl _ _⟩
      · by_cases h2 : 1099511627776 < x
        · go_wp2_with fail
          go_ret
          exact ⟨rfl, Below.refl _ _⟩
        · have HOK2 := Lib.hid (show ∀ j y, j < k + 1 → l[j]? = some y → 1 ≤ y ∧ y ≤ 1099511627776 from fun j y hj hy => by
            by_cases e : j = k
            · subst e
              rw [HX.out] at hy
              cases hy
              omega
            · exact HOK.out j y (by omega) hy)
          go_wp2_with fail
          go_roundw
          case rel => exact ⟨k + 1, by omega, by go_num, trivial, HOK2⟩
          case measure => simp [intOf]; omega
    · have hkn : k = n := by omega
      have HL := Lib.hid (show ∀ x ∈ l, 1 ≤ x ∧ x ≤ 1099511627776 from fun x hx => by
        obtain ⟨j, hj, e⟩ := List.getElem_of_mem hx
        exact hok.out j x (by have := HN.out; omega) (by rw [List.getElem?_eq_getElem hj, e]))
      have hgr := groups_any ao ac l wr (by have h := HA.out; rw [HN.out] at h; exact h) (by have := HN.out; omega) (fun x h => by have := HL.out x h; omega)
      rw [← HN.out] at hgr
      have HGR := Lib.hid hgr
      have hnk : ¬ ((k : Int) < (n : Int)) := by omega
      clear hok hkn hgr
      go_wp2_with fail
      clear hnk
      refine HGR.out.mono ?_
      rintro e W1 ⟨base, ov, V, rfl, hgs, hvm, hbase, hb1⟩
      clear HGR
      have hvl : V.length ≤ n := by
        have := groups_small l
        rw [← hvm, List.length_map, ← HN.out] at this
        exact this
      have HGS := Lib.hid hgs
      have HVM := Lib.hid hvm
      have HB1 := Lib.hid hb1
      have hs1 := hb1.size
      obtain ⟨W0, hW0⟩ : ∃ W, W = wr := ⟨_, rfl⟩
      subst hW0
      obtain ⟨vo, vc, rfl⟩ := row_form hgs.outer
      have hfl : (V.map fun p => p.2).flatten.length = n := by rw [hvm, flat_len, ← HN.out]
      have HFL := Lib.hid hfl
      obtain ⟨i0, hi, hz0, hz1, hz2⟩ := info_parts_I
      have HI := Lib.hid (And.intro hi (And.intro hz0 (And.intro hz1 hz2)))
      clear hgs hvm hb1 hi hz0 hz1 hz2 hfl
      go_wp2_with fail
      go_loopw [4, 6] (fun av iv wz => ∃ k : Nat, k ≤ V.length ∧ iv = .int .i64 k ∧ Hid (wz.ownsRow W1.heap.size 3 1 av (((V.take k).map fun p => p.2).flatten).length ((((V.take k).map fun p => p.2).flatten).flatMap enI)) ∧ Hid (Below W1.heap.size W1 wz)) (fun _ iv _ => V.length - (intOf iv).toNat)
      case atStart => exact ⟨0, by omega, rfl, Lib.hid (World.ownsRow_nil _ _ _ _), Lib.hid (Below.refl _ _)⟩
      case round =>
        obtain ⟨k, hk, rfl, hrow, hbz⟩ := hrel
        have hsz := hbz.out.size
        by_cases hlt : k < V.length
        · obtain ⟨⟨v, g⟩, hvk⟩ : ∃ p, V[k]? = some p := ⟨_, List.getElem?_eq_getElem hlt⟩
          have hmem : (v, g) ∈ V := List.mem_of_getElem? hvk
          obtain ⟨og, e2⟩ : ∃ og, vo = some ⟨og, 0, none⟩ := by
            obtain ⟨g', cap', e, _⟩ := own_some HGS.out.outer (by omega)
            injection e with e
            exact ⟨g', e⟩
          subst e2
          have hg2 := HGS.out.below hbz.out
          have co : wr.cell? ⟨og, k, none⟩ = some v := by
            have h := World.ownsRow.cellAt hg2.outer k (by omega)
            rw [h, List.getElem?_map, hvk]; rfl
          have hin := (hg2.inner (v, g) hmem).1
          have hne : g ≠ [] := (hg2.inner (v, g) hmem).2
          obtain ⟨ig, gc, e1, hig, higl, hgc⟩ := hg2.has hmem
          simp only [] at e1
          subst e1
          have HST := Lib.hid (show ((V.take (k + 1)).map fun p => p.2).flatten = ((V.take k).map fun p => p.2).flatten ++ g from by rw [List.take_add_one, hvk, Option.toList_some, List.map_append, List.flatten_append]; simp)
          obtain ⟨F, hF⟩ : ∃ F, F = ((V.take k).map fun p => p.2).flatten := ⟨_, rfl⟩
          have hfn : F.length + g.length ≤ n := by
            have h := HFL.out
            rw [← List.take_append_drop (k + 1) V, List.map_append, List.flatten_append, HST.out, ← hF, List.length_append, List.length_append] at h
            omega
          rw [← hF] at hrow HST
          have HROW := Lib.hid hrow.out
          have HBZ := Lib.hid hbz.out
          have hgi : ∀ (j : Nat) (u : Value), (g.flatMap enI)[j]? = some u → wr.cell? ((⟨ig, 0, none⟩ : Addr).add j) = some u := fun j u hu => by
            rw [Addr.add_lit]
            obtain ⟨hj, e⟩ := List.getElem?_eq_some_iff.1 hu
            rw [Nat.zero_add, World.ownsRow.cellAt hin j (by rw [flat_enI, List.length_map] at hj; omega)]
            exact hu
          obtain ⟨G, hG⟩ : ∃ G, G = g.flatMap enI := ⟨_, rfl⟩
          have hGl : G.length = g.length := by rw [hG, flat_enI, List.length_map]
          have HG := Lib.hid hG
          have HGI := Lib.hid (show ∀ (j : Nat) (u : Value), G[j]? = some u → wr.cell? ⟨ig, j, none⟩ = some u from fun j u hu => by
            have h := hgi j u (by rw [← hG]; exact hu)
            rw [Addr.add_lit, Nat.zero_add] at h
            exact h)
          have HGO := Lib.hid (show ∀ u ∈ G, u.oneCell' = true from fun u hu => by
            rw [hG, flat_enI] at hu
            obtain ⟨x, _, rfl⟩ := List.mem_map.1 hu
            rfl)
          clear hG hvk hmem hg2 hin hne hrow hbz hgi hF
          go_wp2_with (at_builtin; refine wpList_append_own _ rfl _ _ 22 rfl W1.heap.size 3 i0 (.int .i64 0) 1 8 Try.underlying22 HI.out.1 HI.out.2.1 HI.out.2.2.1 HI.out.2.2.2 rfl (by decide) _ _ _ rfl HROW.out ⟨ig, 0, none⟩ g.length gc G rfl ?p0 ?p1 ?p2 ?p3 ?p4 ?p5 ?_)
          case p1 => exact HGI.out
          case p2 => exact HGO.out
          case p3 => unfold maxLen; omega
          case p4 => omega
          intro v6 w6 hr6 hg6 _
          have HR6 := Lib.hid (show w6.ownsRow W1.heap.size 3 1 v6 (((V.take (k + 1)).map fun p => p.2).flatten).length ((((V.take (k + 1)).map fun p => p.2).flatten).flatMap enI) from by rw [HST.out, List.length_append, List.flatMap_append, ← HG.out]; exact hr6)
          have HB6 := Lib.hid (show Below W1.heap.size W1 w6 from HBZ.out.grown hg6 hsz (fun j hj => (World.ownsRow.lt HROW.out j hj).1))
          clear hr6 hg6
          go_wp2_with fail
          go_roundw
          case rel => exact ⟨k + 1, by omega, by go_num, HR6, HB6⟩
          case measure => simp [intOf]; omega
        · have hkn : k = V.length := by omega
          have hrl := hrow.out
          rw [hkn, List.take_length] at hrl
          have hsrt : (V.map fun p => p.2).flatten.mergeSort leB = places n := by rw [HVM.out, all_sorted, ← HN.out]
          have hso := sort_own hrl (by rw [HFL.out]; omega)
          rw [hsrt, places_len] at hso
          have HSO := Lib.hid hso
          have hnk : ¬ ((k : Int) < (V.length : Int)) := by omega
          have hlt2 := fun j hj => (World.ownsRow.lt hrl j hj).1
          rw [HFL.out] at hrl
          obtain ⟨so, sc, rfl⟩ := row_form hrl
          have HLT := Lib.hid hlt2
          have HBZ := Lib.hid hbz.out
          clear hkn hrow hbz hrl hsrt hso hlt2
          go_wp2_with fail
          clear hnk
          refine HSO.out.mono ?_
          rintro e W3 ⟨rfl, hr3, hg3⟩
          have hi3 : IRow W3 (.slice so n sc) (places n) := Lst.of_owns (fun _ => rfl) (by decide) (by rw [places_len]; exact hr3)
          have HR3 := Lib.hid hi3
          have HB3 := Lib.hid (show Below W1.heap.size W1 W3 from HBZ.out.grown hg3 hsz HLT.out)
          have HBW := Lib.hid (show Below W0.heap.size W0 W3 from below_then HB1.out (Nat.le_refl _) HB3.out)
          have HA3 := Lib.hid (HA.out.below HBW.out)
          clear hr3 hg3 hi3 HSO HLT
          go_wp2_with fail
          go_loopw [7] (fun iv wz => ∃ k : Nat, k ≤ n ∧ iv = .int .i64 k ∧ wz = W3) (fun iv _ => n - (intOf iv).toNat)
          case atStart => exact ⟨0, by omega, rfl, rfl⟩
          case round =>
            obtain ⟨k, hk, rfl, rfl⟩ := hrel
            by_cases hlt : k < n
            · obtain ⟨sb, soff, rfl, hsb, s0⟩ := int_at HR3.out (places_get hlt)
              go_wp2_with fail
              go_roundw
              case rel => exact ⟨k + 1, by omega, by go_num, trivial⟩
              case measure => simp [intOf]; omega
            · have hnk : ¬ ((k : Int) < (n : Int)) := by omega
              have hpk := pick_any ao ac l wr (by have h := HA3.out; rw [HN.out] at h; exact h) (by have := HN.out; omega) (fun x h => by have := HL.out x h; omega)
              rw [← HN.out] at hpk
              have HPK := Lib.hid hpk
              have HPI := Lib.hid (pickF_inv l)
              have hpl := pick_small l
              rw [← HN.out] at hpl
              obtain ⟨p, hp⟩ : ∃ p, p = pickF l := ⟨_, rfl⟩
              rw [← hp] at hpl HPI HPK
              have HPM := Lib.hid (show ∀ y ∈ p, 0 ≤ y ∧ y < n from by rw [HN.out]; exact HPI.out.mem)
              clear hpk hp
              go_wp2_with fail
              clear hnk
              refine HPK.out.mono ?_
              rintro e W4 ⟨po, pc, rfl, hp4, hb4⟩
              have HP4 := Lib.hid hp4
              have HB4 := Lib.hid (show Below W0.heap.size W0 W4 from below_then HBW.out (Nat.le_refl _) hb4)
              have HA4 := Lib.hid (HA3.out.below hb4)
              clear hp4 hb4 HPK
              go_wp2_with fail
              go_loopw [9] (fun iv wz => ∃ k : Nat, k ≤ p.length ∧ iv = .int .i64 k ∧ wz = W4) (fun iv _ => p.length - (intOf iv).toNat)
              case atStart => exact ⟨0, by omega, rfl, rfl⟩
              case round =>
                obtain ⟨k, hk, rfl, rfl⟩ := hrel
                by_cases hlt : k < p.length
                · obtain ⟨y, hy⟩ : ∃ y, p[k]? = some y := ⟨_, List.getElem?_eq_getElem hlt⟩
                  obtain ⟨pb, poff, rfl, hpb, p0⟩ := int_at HP4.out hy
                  obtain ⟨y0, y1⟩ := HPM.out y (List.mem_of_getElem? hy)
                  have y2 : ¬ y < 0 := by omega
                  have y3 : ¬ (n : Int) ≤ y := by omega
                  clear hy y0 y1
                  go_wp2_with fail
                  go_roundw
                  case rel => exact ⟨k + 1, by omega, by go_num, trivial⟩
                  case measure => simp [intOf]; omega
                · have hnk : ¬ ((k : Int) < (p.length : Int)) := by omega
                  go_wp2_with fail
                  clear hnk
                  obtain ⟨W4, hW4⟩ : ∃ W, W = wr := ⟨_, rfl⟩
                  subst hW4
                  go_loopw [10] (fun iv wz => ∃ k : Nat, k ≤ p.length ∧ iv = .int .i64 k ∧ Hid (Below W4.heap.size W4 wz)) (fun iv _ => p.length - (intOf iv).toNat)
                  case atStart => exact ⟨0, by omega, rfl, Lib.hid (Below.refl _ _)⟩
                  case round =>
                    obtain ⟨k, hk, rfl, hbk⟩ := hrel
                    have HA5 := Lib.hid (HA4.out.below hbk.out)
                    have HP5 := Lib.hid (HP4.out.below hbk.out)
                    by_cases hlt : k < p.length
                    · obtain ⟨y, hy⟩ : ∃ y, p[k]? = some y := ⟨_, List.getElem?_eq_getElem hlt⟩
                      obtain ⟨pb, poff, rfl, hpb, p0⟩ := int_at HP5.out hy
                      have hym := List.mem_of_getElem? hy
                      obtain ⟨y0, y1⟩ := HPM.out y hym
                      have hne : p ≠ [] := List.ne_nil_of_mem hym
                      obtain ⟨yn, rfl⟩ := Int.eq_ofNat_of_zero_le y0
                      have hyn : yn < n := by omega
                      obtain ⟨x, hx⟩ : ∃ x, l[yn]? = some x := ⟨_, List.getElem?_eq_getElem (by have := HN.out; omega)⟩
                      obtain ⟨lb, loff, rfl, hlb, l0⟩ := int_at HA5.out hx
                      have hle := least_ok HPI.out (fun x h => (HL.out x h).1) hym
                      rw [at_get hx] at hle
                      have hbd := least_bd hne HPI.out.mem HL.out
                      have HLE := Lib.hid (fun (W' : World) (hb : Below wr.heap.size wr W') => least_any (some ⟨lb, loff, none⟩) (some ⟨pb, poff, none⟩) ac pc l p W' (by have h := HA5.out.below hb; rw [HN.out] at h; exact h) (HP5.out.below hb) (by have := HN.out; omega) (by omega) (by omega) HPI.out.mem)
                      rw [← HN.out] at HLE
                      obtain ⟨M, hM⟩ : ∃ M, M = leastF l p := ⟨_, rfl⟩
                      rw [← hM] at HLE hle hbd
                      have HC := Lib.hid (fun (W' : World) (hb : Below wr.heap.size wr W') => show W'.cell? ⟨pb, poff + k, none⟩ = some (.int .i64 yn) ∧ W'.cell? ⟨lb, loff + yn, none⟩ = some (.int .i64 x) from ⟨(hb.cell (p := ⟨pb, poff + k, none⟩) hpb).trans p0, (hb.cell (p := ⟨lb, loff + yn, none⟩) hlb).trans l0⟩)
                      have HBK := Lib.hid hbk.out
                      have hnle : ¬ 2 * M < x := by omega
                      clear hy hym hx hM p0 l0 hbk y0 y1 hne
                      go_upto_region 31 with fail
                      refine wp_region_told [] 11 [false, false, false, false, false, false, false, false, false, false, false, false, false, false, false, false, false, false, false, false, false, false, false, false, false, false, false, false, false, false, false, false, false, false, false, false, false, false, false, false, false, false, false, false, false, false, false, false, false, false, false, false, false, false, false, false, false, false, false, false, false, false, false, false, false, false, false, false, false, false, false, false, false, false, false, false, false, false, false, false, false, false, false, false, false, false, false, false, false, false, false, false, false, true, true, true, true, true, true, true, true, true, true, true, false, false, false, false, false, false, false, false, false, false, false, false, false, false, false, false, false, false, false]
                        [sLit (.slice (some ⟨lb, loff, none⟩) n ac),
    sLit (.slice (some ⟨pb, poff, none⟩) p.length pc),
    sLit (.int .i64 k),
    sLit (.pointer (some ⟨pb, poff + k, none⟩)),
    sLit (.int .i64 yn),
    sLit (.pointer (some ⟨lb, loff + yn, none⟩)),
    sLit (.int .i64 x),
    sLit (.slice (some ⟨lb, loff, none⟩) n ac),
    sLit (.slice (some ⟨pb, poff, none⟩) p.length pc),
    sLit (.int .i64 M),
    sLit (.int .i64 (2 * M))] (by kernel_rfl) (by kernel_rfl) (by kernel_rfl) (fun F hF => ?_)
                      simp only [over, overL, Nat.reduceAdd] at hF
                      obtain rfl := funext hF
                      clear hF
                      refine ⟨⟨?_, ?_, ?_, ?_, ?_, ?_, ?_, ?_, ?_, ?_, ?_, trivial⟩, ?_⟩
                      · intro V W hb hd K hK _
                        clear hd
                        go_wp2_with fail
                        refine hK _ _ ?_ ?_ ?_ ?_
                        · rfl
                        · exact Below.refl _ _
                        · exact rfl
                        · trivial
                      · intro V W hb hd K hK _
                        clear hd
                        go_wp2_with fail
                        refine hK _ _ ?_ ?_ ?_ ?_
                        · rfl
                        · exact Below.refl _ _
                        · exact rfl
                        · trivial
                      · intro V W hb hd K hK _
                        clear hd
                        go_wp2_with fail
                        refine hK _ _ ?_ ?_ ?_ ?_
                        · rfl
                        · exact Below.refl _ _
                        · exact rfl
                        · trivial
                      · intro V W hb hd K hK _
                        have h1 : (V 94) = .slice (some ⟨pb, poff, none⟩) p.length pc := hd 1 (by kernel_rfl)
                        have h2 : (V 95) = .int .i64 k := hd 2 (by kernel_rfl)
                        clear hd
                        go_wp2_with fail
                        refine hK _ _ ?_ ?_ ?_ ?_
                        · rfl
                        · exact Below.refl _ _
                        · rfl
                        · trivial
                      · intro V W hb hd K hK _
                        have h3 : (V 96) = .pointer (some ⟨pb, poff + k, none⟩) := hd 3 (by kernel_rfl)
                        clear hd
                        obtain ⟨k1, k2⟩ := HC.out W hb
                        have hzw := hb.size
                        go_wp2_with fail
                        refine hK _ _ ?_ ?_ ?_ ?_
                        · rfl
                        · exact Below.refl _ _
                        · rfl
                        · trivial
                      · intro V W hb hd K hK _
                        have h0 : (V 93) = .slice (some ⟨lb, loff, none⟩) n ac := hd 0 (by kernel_rfl)
                        have h4 : (V 97) = .int .i64 yn := hd 4 (by kernel_rfl)
                        clear hd
                        go_wp2_with fail
                        refine hK _ _ ?_ ?_ ?_ ?_
                        · rfl
                        · exact Below.refl _ _
                        · rfl
                        · trivial
                      · intro V W hb hd K hK _
                        have h5 : (V 98) = .pointer (some ⟨lb, loff + yn, none⟩) := hd 5 (by kernel_rfl)
                        clear hd
                        obtain ⟨k1, k2⟩ := HC.out W hb
                        have hzw := hb.size
                        go_wp2_with fail
                        refine hK _ _ ?_ ?_ ?_ ?_
                        · rfl
                        · exact Below.refl _ _
                        · rfl
                        · trivial
                      · intro V W hb hd K hK _
                        clear hd
                        go_wp2_with fail
                        refine hK _ _ ?_ ?_ ?_ ?_
                        · rfl
                        · exact Below.refl _ _
                        · exact rfl
                        · trivial
                      · intro V W hb hd K hK _
                        clear hd
                        go_wp2_with fail
                        refine hK _ _ ?_ ?_ ?_ ?_
                        · rfl
                        · exact Below.refl _ _
                        · exact rfl
                        · trivial
                      · intro V W hb hd K hK _
                        have h7 : (V 100) = .slice (some ⟨lb, loff, none⟩) n ac := hd 7 (by kernel_rfl)
                        have h8 : (V 101) = .slice (some ⟨pb, poff, none⟩) p.length pc := hd 8 (by kernel_rfl)
                        clear hd
                        go_wp2_with fail
                        refine (HLE.out W hb).mono ?_
                        rintro e w1 ⟨rfl, rfl⟩
                        go_wp2_with fail
                        refine hK _ _ ?_ ?_ ?_ ?_
                        · rfl
                        · exact Below.refl _ _
                        · exact rfl
                        · trivial
                      · intro V W hb hd K hK _
                        have h9 : (V 102) = .int .i64 M := hd 9 (by kernel_rfl)
                        clear hd
                        go_wp2_with fail
                        refine hK _ _ ?_ ?_ ?_ ?_
                        · rfl
                        · exact Below.refl _ _
                        · rfl
                        · trivial
                      · intro V W hb hd hap
                        have h6 : (V 99) = .int .i64 x := hd 6 (by decide)
                        have h10 : (V 103) = .int .i64 (2 * M) := hd 10 (by decide)
                        clear hd hap
                        simp only [List.drop_succ_cons, List.drop_zero]
                        have HB6 := Lib.hid (show Below W4.heap.size W4 W from below_then HBK.out (Nat.le_refl _) hb)
                        clear hb
                        go_wp2_with fail
                        go_roundw
                        case rel => exact ⟨k + 1, by omega, by go_num, HB6⟩
                        case measure => simp [intOf]; omega
                    · have hnk : ¬ ((k : Int) < (p.length : Int)) := by omega
                      have hro := rounds_any ao ac l wr (by have h := HA5.out; rw [HN.out] at h; exact h) (by have := HN.out; omega) (fun x h => (HL.out x h).2)
                      rw [← HN.out] at hro
                      have HRO := Lib.hid hro
                      have HBK := Lib.hid hbk.out
                      have hpos := HPI.out.some
                      clear hbk hro
                      rcases hpos with rfl | h4
                      · go_wp2_with fail
                        clear hnk
                        refine HRO.out.mono ?_
                        rintro e W6 ⟨m, rfl, hm, hb6⟩
                        have HB6 := Lib.hid hb6
                        clear hb6
                        go_wp2_with fail
                        refine (alive_any W6).mono ?_
                        rintro e W7 ⟨rfl, hb7⟩
                        have HB7 := Lib.hid hb7
                        clear hb7
                        go_wp2_with fail
                        go_ret
                        exact ⟨rfl, below_then (below_then (below_then HB4.out (Nat.le_refl _) HBK.out) (Nat.le_refl _) HB6.out) (Nat.le_refl _) HB7.out⟩
                      · have hq0 : ((p.length : Int) == 0) = false := by rw [beq_eq_false_iff_ne]; omega
                        go_wp2_with fail
                        clear hnk
                        refine HRO.out.mono ?_
                        rintro e W6 ⟨m, rfl, hm, hb6⟩
                        have HB6 := Lib.hid hb6
                        clear hb6
                        go_wp2_with fail
                        refine (alive_any W6).mono ?_
                        rintro e W7 ⟨rfl, hb7⟩
                        have HB7 := Lib.hid hb7
                        clear hb7
                        go_wp2_with fail
                        go_ret
                        exact ⟨rfl, below_then (below_then (below_then HB4.out (Nat.le_refl _) HBK.out) (Nat.le_refl _) HB6.out) (Nat.le_refl _) HB7.out⟩
end Go.Proofs.Ytihfcohebgemdaa.Tier
