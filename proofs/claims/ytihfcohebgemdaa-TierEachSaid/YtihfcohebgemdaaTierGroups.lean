/- Layer 18 (tier): Groups. PRINTED by wip/gentiergroups.py. -/
import Derived.Test.YtihfcohebgemdaaTierHeap
import Derived.Laws.MakeOwn
set_option linter.unusedSimpArgs false
set_option linter.unusedVariables false
namespace Go.Proofs.Ytihfcohebgemdaa.Tier
open Go.RowKit Go.Proofs.Ytihfcohebgemdaa.Ints Go.Proofs.Ytihfcohebgemdaa.Spare Go.Proofs.Ytihfcohebgemdaa.Sort Go.Proofs.Ytihfcohebgemdaa.RegInv

theorem info_parts_I : ∃ i : TypeInfo, Try.prog.info? 3 = some i ∧ i.zero = some (.int .i64 0) ∧ i.size = 1 ∧ i.bytes = 8 := by
  have h := info_I
  cases hq : Try.prog.info? 3 with
  | none => simp [hq] at h
  | some i => simp [hq] at h; exact ⟨i, rfl, h.1, h.2.1, h.2.2⟩
theorem info_parts_L : ∃ i : TypeInfo, Try.prog.info? 22 = some i ∧ i.zero = some (.slice none 0 0) ∧ i.size = 1 ∧ i.bytes = 24 := by
  have h := info_L
  cases hq : Try.prog.info? 22 with
  | none => simp [hq] at h
  | some i => simp [hq] at h; exact ⟨i, rfl, h.1, h.2.1, h.2.2⟩
/-- New groups come back. -/
def GroupsP (w : World) (gs : List (List Int)) (e : Ending) (w' : World) : Prop := ∃ base ov V, e = .returned ov ∧ Gs w' base ov V ∧ V.map (fun p => p.2) = gs ∧ w.heap.size ≤ base ∧ Below w.heap.size w w'
/-- What the sort leaves: the places, as they stand. -/
theorem done_sorted {l : List Int} {W0 w' : World} {g cap : Nat} {G : Nat → Value} (h : Done l W0 g cap l.length (fun k => (k : Int)) G w') : ∃ f', St W0 w' g cap l.length f' G l.length ∧ (List.range l.length).map f' = sortF l := by
  obtain ⟨f', h1, h2, h3⟩ := h
  refine ⟨f', h1, R_ext (l := l) ?_ (sortF_sorted l).1 fun x => ?_⟩
  · rw [List.pairwise_map]
    refine List.Pairwise.imp_of_mem ?_ List.pairwise_lt_range
    intro a b ha hb hab
    exact h2 a b (Nat.zero_le _) hab (List.mem_range.1 hb)
  · rw [(sortF_sorted l).2 x]
    unfold places
    rw [List.mem_map, List.mem_map]
    constructor
    · rintro ⟨k, hk, rfl⟩
      obtain ⟨k', _, h5, h6⟩ := (h3.1 (f' k)).2 ⟨k, Nat.zero_le _, List.mem_range.1 hk, rfl⟩
      exact ⟨k', List.mem_range.2 h5, h6⟩
    · rintro ⟨k, hk, rfl⟩
      obtain ⟨k', _, h5, h6⟩ := (h3.1 (k : Int)).1 ⟨k, Nat.zero_le _, List.mem_range.1 hk, rfl⟩
      exact ⟨k', List.mem_range.2 h5, h6⟩
theorem news_int {w : World} {g : Nat} {k : Int} (h : w.cell? ⟨g, 0, none⟩ = some (.int .i64 k)) : ∀ (j : Nat) (u : Value), ([Value.int .i64 k] : List Value)[j]? = some u → w.cell? ((⟨g, 0, none⟩ : Addr).add j) = some u := by
  intro j u hu
  cases j with
  | zero => simp at hu; subst hu; rw [addr_add]; exact h
  | succ j => simp at hu

set_option maxRecDepth 100000 in
set_option maxHeartbeats 8000000 in
theorem groups_any (ao : Option Addr) (ac : Nat) (l : List Int) (w : World) (ha : IRow w (.slice ao l.length ac) l) (hl : l.length ≤ 60) (hx : ∀ x ∈ l, x ≤ 9223372036854775807) :
    Calls Try.prog 6 #[.slice ao l.length ac] w (GroupsP w (groups l)) := by
  have HA := Lib.hid ha
  have HX := Lib.hid (show ∀ i, sz l i ≤ 9223372036854775807 from fun i => by
    unfold sz
    rw [List.getD_eq_getElem?_getD]
    cases h : l[i.toNat]? with
    | none => simp
    | some x => have := hx x (List.mem_of_getElem? h); simp; omega)
  obtain ⟨i0, hi, hz0, hz1, hz2⟩ := info_parts_I
  have HI := Lib.hid (And.intro hi (And.intro hz0 (And.intro hz1 hz2)))
  obtain ⟨j0, hj, hy0, hy1, hy2⟩ := info_parts_L
  have HJ := Lib.hid (And.intro hj (And.intro hy0 (And.intro hy1 hy2)))
  obtain ⟨n, hn⟩ : ∃ n, n = l.length := ⟨_, rfl⟩
  have hmk : ∀ w : World, (Instr.makeSlice 22 (.int .i64 n) (.int .i64 n)).run Try.prog w = .ok (.slice (some ⟨w.heap.size, 0, none⟩) n n) (w.alloc (.cells (madeCells #[.int .i64 0] n) 3)) := fun w => by
    have h := run_make (P := Try.prog) w 22 3 i0 (.int .i64 0) Try.underlying22 hi hz0 .i64 .i64 n n (by omega) (by omega) (by rw [hz2]; omega) (by omega)
    rw [hz1] at h
    simpa [Value.cells] using h
  rw [← hn] at hl ⊢
  have HN := Lib.hid hn
  clear ha hx hi hz0 hz1 hz2 hj hy0 hy1 hy2 hn
  go_enter Try.func6, Try.ntmps6
  go_wp2_with fail
  clear hmk
  obtain ⟨W1, hW1⟩ : ∃ W1, W1 = w.alloc (.cells #[.slice ao n ac] 22) := ⟨_, rfl⟩
  have hs1 : W1.heap.size = w.heap.size + 1 := by rw [hW1]; simp
  have hb1 : Below w.heap.size w W1 := by rw [hW1]; exact (Below.refl _ _).alloc (Nat.le_refl _) _
  have c1 : W1.cell? ⟨w.heap.size, 0, none⟩ = some (.slice ao n ac) := by rw [hW1]; go_simp
  rw [← hW1]
  have C1 := Lib.hid c1
  have HB1 := Lib.hid hb1
  have hmade : RowF (W1.alloc (.cells (madeCells #[.int .i64 0] n) 3)) (w.heap.size + 1) n 0 (fun k => (k : Int)) (fun _ => .int .i64 0) := by
    have h := World.rowIs_made W1 (.int .i64 0) n 3
    rw [hs1] at h
    unfold RowF
    exact World.rowIs.congr h (fun k hk => by simp)
  have HMADE := Lib.hid hmade
  clear hW1 hmade hb1 c1
  go_loopw [16] (fun iv wr => ∃ k : Nat, k ≤ n ∧ iv = .int .i64 k ∧ Hid (RowF wr (w.heap.size + 1) n k (fun k => (k : Int)) (fun _ => .int .i64 0)) ∧ Hid (Below (w.heap.size + 1) W1 wr)) (fun iv _ => n - (intOf iv).toNat)
  case atStart => exact ⟨0, by omega, rfl, HMADE, Lib.hid ((Below.refl W1.heap.size W1).alloc (Nat.le_refl _) _ |>.mono (by omega))⟩
  case round =>
    obtain ⟨k, hk, rfl, hrow, hbl⟩ := hrel
    have hgl : w.heap.size + 1 < wr.heap.size := World.rowIs.lt hrow.out
    by_cases hlt : k < n
    · have ck : wr.cell? ⟨w.heap.size + 1, k, none⟩ = some (.int .i64 0) := by
        have h := World.rowIs.cell hrow.out hlt
        rwa [if_neg (by omega)] at h
      have fk := World.rowIs.frozen hrow.out k
      have HR2 := Lib.hid (show RowF (wr.setCell ⟨w.heap.size + 1, k, none⟩ (.int .i64 k)) (w.heap.size + 1) n (k + 1) (fun k => (k : Int)) (fun _ => .int .i64 0) from
        World.rowIs.congr (World.rowIs.set hrow.out k _) (fun j hj => by
          by_cases e : j = k
          · subst e; simp
          · by_cases h2 : j < k
            · rw [if_neg e, if_pos h2, if_pos (by omega)]
            · rw [if_neg e, if_neg h2, if_neg (by omega)]))
      have HB2 := Lib.hid (hbl.out.setCell (p := ⟨w.heap.size + 1, k, none⟩) (Nat.le_refl _) (.int .i64 k))
      clear hrow hbl
      go_wp2_with fail
      go_roundw
      case rel => exact ⟨k + 1, by omega, by go_num, HR2, HB2⟩
      case measure => simp [intOf]; omega
    · have hkn : k = n := by omega
      have HROW := Lib.hid (show RowF wr (w.heap.size + 1) n n (fun k => (k : Int)) (fun _ => .int .i64 0) from by rw [← hkn]; rw [hkn]; have h := hrow.out; rw [hkn] at h; exact h)
      have HBL := Lib.hid hbl.out
      have hnk : ¬ ((k : Int) < (n : Int)) := by omega
      clear hkn hrow hbl
      obtain ⟨W3, hW3⟩ : ∃ W3, W3 = wr.alloc (.cells #[.func (.func 25) #[] #[.pointer (some ⟨w.heap.size, 0, none⟩)]] 52) := ⟨_, rfl⟩
      have c0 : (wr.alloc (.cells #[.nilFunc] 52)).cell? ⟨wr.heap.size, 0, none⟩ = some .nilFunc := by go_simp
      have f0 : (wr.alloc (.cells #[.nilFunc] 52)).frozen? ⟨wr.heap.size, 0, none⟩ = false := frozen_of_row _ _ 0 _ _ (heap_alloc_new _ _)
      have hs3 : W3.heap.size = wr.heap.size + 1 := by rw [hW3]; simp
      have cs : W3.cell? ⟨wr.heap.size, 0, none⟩ = some (.func (.func 25) #[] #[.pointer (some ⟨w.heap.size, 0, none⟩)]) := by rw [hW3]; go_simp
      have hb3 : Below wr.heap.size wr W3 := by rw [hW3]; exact (Below.refl _ _).alloc (Nat.le_refl _) _
      have hst := run_store Try.prog (wr.alloc (.cells #[.nilFunc] 52)) ⟨wr.heap.size, 0, none⟩ (.func (.func 25) #[] #[.pointer (some ⟨w.heap.size, 0, none⟩)]) .plain rfl
      rw [c0, f0] at hst
      simp only [Bool.false_eq_true, if_false] at hst
      go_upto_region 8 with fail
      clear hnk c0 f0 hst
      rw [← hW3]
      have hb13 : Below (w.heap.size + 1) W1 W3 := HBL.out.trans (hb3.mono (by omega))
      have HBW := Lib.hid (show Below w.heap.size w W3 from HB1.out.trans (hb13.mono (by omega)))
      have cl : W3.cell? ⟨w.heap.size, 0, none⟩ = some (.slice ao l.length ac) := by
        have h := (hb13.cell (p := ⟨w.heap.size, 0, none⟩) (by simp)).trans C1.out
        rw [HN.out] at h
        exact h
      have HCAP := Lib.hid (show Cap (w.heap.size + 1) W3 ao ac l wr.heap.size w.heap.size from ⟨cs, cl, Lst.below HA.out HBW.out, ⟨by omega, by omega⟩, ⟨by omega, by omega⟩, fun h0 b off e => by
        obtain ⟨ao', cap', hv, h1, h2, h3⟩ := HA.out
        cases hv
        rcases h3 with h3 | ⟨b', off', hA, hlt, _⟩
        · omega
        · rw [e] at hA; cases hA; omega⟩)
      have HST := Lib.hid (show St W3 W3 (w.heap.size + 1) n n (fun k => (k : Int)) (fun _ => .int .i64 0) l.length from ⟨HROW.out.below hb3, World.grownBy.refl _ _, fun k hk => ⟨by omega, by have := HN.out; omega⟩⟩)
      have hso := sort_any (w.heap.size + 1) W3 (w.heap.size + 1) n n (fun k => (k : Int)) (fun _ => .int .i64 0) ao ac l wr.heap.size w.heap.size HCAP.out (Lib.hid rfl) (Nat.le_refl _) hl (by have := HN.out; omega) (fun p q h _ => by omega) W3 HST.out
      have HSO := Lib.hid hso
      clear hW3 cs hb3 hb13 cl hso
      go_wp2_with fail
      refine HSO.out.mono ?_
      rintro e W4 ⟨rfl, hd4⟩
      have hd4' : Done l W3 (w.heap.size + 1) n l.length (fun k => (k : Int)) (fun _ => .int .i64 0) W4 := by have h := hd4; rw [HN.out] at h; rw [HN.out]; exact h
      obtain ⟨f', hst4, hsrt⟩ := done_sorted hd4'
      have hg4 := hst4.gr
      have hs4 := hg4.size
      have HCAP4 := Lib.hid (HCAP.out.below hg4)
      have HB4 := Lib.hid (show Below w.heap.size w W4 from HBW.out.grown hg4 (by omega) (fun j hj => by cases hj; omega))
      obtain ⟨P, hP⟩ : ∃ P, P = sortF l := ⟨_, rfl⟩
      have hPl : P.length = n := by rw [hP, ← hsrt, HN.out]; simp
      have HGET := Lib.hid (show ∀ (k : Nat) (x : Int), P[k]? = some x → 0 ≤ x ∧ x < l.length ∧ W4.cell? ⟨w.heap.size + 1, k, none⟩ = some (.int .i64 x) from fun k x h => by
        have hk : k < n := by have := (List.getElem?_eq_some_iff.1 h).1; omega
        rw [hP, ← hsrt, List.getElem?_map, List.getElem?_range (by rw [← HN.out]; exact hk)] at h
        simp only [Option.map_some, Option.some.injEq] at h
        have h1 := hst4.val k (by rw [← HN.out]; exact hk)
        have h2 := hst4.row.cell (k := k) (by rw [← HN.out]; exact hk) hk
        rw [← h]
        exact ⟨h1.1, h1.2, h2⟩)
      have HP := Lib.hid (And.intro hP hPl)
      clear hd4 hd4' hst4 hsrt hg4 hP hPl HST HSO HROW HBL
      go_wp2_with fail
      obtain ⟨Bs, hBs⟩ : ∃ b, b = wr.heap.size := ⟨_, rfl⟩
      rw [← hBs] at HCAP4 hs3 hgl ⊢
      clear HCAP hBs
      go_loopw [6, 30] (fun ov iv wx => ∃ (k : Nat) (V : List (Value × List Int)), k ≤ n ∧ iv = .int .i64 k ∧ Hid (Gs wx W4.heap.size ov V) ∧ Hid (V.map (fun p => p.2) = groupF l (P.take k)) ∧ V.length ≤ k ∧ Hid (Below W4.heap.size W4 wx)) (fun _ iv _ => n - (intOf iv).toNat)
      case atStart => exact ⟨0, [], by omega, rfl, Lib.hid (Gs.nil _ _), Lib.hid rfl, by simp, Lib.hid (Below.refl _ _)⟩
      case round =>
        obtain ⟨k, V, hk, rfl, hgs, hvm, hvl, hbx⟩ := hrel
        have hsx := hbx.out.size
        have hgl4 : w.heap.size + 1 < W4.heap.size := by omega
        obtain ⟨vo, vc, rfl⟩ := row_form hgs.out.outer
        by_cases hlt : k < n
        · obtain ⟨x, hxk⟩ : ∃ x, P[k]? = some x := ⟨_, List.getElem?_eq_getElem (by have := HP.out.2; omega)⟩
          obtain ⟨x0, x1, cx0⟩ := HGET.out k x hxk
          have cx := (hbx.out.cell (p := ⟨w.heap.size + 1, k, none⟩) hgl4).trans cx0
          have HNX := Lib.hid (show groupF l (P.take (k + 1)) = stepG l (groupF l (P.take k)) x from by rw [List.take_add_one, hxk, Option.toList_some, groupF_snoc])
          obtain ⟨xn, rfl⟩ := Int.eq_ofNat_of_zero_le x0
          have HCAP5 := Lib.hid (HCAP4.out.below (show W4.grownBy wr (some (w.heap.size + 1)) from grown_at _ hbx.out))
          have HSX := Lib.hid (fun W' (hb : Below wr.heap.size wr W') => size_any ao ac l w.heap.size xn W' (HCAP5.out.below (grown_at _ hb)).cl (HCAP5.out.below (grown_at _ hb)).row (by omega) (by have := HN.out; omega))
          have HFN := Lib.hid (fun W' (hb : Below wr.heap.size wr W') => (HCAP5.out.below (grown_at _ hb)).cs)
          have hsb := HX.out xn
          have hsn := sz_nonneg l xn
          obtain ⟨sx, hsxe⟩ : ∃ s, s = sz l xn := ⟨_, rfl⟩
          rw [← hsxe] at HSX hsb hsn
          have HSXE := Lib.hid hsxe
          have HXK := Lib.hid hxk
          have hwr : Bs < wr.heap.size := by omega
          clear hxk cx0 hsxe x0
          rcases List.eq_nil_or_concat V with rfl | ⟨V0, ⟨v, g⟩, hV⟩
          · have HST2 := Lib.hid (show (([] : List (Value × List Int)) ++ [((Value.slice (some ⟨wr.heap.size, 0, none⟩) 1 1), [(xn : Int)])]).map (fun p => p.2) = groupF l (P.take (k + 1)) from by rw [HNX.out, ← hvm.out]; rfl)
            obtain ⟨wz, hwz⟩ : ∃ W, W = wr := ⟨_, rfl⟩
            have HGZ := Lib.hid (show Gs wz W4.heap.size (.slice vo ([] : List (Value × List Int)).length vc) [] from by rw [hwz]; exact hgs.out)
            have HBZ := Lib.hid (show Below W4.heap.size W4 wz from by rw [hwz]; exact hbx.out)
            have hsz : W4.heap.size ≤ wz.heap.size := by rw [hwz]; exact hsx
            rw [← hwz] at cx HST2 ⊢
            have hz0 : ([] : List (Value × List Int)).length = 0 := rfl
            clear hgs hbx hwz
            go_wp2_with (at_builtin; refine wpList_append_own _ rfl _ _ 23 rfl W4.heap.size 22 j0 (.slice none 0 0) 1 24 Try.underlying23 HJ.out.1 HJ.out.2.1 HJ.out.2.2.1 HJ.out.2.2.2 rfl (by decide) _ _ _ rfl ((HGZ.out.outer.alloc _).alloc _) ⟨_, 0, none⟩ 1 1 [.slice (some ⟨wz.heap.size, 0, none⟩) 1 1] rfl rfl ?p1 ?p2 ?p3 ?p4 ?p5 ?_)
            case p1 =>
              intro j u hu
              cases j with
              | zero =>
                simp at hu
                subst hu
                have h := new_cells (wz.alloc (.cells #[.int .i64 xn] 3)) [.slice (some ⟨wz.heap.size, 0, none⟩) 1 1] 22 0 _ rfl; rw [show (wz.alloc (.cells #[.int .i64 xn] 3)).heap.size = wz.heap.size + 1 from by simp] at h
                exact h
              | succ j => simp at hu
            case p2 => intro u hu; simp at hu; subst hu; rfl
            case p3 => unfold maxLen; simp
            case p4 => simp
            case p5 => simp; omega
            intro v6 w6 hr6 hg6 _
            have HG6 := Lib.hid (HGZ.out.push (W1 := (wz.alloc (.cells #[.int .i64 xn] 3)).alloc (.cells #[.slice (some ⟨wz.heap.size, 0, none⟩) 1 1] 22)) (b1 := wz.heap.size) (i := xn) (((Below.refl _ _).alloc (Nat.le_refl _) _).alloc (by simp) _) ((World.ownsRow_lit wz #[.int .i64 xn] 1 hsz (by decide) rfl).alloc _) (Nat.le_refl _) hr6 hg6)
            have HB6 := Lib.hid (show Below W4.heap.size W4 w6 from ((HBZ.out.alloc hsz _).alloc (by simp; omega) _).grown hg6 (by simp; omega) (fun j hj => (World.ownsRow.lt HGZ.out.outer j hj).1))
            clear hr6 hg6
            go_wp2_with fail
            go_roundw
            case rel => exact ⟨k + 1, _, by omega, by go_num, HG6, HST2, by simp <;> omega, HB6⟩
            case measure => simp [intOf]; omega
          · rw [List.concat_eq_append] at hV
            subst hV
            have hne : g ≠ [] := (hgs.out.inner (v, g) (by simp)).2
            obtain ⟨ig, gc, e1, hig, higl, hgc⟩ := hgs.out.has (p := (v, g)) (by simp)
            obtain ⟨og, e2⟩ : ∃ og, vo = some ⟨og, 0, none⟩ := by
              obtain ⟨g', cap', e, _⟩ := own_some hgs.out.outer (by simp)
              injection e with e
              exact ⟨g', e⟩
            simp only [] at e1
            subst e1 e2
            have hVl : (V0 ++ [((Value.slice (some ⟨ig, 0, none⟩) g.length gc), g)]).length = V0.length + 1 := by simp
            rw [hVl] at hvl hgs ⊢
            have hog := (Array.getElem?_eq_some_iff.1 (row_kindT hgs.out.outer og rfl).choose_spec).1
            have co : wr.cell? ⟨og, V0.length, none⟩ = some (.slice (some ⟨ig, 0, none⟩) g.length gc) := by
              have h := World.ownsRow.cellAt (by have h := hgs.out.outer; rw [hVl] at h; exact h) V0.length (by omega)
              rw [h]; simp
            obtain ⟨y, hy⟩ : ∃ y, y = g.headD 0 := ⟨_, rfl⟩
            have hg0 : g[0]? = some y := by
              cases g with
              | nil => exact absurd rfl hne
              | cons a g => rw [hy]; rfl
            have ci : wr.cell? ⟨ig, 0, none⟩ = some (.int .i64 y) := by
              have h := World.ownsRow.cellAt (hgs.out.inner ((Value.slice (some ⟨ig, 0, none⟩) g.length gc), g) (by simp)).1 0 (by have := List.length_pos_iff.2 hne; omega)
              rw [h, flat_enI, List.getElem?_map, hg0]; rfl
            have hgpos : 0 < g.length := List.length_pos_iff.2 hne
            have hyP : ∃ idx : Nat, P[idx]? = some y := by
              have hm : y ∈ g := List.mem_of_getElem? hg0
              have h2 : y ∈ (groupF l (P.take k)).flatten := by rw [← hvm.out]; exact List.mem_flatten.2 ⟨g, by simp, hm⟩
              rw [(groupF_inv l (P.take k)).flat] at h2
              obtain ⟨idx, hidx, e⟩ := List.getElem_of_mem (List.mem_of_mem_take h2)
              exact ⟨idx, by rw [List.getElem?_eq_getElem hidx, e]⟩
            obtain ⟨idx, hidx⟩ := hyP
            obtain ⟨y0, y1, -⟩ := HGET.out idx y hidx
            obtain ⟨yn, rfl⟩ := Int.eq_ofNat_of_zero_le y0
            have HSY := Lib.hid (fun W' (hb : Below wr.heap.size wr W') => size_any ao ac l w.heap.size yn W' (HCAP5.out.below (grown_at _ hb)).cl (HCAP5.out.below (grown_at _ hb)).row (by omega) (by have := HN.out; omega))
            have hyb := HX.out yn
            have hyn := sz_nonneg l yn
            obtain ⟨sy, hsye⟩ : ∃ s, s = sz l yn := ⟨_, rfl⟩
            rw [← hsye] at HSY hyb hyn
            have HNR := Lib.hid (show near l g xn = decide (sx - max sy 1 ≤ max sy 1) from by unfold near; rw [← hy, HSXE.out, hsye])
            have HCO := Lib.hid (fun W' (hb : Below wr.heap.size wr W') => show W'.cell? ⟨og, V0.length, none⟩ = some (.slice (some ⟨ig, 0, none⟩) g.length gc) ∧ W'.cell? ⟨ig, 0, none⟩ = some (.int .i64 yn) from ⟨(hb.cell (p := ⟨og, V0.length, none⟩) hog).trans co, (hb.cell (p := ⟨ig, 0, none⟩) higl).trans ci⟩)
            have hlast : (groupF l (P.take k)).getLast? = some g := by rw [← hvm.out]; simp
            have HLAST := Lib.hid (And.intro hlast (show (groupF l (P.take k)).dropLast = V0.map (fun p => p.2) from by rw [← hvm.out]; simp))
            have HGS := Lib.hid hgs.out
            have HBX := Lib.hid hbx.out
            have HVM := Lib.hid hvm.out
            have HNE := Lib.hid hne
            clear hsye hy hg0 hidx y0 hlast hgs hbx hvm co ci hne
            go_upto_region 15 with fail
            refine wp_region_told [] 9 [false, false, false, false, false, false, false, false, false, false, false, false, false, false, false, false, false, false, false, false, false, false, false, false, false, false, false, false, false, false, false, false, false, false, false, false, false, false, false, true, true, true, true, true, true, true, true, true, false, false, false, false, false, false, false, false, false, false, false, false, false, false, false, false, false, false, false, false, false, false, false, false, false]
              [sLit (.func (.func 25) #[] #[.pointer (some ⟨w.heap.size, 0, none⟩)]),
    sLit (.slice (some ⟨og, 0, none⟩) (V0.length + 1) vc),
    sLit (.int .i64 V0.length),
    sLit (.pointer (some ⟨og, V0.length, none⟩)),
    sLit (.slice (some ⟨ig, 0, none⟩) g.length gc),
    sLit (.pointer (some ⟨ig, 0, none⟩)),
    sLit (.int .i64 yn),
    sLit (.int .i64 sy),
    sLit (.int .i64 (max sy 1))] (by kernel_rfl) (by kernel_rfl) (by kernel_rfl) (fun F hF => ?_)
            simp only [over, overL, Nat.reduceAdd] at hF
            obtain rfl := funext hF
            clear hF
            refine ⟨⟨?_, ?_, ?_, ?_, ?_, ?_, ?_, ?_, ?_, trivial⟩, ?_⟩
            · intro V W hb hd K hK _
              clear hd
              obtain k0 := HFN.out W hb
              go_wp2_with fail
              refine hK _ _ ?_ ?_ ?_ ?_
              · rfl
              · exact Below.refl _ _
              · exact rfl
              · trivial
            · intro V W hb hd K hK _
              clear hd
              go_wp2_with fail
              refine hK _ _ ?_ ?_ ?_ ?_
              · rfl
              · exact Below.refl _ _
              · exact rfl
              · trivial
            · intro V W hb hd K hK _
              clear hd
              go_wp2_with fail
              refine hK _ _ ?_ ?_ ?_ ?_
              · rfl
              · exact Below.refl _ _
              · exact rfl
              · trivial
            · intro V W hb hd K hK _
              have h1 : (V 40) = .slice (some ⟨og, 0, none⟩) (V0.length + 1) vc := hd 1 (by kernel_rfl)
              have h2 : (V 41) = .int .i64 V0.length := hd 2 (by kernel_rfl)
              clear hd
              go_wp2_with fail
              refine hK _ _ ?_ ?_ ?_ ?_
              · rfl
              · exact Below.refl _ _
              · rfl
              · trivial
            · intro V W hb hd K hK _
              have h3 : (V 42) = .pointer (some ⟨og, V0.length, none⟩) := hd 3 (by kernel_rfl)
              clear hd
              obtain ⟨k1, k2⟩ := HCO.out W hb
              have hzw := hb.size
              go_wp2_with fail
              refine hK _ _ ?_ ?_ ?_ ?_
              · rfl
              · exact Below.refl _ _
              · rfl
              · trivial
            · intro V W hb hd K hK _
              have h4 : (V 43) = .slice (some ⟨ig, 0, none⟩) g.length gc := hd 4 (by kernel_rfl)
              clear hd
              go_wp2_with fail
              refine hK _ _ ?_ ?_ ?_ ?_
              · rfl
              · exact Below.refl _ _
              · rfl
              · trivial
            · intro V W hb hd K hK _
              have h5 : (V 44) = .pointer (some ⟨ig, 0, none⟩) := hd 5 (by kernel_rfl)
              clear hd
              obtain ⟨k1, k2⟩ := HCO.out W hb
              have hzw := hb.size
              go_wp2_with fail
              refine hK _ _ ?_ ?_ ?_ ?_
              · rfl
              · exact Below.refl _ _
              · rfl
              · trivial
            · intro V W hb hd K hK _
              have h0 : (V 39) = .func (.func 25) #[] #[.pointer (some ⟨w.heap.size, 0, none⟩)] := hd 0 (by kernel_rfl)
              have h6 : (V 45) = .int .i64 yn := hd 6 (by kernel_rfl)
              clear hd
              go_wp2_with fail
              refine (HSY.out W hb).mono ?_
              rintro e w1 ⟨rfl, rfl⟩
              go_wp2_with fail
              refine hK _ _ ?_ ?_ ?_ ?_
              · rfl
              · exact Below.refl _ _
              · exact rfl
              · trivial
            · intro V W hb hd K hK _
              have h7 : (V 46) = .int .i64 sy := hd 7 (by kernel_rfl)
              clear hd
              go_wp2_with fail
              refine hK _ _ ?_ ?_ ?_ ?_
              · rfl
              · exact Below.refl _ _
              · rfl
              · trivial
            · intro V W hb hd hap
              have h8 : (V 47) = .int .i64 (max sy 1) := hd 8 (by decide)
              clear hd hap
              simp only [List.drop_succ_cons, List.drop_zero]
              have HBT := Lib.hid hb
              have hzt := hb.size
              have hcs := HFN.out W hb
              clear hb cx
              go_wp2_with fail
              refine (HSX.out W HBT.out).mono ?_
              rintro e wz ⟨rfl, rfl⟩
              clear hcs
              obtain ⟨q, hq⟩ : ∃ q, decide (sx - max sy 1 ≤ max sy 1) = q := ⟨_, rfl⟩
              have HQ := Lib.hid (show near l g xn = q from HNR.out.trans hq)
              have hq2 : decide (sx - max sy 1 ≤ 1 * max sy 1) = q := by rw [Int.one_mul]; exact hq
              have HGZ := Lib.hid (HGS.out.below HBT.out)
              have HBZ := Lib.hid (HBX.out.trans (HBT.out.mono hsx))
              have hsz : W4.heap.size ≤ W.heap.size := by omega
              cases q
              · have HST2 := Lib.hid (show ((V0 ++ [((Value.slice (some ⟨ig, 0, none⟩) g.length gc), g)]) ++ [((Value.slice (some ⟨W.heap.size, 0, none⟩) 1 1), [(xn : Int)])]).map (fun p => p.2) = groupF l (P.take (k + 1)) from by
                  rw [HNX.out]
                  unfold stepG
                  rw [HLAST.out.1]
                  simp only [HQ.out, Bool.false_eq_true, if_false]
                  rw [List.map_append, HVM.out]; rfl)
                go_wp2_with (at_builtin; refine wpList_append_own _ rfl _ _ 23 rfl W4.heap.size 22 j0 (.slice none 0 0) 1 24 Try.underlying23 HJ.out.1 HJ.out.2.1 HJ.out.2.2.1 HJ.out.2.2.2 rfl (by decide) _ _ _ rfl ((HGZ.out.outer.alloc _).alloc _) ⟨_, 0, none⟩ 1 1 [.slice (some ⟨W.heap.size, 0, none⟩) 1 1] rfl rfl ?p1 ?p2 ?p3 ?p4 ?p5 ?_)
                case p1 =>
                  intro j u hu
                  cases j with
                  | zero =>
                    simp at hu
                    subst hu
                    have h := new_cells (W.alloc (.cells #[.int .i64 xn] 3)) [.slice (some ⟨W.heap.size, 0, none⟩) 1 1] 22 0 _ rfl; rw [show (W.alloc (.cells #[.int .i64 xn] 3)).heap.size = W.heap.size + 1 from by simp] at h
                    exact h
                  | succ j => simp at hu
                case p2 => intro u hu; simp at hu; subst hu; rfl
                case p3 => unfold maxLen; (simp; omega)
                case p4 => (simp; omega)
                case p5 => simp; omega
                intro v6 w6 hr6 hg6 _
                have HG6 := Lib.hid (HGZ.out.push (W1 := (W.alloc (.cells #[.int .i64 xn] 3)).alloc (.cells #[.slice (some ⟨W.heap.size, 0, none⟩) 1 1] 22)) (b1 := W.heap.size) (i := xn) (((Below.refl _ _).alloc (Nat.le_refl _) _).alloc (by simp) _) ((World.ownsRow_lit W #[.int .i64 xn] 1 hsz (by decide) rfl).alloc _) (Nat.le_refl _) (by simpa using hr6) hg6)
                have HB6 := Lib.hid (show Below W4.heap.size W4 w6 from ((HBZ.out.alloc hsz _).alloc (by simp; omega) _).grown hg6 (by simp; omega) (fun j hj => (World.ownsRow.lt HGZ.out.outer j hj).1))
                clear hr6 hg6
                go_wp2_with fail
                go_roundw
                case rel => exact ⟨k + 1, _, by omega, by go_num, HG6, HST2, by simp <;> omega, HB6⟩
                case measure => simp [intOf]; omega
              · have HST2 := Lib.hid (fun v' : Value => show (V0 ++ [(v', g ++ [(xn : Int)])]).map (fun p => p.2) = groupF l (P.take (k + 1)) from by
                  rw [HNX.out]
                  unfold stepG
                  rw [HLAST.out.1]
                  simp only [HQ.out, if_true]
                  rw [HLAST.out.2, List.map_append]; rfl)
                have HIN := Lib.hid ((HGZ.out.inner ((Value.slice (some ⟨ig, 0, none⟩) g.length gc), g) (by simp)).1.alloc (.cells #[.int .i64 xn] 3))
                have hcz := HCO.out W HBT.out
                obtain ⟨co, -⟩ := hcz
                have coa : ∀ ob, (W.alloc ob).cell? ⟨og, V0.length, none⟩ = some (.slice (some ⟨ig, 0, none⟩) g.length gc) := fun ob => (((Below.refl W.heap.size W).alloc (Nat.le_refl _) ob).cell (p := ⟨og, V0.length, none⟩) (by simp <;> omega)).trans co
                have hgl60 : g.length ≤ 60 := by
                  have h1 := (groupF_inv l (P.take k)).flat
                  have h2 : g.length ≤ (groupF l (P.take k)).flatten.length := by rw [← HVM.out]; simp <;> omega
                  rw [h1, List.length_take] at h2
                  omega
                go_wp2_with (at_builtin; refine wpList_append_own_loc rfl _ _ 22 rfl W4.heap.size 3 i0 (.int .i64 0) [.int .i64 0] 8 Try.underlying22 HI.out.1 HI.out.2.1 rfl HI.out.2.2.1 HI.out.2.2.2 (by decide) (.slice (some ⟨ig, 0, none⟩) g.length gc) g.length (g.flatMap enI) rfl HIN.out ⟨W.heap.size, 0, none⟩ 1 1 [.int .i64 xn] rfl (by decide) rfl ?p1 ?p2 ?p3 ?p4 ?p5 ?_)
                case p1 => exact news_int (by have h := new_cells W [.int .i64 xn] 3 0 _ rfl; rw [addr_add] at h; exact h)
                case p2 => intro u hu; simp at hu; subst hu; rfl
                case p3 => unfold maxLen; omega
                case p4 => omega
                case p5 => simp; omega
                intro v6 w6 hr6 hg6 hl6
                have hoW := (HGZ.out.outer.alloc (.cells #[.int .i64 xn] 3))
                rw [hVl] at hoW
                have ho6 := World.ownsRow.kept hoW hg6 (Or.inr fun e => apart_kind HIN.out hoW types_ne e.symm rfl)
                have q6 : w6.cell? ⟨og, V0.length, none⟩ = some (.slice (some ⟨ig, 0, none⟩) g.length gc) := by
                  rw [World.ownsRow.cellAt ho6 V0.length (by omega)]; simp
                obtain ⟨cs6, hk6⟩ := row_kindT ho6 og rfl
                have f6 := frozen_of_row w6 og V0.length _ _ hk6
                have HG6 := Lib.hid (Gs.grow (W := W) (W1 := W.alloc (.cells #[.int .i64 xn] 3)) (i := xn) (by have h := HGZ.out; exact h) ((Below.refl _ _).alloc (Nat.le_refl _) _) hr6 hg6 hl6)
                have HB6 := Lib.hid (show Below W4.heap.size W4 (w6.setCell ⟨og, V0.length, none⟩ v6) from ((HBZ.out.alloc hsz _).grown hg6 (by simp; omega) (fun j hj => (World.ownsRow.lt HIN.out j hj).1)).setCell (p := ⟨og, V0.length, none⟩) (by have h := (World.ownsRow.lt hoW og rfl).1; exact h) _)
                obtain ⟨uo, uc, rfl⟩ := row_form hr6
                have hol : og < w6.heap.size := (Array.getElem?_eq_some_iff.1 hk6).1
                clear hr6 hg6 hl6 hoW ho6 hk6 coa co
                go_wp2_with fail
                go_roundw
                case rel => exact ⟨k + 1, V0 ++ [(.slice uo (g.length + 1) uc, g ++ [(xn : Int)])], by omega, by go_num, by simpa using HG6, HST2.out _, by simp <;> omega, HB6⟩
                case measure => simp [intOf]; omega
        · have hkn : k = n := by omega
          have hnk : ¬ ((k : Int) < (n : Int)) := by omega
          have HFIN := Lib.hid (show V.map (fun p => p.2) = groups l from by
            have h := hvm.out
            rw [hkn, List.take_of_length_le (by rw [HP.out.2]; exact Nat.le_refl _), HP.out.1] at h
            exact h)
          have HE := Lib.hid (show Below w.heap.size w wr from HB4.out.trans (hbx.out.mono (by omega)))
          have HG := Lib.hid hgs.out
          clear hkn hgs hbx hvm
          go_wp2_with fail
          go_ret
          exact ⟨W4.heap.size, _, V, rfl, HG.out, HFIN.out, by omega, HE.out⟩
end Go.Proofs.Ytihfcohebgemdaa.Tier
