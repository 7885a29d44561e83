/- The walk of diffs.Manifest (layer 36). PRINTED by wip/genentman.py. -/
import Derived.Test.YtmfhmcegmeinnaaGreatDoorEntMani
set_option linter.unusedSimpArgs false
set_option linter.unusedVariables false
namespace Go.Proofs.YtmfhmcegmeinnaaGreatDoor.Diffs
open Go.RowKit Go.Sort
set_option linter.unusedSectionVars false

theorem ret_intE {a b : Int} (h : a = b) : Ending.returned (.int .i64 a) = Ending.returned (.int .i64 b) := by rw [h]
set_option maxHeartbeats 2000000 in
set_option maxRecDepth 100000 in
theorem len64_none (w : World) : Calls Tryz.prog 188 #[.int .u64 0] w fun e w' => e = .returned (.int .i64 0) ∧ Below w.heap.size w w' := by
  go_enter Tryz.func188, Tryz.ntmps188
  go_wp2_with fail
  go_ret
  exact ⟨ret_intE (by kernel_rfl), Below.refl _ _⟩
theorem len_none (w : World) : Calls Tryz.prog 140 #[.int .u64 0] w fun e w' => e = .returned (.int .i64 0) ∧ Below w.heap.size w w' := by
  go_enter Tryz.func140, Tryz.ntmps140
  go_wp2_with fail
  refine (len64_none _).mono ?_
  rintro e w1 ⟨rfl, hb⟩
  go_wp2_with fail
  go_ret
  exact ⟨rfl, hb⟩

/-- A slice of no entries. -/
def NonE (v : Value) : Prop := ∃ ao cap, v = .slice ao 0 cap

theorem insert_none (v c : Value) (w : World) (h : NonE v) : Calls Tryz.prog 179 #[v, .int .i64 0, .int .i64 0, c] w fun e w' => e = .returned (.tuple #[]) ∧ Below w.heap.size w w' := by
  obtain ⟨ao, cap, rfl⟩ := h
  go_enter Tryz.func179, Tryz.ntmps179
  go_wp2_with fail
  go_loopw [8] (fun iv wr => iv = .int .i64 1 ∧ Below w.heap.size w wr) (fun _ _ => 0)
  case atStart => exact ⟨by first | rfl | go_num, Below.refl _ _⟩
  case round =>
    obtain ⟨rfl, hb⟩ := hrel
    go_wp2_with fail
    go_end0
    exact ⟨rfl, hb⟩

theorem pdq_none (v c : Value) (k : Int) (w : World) (h : NonE v) : Calls Tryz.prog 139 #[v, .int .i64 0, .int .i64 0, .int .i64 k, c] w fun e w' => e = .returned (.tuple #[]) ∧ Below w.heap.size w w' := by
  have HI := Lib.hid (fun w => insert_none v c w h)
  obtain ⟨ao, cap, rfl⟩ := h
  go_enter Tryz.func139, Tryz.ntmps139
  go_wp2_with fail
  go_loopw [1, 2, 3] (fun av bv kv wr => av = .int .i64 0 ∧ bv = .int .i64 0 ∧ kv = .int .i64 k ∧ Below w.heap.size w wr) (fun _ _ _ _ => 0)
  case atStart => exact ⟨rfl, rfl, rfl, Below.refl _ _⟩
  case round =>
    obtain ⟨rfl, rfl, rfl, hb⟩ := hrel
    go_wp2_with fail
    refine (HI.out _).mono ?_
    rintro e w1 ⟨rfl, hb1⟩
    go_wp2_with fail
    refine bodyPost_ret (results_none rfl _ _ _) rfl ?_
    exact ⟨rfl, hb.trans (hb1.mono hb.size)⟩

theorem sort_none (v c : Value) (w : World) (h : NonE v) : Calls Tryz.prog 78 #[v, c] w fun e w' => e = .returned (.tuple #[]) ∧ Below w.heap.size w w' := by
  have HP := Lib.hid (fun k w => pdq_none v c k w h)
  obtain ⟨ao, cap, rfl⟩ := h
  go_enter Tryz.func78, Tryz.ntmps78
  go_wp2_with fail
  refine (len_none _).mono ?_
  rintro e w1 ⟨rfl, hb⟩
  go_wp2_with fail
  refine (HP.out _ _).mono ?_
  rintro e w2 ⟨rfl, hb2⟩
  go_wp2_with fail
  go_end0
  exact ⟨rfl, hb.trans (hb2.mono hb.size)⟩


theorem own_belowE {w w' : World} {base : Nat} {e : TypeId} {size : Nat} {v : Value} {n : Nat} {xs : List Value} (h : w.ownsRow base e size v n xs) (hb : RowKit.Below w.heap.size w w') : w'.ownsRow base e size v n xs :=
  World.ownsRow.kept h (row := none) ⟨hb.os, hb.tape, hb.output, hb.size, fun i hi _ => hb.block i hi⟩ (by cases v.ownBlock <;> simp)
theorem sort_any (base : Nat) (v : Value) (R : List Ent) (w : World) (hown : w.ownsRow base 72 4 v R.length (R.flatMap enE)) (hn : R.length ≤ 1000000) :
    Calls Tryz.prog 78 #[v, .func (.func 79) #[] #[]] w (SortP base w v R) := by
  by_cases h0 : R.length = 0
  · obtain rfl : R = [] := List.eq_nil_of_length_eq_zero h0
    have hnon : NonE v := by
      obtain ⟨ao, cap, rfl⟩ := row_form hown
      exact ⟨ao, cap, rfl⟩
    refine (sort_none v _ w hnon).mono ?_
    rintro e w' ⟨rfl, hb⟩
    exact ⟨rfl, [], List.Perm.refl _, List.Pairwise.nil, own_belowE hown hb, grownB hb _⟩
  · obtain ⟨g, cap, spare, rfl, -⟩ := own_whole hown (by omega)
    exact sort_some base g cap R w hown hn

variable [Inhabited Mut.Lim]
open Go.Proofs.YtmfhmcegmeinnaaGreatDoor.Mut in
def entOf (m : Mu) : Ent := ⟨m.key, m.at_.p, m.at_.l, m.at_.w⟩
open Go.Proofs.YtmfhmcegmeinnaaGreatDoor.Mut in
theorem copied_beside {w w' : World} {v v2 : Value} {R : List Ro} {base b2 n2 : Nat} {xs2 : List Value} (h : Copied w v R base) (h2 : w.ownsRow b2 72 4 v2 n2 xs2) (hg : w.grownBy w' v2.ownBlock) : Copied w' v R base :=
  ⟨h.row.kept hg (rows_apart h.row h2 (by decide)), fun x hx => (h.over x hx).kept hg (rows_apart (h.over x hx) h2 (by decide))⟩
theorem flat_ent (l : List Ent) (e : Ent) : (l ++ [e]).flatMap enE = l.flatMap enE ++ enE e := by rw [List.flatMap_append, List.flatMap_singleton]

open Go.Proofs.YtmfhmcegmeinnaaGreatDoor.Mut in
set_option maxHeartbeats 8000000 in
set_option maxRecDepth 100000 in
theorem manifest_any {c : Con} {n : Nat} {v : Value} {w : World} (hv : IsC c v w) (h : Mut.Good c n) (hn : n ≤ 1000) :
    Calls Tryz.prog 33 #[v] w (RowPost w (rowF ((allF c).map entOf))) := by
  obtain ⟨o1, n1, k1, o2, n2, k2, o3, n3, k3, rfl, hl⟩ := hv.form
  obtain ⟨W0, hW0⟩ : ∃ W0, W0 = w.alloc (.cells #[.slice o1 n1 k1, .slice o2 n2 k2, .slice o3 n3 k3] 28) := ⟨_, rfl⟩
  have hb0 : RowKit.Below w.heap.size w W0 := by rw [hW0]; exact (Below.refl _ w).alloc (Nat.le_refl _) _
  have hP : C3 W0 w.heap.size (.slice o1 n1 k1) (.slice o2 n2 k2) (.slice o3 n3 k3) := by rw [hW0]; exact C3.new w _ _ _
  have hlen := len_allF c
  have hO := h.okc.len
  have HC := Lib.hid (c_all (n := n) (hv.below hb0) h (by omega))
  have HLN := Lib.hid (And.intro hlen hO)
  have HB0 := Lib.hid hb0
  have HP := Lib.hid hP
  have HW := Lib.hid hW0
  obtain ⟨i0, hi, hz0, hz1, hz2⟩ := info_parts info_E
  have HI := Lib.hid (And.intro hi (And.intro hz0 (And.intro hz1 hz2)))
  clear hl hv hb0 hP hW0 h hlen hO hi hz0 hz1 hz2
  go_enter Tryz.func33, Tryz.ntmps33
  go_upto_region 1 with fail
  rw [← HW.out]
  clear HW
  obtain ⟨-, p0, p1, p2, -⟩ := HP.out
  go_wp2_with fail
  refine HC.out.mono ?_
  rintro e w1 ⟨g, cap1, R1, rfl, hcp, hm, hb⟩
  have hl1 : R1.length ≤ 1000 := by have h1 := congrArg List.length hm; rw [List.length_map] at h1; have := HLN.out; omega
  obtain ⟨m, hM⟩ : ∃ m, m = R1.length := ⟨_, rfl⟩
  rw [← hM] at hcp hl1 ⊢
  have HM := Lib.hid hM
  have HCP := Lib.hid hcp
  have HMM := Lib.hid hm
  have HB1 := Lib.hid (below_then HB0.out (Nat.le_refl _) hb)
  clear hm hcp hb HC p0 p1 p2 hM
  go_wp2_with fail
  go_loopw [3, 9] (fun ov iv wr => ∃ k : Nat, k ≤ m ∧ iv = .int .i64 k ∧ Hid (wr.ownsRow w.heap.size 72 4 ov k (((R1.take k).map fun x => entOf x.1).flatMap enE)) ∧ Hid (Copied wr (.slice (some ⟨g, 0, none⟩) m cap1) R1 W0.heap.size) ∧ Hid (RowKit.Below w.heap.size w wr)) (fun _ iv _ => m - (intOf iv).toNat)
  case atStart => exact ⟨0, by omega, rfl, Lib.hid (World.ownsRow_nil _ _ _ _), HCP, HB1⟩
  case round =>
    obtain ⟨k, hk, rfl, hown, hcp, hbl⟩ := hrel
    by_cases hlt : k < m
    · obtain ⟨x, hx⟩ : ∃ x, R1[k]? = some x := ⟨_, List.getElem?_eq_getElem (by have := HM.out; omega)⟩
      have htk : (R1.take (k + 1)).map (fun x => entOf x.1) = (R1.take k).map (fun x => entOf x.1) ++ [entOf x.1] := by rw [List.take_add_one, hx]; simp
      have hmr : MRow wr (.slice (some ⟨g, 0, none⟩) m cap1) R1 := hcp.out.mrow
      obtain ⟨xb, xoff, hao, hat⟩ := hmr.at_ hx
      cases hao
      rw [Nat.zero_add] at hat
      obtain ⟨xo, xc, xe, -, -⟩ := Over.form (hmr.over x (List.mem_of_getElem? hx))
      have HTK := Lib.hid htk
      clear hmr htk hx
      obtain ⟨hbl0, a0, a1, a2, a3, a4, a5, a6, a7, a8, a9⟩ := hat
      rw [xe] at a9
      obtain ⟨W2, hW2⟩ : ∃ W2, W2 = (wr.alloc (.cells #[.int .i64 x.1.table, .int .i64 x.1.kind, .string x.1.key, .string x.1.fin, .string x.1.val, .int .i64 x.1.expiry, .int .i64 x.1.at_.p, .int .i64 x.1.at_.l, .int .i64 x.1.at_.w, .slice xo x.1.over.length xc] 51)).alloc (.cells #[.string x.1.key, .int .i64 x.1.at_.p, .int .i64 x.1.at_.l, .int .i64 x.1.at_.w] 72) := ⟨_, rfl⟩
      have hb2 : RowKit.Below wr.heap.size wr W2 := by rw [hW2]; exact ((Below.refl _ wr).alloc (Nat.le_refl _) _).alloc (by simp) _
      have hnews : ∀ j u, (enE (entOf x.1))[j]? = some u → W2.cell? ((⟨wr.heap.size + 1, 0, none⟩ : Addr).add j) = some u := by
        rw [hW2]
        have := new_cells (wr.alloc (.cells #[.int .i64 x.1.table, .int .i64 x.1.kind, .string x.1.key, .string x.1.fin, .string x.1.val, .int .i64 x.1.expiry, .int .i64 x.1.at_.p, .int .i64 x.1.at_.l, .int .i64 x.1.at_.w, .slice xo x.1.over.length xc] 51)) (enE (entOf x.1)) 72
        rw [World.size_alloc] at this
        exact this
      have HOW := Lib.hid (row_below hown.out hb2)
      have HCW := Lib.hid (hcp.out.below hb2)
      have HBW := Lib.hid (below_then hbl.out (Nat.le_refl _) hb2)
      have HNW := Lib.hid hnews
      have hszw : w.heap.size ≤ W2.heap.size := HBW.out.size
      have HW2 := Lib.hid hW2
      clear hW2 hb2 hnews
      have j0 : (0 : Int) ≤ (k : Int) := by omega
      have j1 : (k : Int) < (m : Int) := by omega
      go_wp2_with (at_builtin; rw [← HW2.out]; refine wpList_append_any _ rfl (.tmp 13) (.tmp 19) 65 rfl w.heap.size 72 i0 (.agg #[.string ByteArray.empty, .int .i64 0, .int .i64 0, .int .i64 0]) 4 40 Tryz.underlying65 HI.out.1 HI.out.2.1 HI.out.2.2.1 HI.out.2.2.2 rfl (by decide) u3 k _ rfl HOW.out (some ⟨wr.heap.size + 1, 0, none⟩) 1 1 (enE (entOf x.1)) rfl rfl (Or.inr ⟨_, rfl, HNW.out⟩) (enE_one _) (by unfold maxLen; omega) (by omega) hszw ?_)
      intro v4 w4 ho4 hg4 hat4
      have HO4 := Lib.hid (show w4.ownsRow w.heap.size 72 4 v4 (k + 1) (((R1.take (k + 1)).map fun x => entOf x.1).flatMap enE) from by rw [HTK.out, flat_ent, List.map_take]; exact ho4)
      have HC4 := Lib.hid (copied_beside HCW.out HOW.out hg4)
      have HB4 := Lib.hid (HBW.out.grown hg4 hszw (fun k hk => (HOW.out.lt k hk).1))
      clear ho4 hg4 hat4
      go_wp2_with fail
      go_roundw
      case rel => exact ⟨k + 1, by omega, by go_num, HO4, HC4, HB4⟩
      case measure => simp [intOf]; omega
    · obtain ⟨m', hm'⟩ : ∃ m', m' = k := ⟨_, rfl⟩
      have hkm : k = m := by omega
      have htk : R1.take k = R1 := List.take_of_length_le (by have := HM.out; omega)
      have hown2 := hown.out
      rw [htk] at hown2
      obtain ⟨E, hE⟩ : ∃ E, E = R1.map fun x => entOf x.1 := ⟨_, rfl⟩
      rw [← hE] at hown2
      have hEl : E.length = k := by rw [hE, List.length_map, ← HM.out]; exact hkm.symm
      rw [← hEl] at hown2
      have HEA := Lib.hid (show E = (allF c).map entOf from by rw [hE, ← HMM.out, List.map_map]; rfl)
      have HOE := Lib.hid hown2
      have HBE := Lib.hid hbl.out
      have hE1000 : E.length ≤ 1000 := by omega
      have hltn : ¬ ((k : Int) < (m : Int)) := by omega
      clear hown hcp hbl htk hown2 hE hEl hm'
      have HSO := Lib.hid (fun (W : World) (h : W.ownsRow w.heap.size 72 4 u3 E.length (E.flatMap enE)) => sort_any w.heap.size u3 E W h (by omega))
      have HCO := Lib.hid (fun (W : World) (R' : List Ent) (hp : R'.Perm E) (hs : R'.Pairwise fun a b => entC a b ≤ 0) (h : W.ownsRow w.heap.size 72 4 u3 R'.length (R'.flatMap enE)) => show Calls Tryz.prog 80 #[u3] W (CompP w.heap.size W u3 (rowF ((allF c).map entOf))) from by
        rw [← HEA.out, ← comp_row hp hs]
        exact compact_any w.heap.size u3 R' W h (by have := hp.length_eq; omega))
      go_wp2_with fail
      refine (HSO.out _ HOE.out).mono ?_
      rintro e w2 ⟨rfl, R', hp, hs, ho2, hg2⟩
      have HC2 := Lib.hid (HCO.out w2 R' hp hs ho2)
      have HB2 := Lib.hid (HBE.out.grown hg2 HBE.out.size (fun k hk => (HOE.out.lt k hk).1))
      have HO2 := Lib.hid ho2
      clear hp hs ho2 hg2
      go_wp2_with fail
      refine HC2.out.mono ?_
      rintro e w3 ⟨v3, rfl, ho3, hg3, -⟩
      have HB3 := Lib.hid (HB2.out.grown hg3 HB2.out.size (fun k hk => (HO2.out.lt k hk).1))
      have HO3 := Lib.hid ho3
      clear ho3 hg3
      go_wp2_with fail
      go_ret
      exact ⟨_, rfl, Lst.owned enE_len (by decide) rfl HO3.out, HB3.out⟩
end Go.Proofs.YtmfhmcegmeinnaaGreatDoor.Diffs
