/- Layer 6 (dots): slices.Compact at writes, on a row that the call owns. PRINTED by wip/gendotrows.py out of EntCompact. -/
import Derived.Test.YtihfcohebgemdaaDotRows
import Derived.Test.YtihfcohebgemdaaSlRow
import Derived.Test.YtihfcohebgemdaaSpareAny
set_option linter.unusedSimpArgs false
set_option linter.unusedVariables false
namespace Go.Proofs.Ytihfcohebgemdaa.Dots
open Go.RowKit Go.Proofs.Ytihfcohebgemdaa.Vec

/-- An element of some cells stored into a row that is known whole. -/
theorem wpList_store_k {P : Program} (w : World) {ops : Array Oper} {rest : List Oper} {o : Oper} {a : Act} {Q : Exit → Act → World → Prop} (hgd : o.guard = none) (ty : TypeId) (x y : Operand) (ho : o.op = .store ty x y)
    (g off : Nat) (cells : List Value) (hx : a.eval x = .pointer (some ⟨g, off, none⟩)) (hy : a.eval y = .agg ⟨cells⟩) (cur : List Value) (t : TypeId) (hg : w.heap[g]? = some (.cells ⟨cur⟩ t (0, 0)))
    (hi : (P.info? ty).map (·.size) = some cells.length) (hfit : off + cells.length ≤ cur.length) (h1 : ∀ u ∈ cells, u.oneCell' = true)
    (h : wpList P ops Q rest (a.put o.dst undef) (w.setRow g ⟨splice cur off cells⟩)) : wpList P ops Q (o :: rest) a w := by
  refine wpList_plain hgd fun K hK => ?_
  have hst := run_storeCells_at P g off t cells 0 ⟨cur⟩ w hg (by simpa using hfit) h1
  cases hq : P.info? ty with
  | none => simp [hq] at hi
  | some i =>
    have hs : i.size = cells.length := by simpa [hq] using hi
    unfold Oper.wp
    simp [execOp, ho, hx, hy, Instr.storeAt, Instr.sureAddr, storeVar, sizeOf, typeInfo, hq, hs, Value.cells, hst, Result.andThen, splice]
    exact hK _ _ (by simpa [splice] using h)

/-- Each row of equal ones that stand beside each other, once; behind an element p. -/
def compG : Option P → List P → List P
  | _, [] => []
  | p, x :: t => if p = some x then compG (some x) t else x :: compG (some x) t
theorem compG_snoc (x : P) : ∀ (l : List P) (p : Option P), compG p (l ++ [x]) = compG p l ++ if (match l.getLast? with | some y => some y | none => p) = some x then [] else [x]
  | [], p => by
    by_cases h : p = some x <;> simp [compG, h]
  | y :: l, p => by
    have ih := compG_snoc x l (some y)
    have e : (match (y :: l).getLast? with | some z => some z | none => p) = match l.getLast? with | some z => some z | none => some y := by
      cases l with
      | nil => rfl
      | cons z l => rw [List.getLast?_cons_cons]; cases h : (z :: l).getLast? with
        | none => simp at h
        | some u => rfl
    rw [List.cons_append, compG, compG, ih, e]
    split <;> simp
theorem comp_take (R : List P) (m : Nat) (x y : P) (hx : R[m + 1]? = some x) (hy : R[m]? = some y) : compG none (R.take (m + 2)) = compG none (R.take (m + 1)) ++ if eqD x y = true then [] else [x] := by
  have e1 : R.take (m + 2) = R.take (m + 1) ++ [x] := by rw [List.take_add_one, hx]; rfl
  have e2 : (R.take (m + 1)).getLast? = some y := by rw [List.take_add_one, hy]; simp
  rw [e1, compG_snoc, e2]
  congr 1
  have h := eqD_iff x y
  by_cases he : x = y
  · rw [if_pos (by rw [he]), if_pos (h.2 he)]
  · rw [if_neg (fun e => he (Option.some.inj e).symm), if_neg (fun e => he (h.1 e))]

theorem flat_spliceE (L : List P) (spare : List Value) (i : Nat) (x : P) (hi : i < L.length) : splice (L.flatMap enD ++ spare) (i * 2) (enD x) = (L.set i x).flatMap enD ++ spare := by
  have h10 : ∀ (l : List P), (l.flatMap enD).length = l.length * 2 := flatMap_len enD_len
  have e : L = L.take i ++ L[i] :: L.drop (i + 1) := by rw [← List.drop_eq_getElem_cons hi, List.take_append_drop]
  have e1 : (L.set i x) = L.take i ++ x :: L.drop (i + 1) := by rw [List.set_eq_take_append_cons_drop, if_pos hi]
  unfold splice
  rw [e1]
  have hA : (L.flatMap enD) = (L.take i).flatMap enD ++ (enD L[i] ++ (L.drop (i + 1)).flatMap enD) := by
    conv => lhs; rw [e]
    rw [List.flatMap_append, List.flatMap_cons]
  have hl : ((L.take i).flatMap enD).length = i * 2 := by rw [h10, List.length_take, Nat.min_eq_left (by omega)]
  rw [hA, List.append_assoc, List.take_left' hl, List.flatMap_append, List.flatMap_cons]
  have hd : ((L.take i).flatMap enD ++ ((enD L[i] ++ (L.drop (i + 1)).flatMap enD) ++ spare)).drop (i * 2 + (enD x).length) = (L.drop (i + 1)).flatMap enD ++ spare := by
    rw [← List.append_assoc, ← List.append_assoc, List.append_assoc]
    exact List.drop_left' (by rw [List.length_append, hl, enD_len, enD_len])
  rw [hd]
  simp [List.append_assoc]
def zeroE : Value := .agg #[.int .i64 0, .int .i64 0]
theorem zero_E (w : World) : (zeroValue 33).run Try.prog w = .ok zeroE w := by kernel_rfl
theorem info_sizeE (l : List Value) (h : l.length = 2) : (Try.prog.info? 33).map (·.size) = some l.length := by rw [h]; kernel_rfl
theorem grownB {w w' : World} (hb : RowKit.Below w.heap.size w w') (row : Option Nat) : w.grownBy w' row := ⟨hb.os, hb.tape, hb.output, hb.size, fun i hi _ => hb.block i hi⟩
def CompP (base : Nat) (w : World) (v : Value) (K : List P) (r : Ending) (w' : World) : Prop := ∃ v', r = .returned v' ∧ w'.ownsRow base 33 2 v' K.length (K.flatMap enD) ∧ w.grownBy w' v.ownBlock ∧ v'.ownBlock = v.ownBlock

theorem comp_short (R : List P) (h : R.length < 2) : compG none R = R := by
  match R, h with
  | [], _ => rfl
  | [x], _ => simp [compG]
theorem compact_short (base : Nat) (v : Value) (R : List P) (w : World) (hown : w.ownsRow base 33 2 v R.length (R.flatMap enD)) (hn : R.length < 2) :
    Calls Try.prog 51 #[v] w (CompP base w v (compG none R)) := by
  rw [comp_short R hn]
  obtain ⟨ao, cap, rfl⟩ := row_form hown
  obtain ⟨n, hnn⟩ : ∃ n, n = R.length := ⟨_, rfl⟩
  rw [← hnn] at hown hn ⊢
  have HO := Lib.hid hown
  have HN := Lib.hid hnn
  clear hown hnn
  have hd : decide ((n : Int) < 2) = true := decide_eq_true (by omega)
  go_enter Try.func51, Try.ntmps51
  go_wp2_with fail
  go_ret
  exact ⟨_, rfl, by rw [← HN.out]; exact HO.out, ⟨rfl, rfl, rfl, Nat.le_refl _, fun _ _ _ => rfl⟩, rfl⟩

set_option maxHeartbeats 8000000 in
set_option maxRecDepth 100000 in
theorem compact_long (base gg cap : Nat) (spare : List Value) (R : List P) (w : World) (hb : base ≤ gg) (hg : gg < w.heap.size) (hheap : w.heap[gg]? = some (.cells ⟨R.flatMap enD ++ spare⟩ 33 (0, 0)))
    (hnc : R.length ≤ cap) (hcm : cap ≤ maxLen) (hsz : (R.flatMap enD ++ spare).length = cap * 2) (hn : R.length ≤ 1000000) (hn2 : 2 ≤ R.length) :
    Calls Try.prog 51 #[.slice (some ⟨gg, 0, none⟩) R.length cap] w (CompP base w (.slice (some ⟨gg, 0, none⟩) R.length cap) (compG none R)) := by
  obtain ⟨n, hnn⟩ : ∃ n, n = R.length := ⟨_, rfl⟩
  rw [← hnn] at hnc hn hn2 ⊢
  obtain ⟨v0, hv0⟩ : ∃ v0 : Value, v0 = .slice (some ⟨gg, 0, none⟩) n cap := ⟨_, rfl⟩
  rw [← hv0]
  have HN := Lib.hid hnn
  have HH := Lib.hid hheap
  have HSZ := Lib.hid hsz
  have HV0 := Lib.hid hv0
  rw [hv0]
  have cell : ∀ (W : World) (L : List P) (sp : List Value) (i : Nat) (x : P), W.heap[gg]? = some (.cells ⟨L.flatMap enD ++ sp⟩ 33 (0, 0)) → L[i]? = some x →
      W.cell? ⟨gg, i * 2, none⟩ = some (.int .i64 x.who) ∧ W.cell? ⟨gg, i * 2 + 1, none⟩ = some (.int .i64 x.n) := fun W L sp i x hW hx => by
    have hlt : i < L.length := (List.getElem?_eq_some_iff.1 hx).1
    have h : ∀ j, j < 2 → W.cell? ⟨gg, i * 2 + j, none⟩ = (enD x)[j]? := fun j hj => by
      rw [cells_at hW, List.getElem?_append_left (by rw [flatMap_len enD_len]; omega)]
      exact flatMap_get enD_len L i x hx j hj
    exact ⟨h 0 (by decide), h 1 (by decide)⟩
  have HCELL := Lib.hid cell
  clear hnn hheap hsz hv0 cell
  have hd : decide ((n : Int) < 2) = false := decide_eq_false (by omega)
  have hgd := guard_run
  go_enter Try.func51, Try.ntmps51
  go_wp2_with fail
  go_loopw [3] (fun kv wr => ∃ m : Nat, m + 1 ≤ n ∧ kv = .int .i64 ((m + 1 : Nat) : Int) ∧ Hid (compG none (R.take (m + 1)) = R.take (m + 1)) ∧ Hid (RowKit.Below w.heap.size w wr)) (fun kv _ => n - (intOf kv).toNat)
  case atStart => exact ⟨0, by omega, rfl, Lib.hid (comp_short _ (by rw [List.length_take]; omega)), Lib.hid (Below.refl _ _)⟩
  case round =>
    obtain ⟨m, hm, rfl, hcg, hbl⟩ := hrel
    have hm1 : ((m + 1 : Nat) : Int) = (m : Int) + 1 := by omega
    by_cases hlt : m + 1 < n
    · obtain ⟨x, hx⟩ : ∃ x, R[m + 1]? = some x := ⟨_, List.getElem?_eq_getElem (by have := HN.out; omega)⟩
      obtain ⟨y, hy⟩ : ∃ y, R[m]? = some y := ⟨_, List.getElem?_eq_getElem (by have := HN.out; omega)⟩
      have hh := (hbl.out.block _ hg).trans HH.out
      obtain ⟨a0, a1⟩ := HCELL.out wr R spare (m + 1) x hh hx
      obtain ⟨b0, b1⟩ := HCELL.out wr R spare m y hh hy
      have hct := comp_take R m x y hx hy
      obtain ⟨q, hq⟩ : ∃ q, eqD x y = q := ⟨_, rfl⟩
      have hq1 := fun w => eql_run x y q hq w
      rw [hq] at hct
      have HCT := Lib.hid hct
      have HX := Lib.hid hx
      clear hct hx hy hh hq
      have hgw : gg < wr.heap.size := Nat.lt_of_lt_of_le hg hbl.out.size
      have j0 : (0 : Int) ≤ (m : Int) := by omega
      have j1 : (m : Int) + 1 < (n : Int) := by omega
      go_wp2_with fail
      refine wp_region_calm (by kernel_rfl) (by kernel_rfl) ?_
      repeat (go_big_quiet_step (fail))
      refine wpQuiet_nil ?_
      rintro _ ⟨z, rfl⟩
      obtain ⟨w1, hw1⟩ : ∃ w1, w1 = z.at := ⟨_, rfl⟩
      have hz := z.below
      rw [← hw1] at hz ⊢
      have HB1 := Lib.hid (below_then hbl.out (Nat.le_refl _) hz)
      clear hw1 z hz a0 a1 b0 b1 hq1
      cases q
      · have HN2 := Lib.hid (show compG none (R.take (m + 2)) = R.take (m + 2) from by
          rw [HCT.out, hcg.out, if_neg (by decide)]
          have e : R.take (m + 1 + 1) = R.take (m + 1) ++ [x] := by rw [List.take_add_one (i := m + 1), HX.out]; rfl
          exact e.symm)
        go_wp2_with fail
        go_roundw
        case rel => exact ⟨m + 1, by omega, by go_num, HN2, HB1⟩
        case measure => simp [intOf]; omega
      · have hst := HCT.out
        rw [hcg.out, if_pos rfl, List.append_nil] at hst
        have HST := Lib.hid hst
        have hh1 := (HB1.out.block _ hg).trans HH.out
        have HH1 := Lib.hid hh1
        have hgr1 : w.grownBy w1 (some gg) := grownB HB1.out _
        clear hst hh1 HCT hcg hbl
        have hsl : (n : Int) - ((m : Int) + 1) = ((n - (m + 1) : Nat) : Int) := by omega
        go_wp2_with fail
        go_loopw [3, 5] (fun kv jv wr => ∃ (k i : Nat) (L : List P), kv = .int .i64 k ∧ jv = .int .i64 ((i + 1 : Nat) : Int) ∧ m + 1 ≤ k ∧ k ≤ m + 1 + i ∧ m + 1 + (i + 1) ≤ n ∧ Hid (L.length = n ∧ L.take k = compG none (R.take (m + 1 + (i + 1))) ∧ L.drop (m + 1 + i) = R.drop (m + 1 + i) ∧ wr.heap[gg]? = some (.cells ⟨L.flatMap enD ++ spare⟩ 33 (0, 0))) ∧ w.grownBy wr (some gg)) (fun _ jv _ => n - (intOf jv).toNat)
        case atStart => exact ⟨m + 1, 0, R, by go_num, rfl, by omega, by omega, by omega, Lib.hid ⟨HN.out.symm, HST.out.symm, rfl, HH1.out⟩, hgr1⟩
        case round =>
          obtain ⟨k, i, L, rfl, rfl, hmk, hki, hin, hL, hgr⟩ := hrel
          have hgw : gg < wr.heap.size := Nat.lt_of_lt_of_le hg hgr.size
          have hi1 : ((i + 1 : Nat) : Int) = (i : Int) + 1 := by omega
          by_cases hjt : m + 1 + (i + 1) < n
          · obtain ⟨x, hx⟩ : ∃ x, R[m + 1 + (i + 1)]? = some x := ⟨_, List.getElem?_eq_getElem (by have := HN.out; omega)⟩
            obtain ⟨y, hy⟩ : ∃ y, R[m + 1 + i]? = some y := ⟨_, List.getElem?_eq_getElem (by have := HN.out; omega)⟩
            obtain ⟨hl1, hl2, hl3, hl4⟩ := hL.out
            have hLx : L[m + 1 + (i + 1)]? = some x := by
              have h1 : (L.drop (m + 1 + i))[1]? = (R.drop (m + 1 + i))[1]? := by rw [hl3]
              rw [List.getElem?_drop, List.getElem?_drop] at h1
              rw [show m + 1 + (i + 1) = m + 1 + i + 1 by omega, h1, ← hx, show m + 1 + (i + 1) = m + 1 + i + 1 by omega]
            have hLy : L[m + 1 + i]? = some y := by
              have h1 : (L.drop (m + 1 + i))[0]? = (R.drop (m + 1 + i))[0]? := by rw [hl3]
              rw [List.getElem?_drop, List.getElem?_drop, Nat.add_zero] at h1
              rw [h1, hy]
            obtain ⟨a0, a1⟩ := HCELL.out wr L spare _ x hl4 hLx
            obtain ⟨b0, b1⟩ := HCELL.out wr L spare _ y hl4 hLy
            rw [show (m + 1 + (i + 1)) * 2 = (m + 1) * 2 + (i + 1) * 2 by omega] at a0 a1
            rw [show (m + 1 + i) * 2 = (m + 1) * 2 + i * 2 by omega] at b0 b1
            have hct := comp_take R (m + 1 + i) x y (by rw [← hx]; rfl) hy
            obtain ⟨q, hq⟩ : ∃ q, eqD x y = q := ⟨_, rfl⟩
            have hq1 := fun w => neq_run x y q hq w
            rw [hq] at hct
            have HCT := Lib.hid hct
            have HX := Lib.hid hLx
            have hd1 : L.drop (m + 1 + (i + 1)) = R.drop (m + 1 + (i + 1)) := by
              have h1 : (L.drop (m + 1 + i)).drop 1 = (R.drop (m + 1 + i)).drop 1 := by rw [hl3]
              rw [List.drop_drop, List.drop_drop] at h1
              exact h1
            have HD1 := Lib.hid hd1
            clear hct hx hy hq hLx hLy hl1 hl2 hl3 hl4 hd1
            have i0 : (0 : Int) ≤ (i : Int) := by omega
            have i1 : (i : Int) + 1 < ((n - (m + 1) : Nat) : Int) := by omega
            go_wp2_with fail
            refine wp_region_calm (by kernel_rfl) (by kernel_rfl) ?_
            repeat (go_big_quiet_step (fail))
            refine wpQuiet_nil ?_
            rintro _ ⟨z, rfl⟩
            obtain ⟨w2, hw2⟩ : ∃ w2, w2 = z.at := ⟨_, rfl⟩
            have hz := z.below
            rw [← hw2] at hz ⊢
            have hgr2 : w.grownBy w2 (some gg) := ⟨hz.os.trans hgr.os, hz.tape.trans hgr.tape, hz.output.trans hgr.output, Nat.le_trans hgr.size hz.size, fun i hi hne => (hz.block i (Nat.lt_of_lt_of_le hi hgr.size)).trans (hgr.block i hi hne)⟩
            have hheap2 : w2.heap[gg]? = some (.cells ⟨L.flatMap enD ++ spare⟩ 33 (0, 0)) := (hz.block gg hgw).trans hL.out.2.2.2
            have hgw2 : gg < w2.heap.size := Nat.lt_of_lt_of_le hgw hz.size
            have H2 := Lib.hid hheap2
            clear hw2 z hz a0 a1 b0 b1 hq1 hheap2
            cases q
            · have hLl := hL.out.1
              have k0 : (0 : Int) ≤ (k : Int) := by omega
              have k1 : (k : Int) < (n : Int) := by omega
              obtain ⟨a0, a1⟩ := HCELL.out w2 L spare _ x H2.out HX.out
              rw [show (m + 1 + (i + 1)) * 2 = (m + 1) * 2 + (i + 1) * 2 by omega] at a0 a1
              have hspl : splice (L.flatMap enD ++ spare) (k * 2) (enD x) = (L.set k x).flatMap enD ++ spare := flat_spliceE L spare k x (by omega)
              have hfit : k * 2 + (enD x).length ≤ (L.flatMap enD ++ spare).length := by rw [enD_len, List.length_append, flatMap_len enD_len]; omega
              have HSP := Lib.hid hspl
              have HFIT := Lib.hid hfit
              have hwi : IntKind.i64.wrap ((k : Int) + 1) = (k : Int) + 1 := IntWalk.i64_in _ (by omega)
              have HGR3 := Lib.hid (fun cs => grown_setRow hgr2 (Or.inl rfl) (g := gg) cs)
              have hrow3 := setRow_heap w2 gg ⟨L.flatMap enD ++ spare⟩ ⟨splice (L.flatMap enD ++ spare) (k * 2) (enD x)⟩ _ _ H2.out
              rw [HSP.out] at hrow3
              have HROW3 := Lib.hid hrow3
              clear hspl hfit hrow3
              go_wp2_with (refine wpList_store_k _ rfl 33 _ _ rfl gg (k * 2) (enD x) rfl rfl (L.flatMap enD ++ spare) 33 H2.out (info_sizeE _ rfl) HFIT.out (enD_one x) ?_)
              rw [HSP.out]
              obtain ⟨w3, hw3⟩ : ∃ w3, w3 = w2.setRow gg ⟨(L.set k x).flatMap enD ++ spare⟩ := ⟨_, rfl⟩
              have hgr4 := HGR3.out ⟨(L.set k x).flatMap enD ++ spare⟩
              have hrow4 := HROW3.out
              rw [← hw3] at hgr4 hrow4 ⊢
              have HR4 := Lib.hid hrow4
              clear hw3 hrow4 a0 a1
              go_wp2_with fail
              go_roundw
              case rel =>
               refine ⟨_, _, _, _, _, _, _, _, _, _, _, _, _, _, _, _, _, _, _, _, _, _, _, _, _, _, _, ?_, rfl⟩
               exact ⟨k + 1, i + 1, L.set k x, by go_num, by go_num, by omega, by omega, by omega, Lib.hid ⟨by rw [List.length_set]; exact hL.out.1, by
                have e := HCT.out
                rw [if_neg (by decide), show m + 1 + i + 1 = m + 1 + (i + 1) by omega, ← hL.out.2.1] at e
                rw [show m + 1 + (i + 1 + 1) = m + 1 + i + 2 by omega, e, List.take_set, List.take_add_one, List.set_append_right _ _ (by rw [List.length_take]; omega)]
                have hil : k < L.length := by rw [hL.out.1]; omega
                rw [List.getElem?_eq_getElem hil, List.length_take, Nat.min_eq_left (by omega), Nat.sub_self]
                rfl, by rw [List.drop_set, if_pos (by omega)]; exact HD1.out, HR4.out⟩, hgr4⟩
              case measure => simp [intOf]; omega
            · go_wp2_with fail
              go_roundw
              case rel => exact ⟨k, i + 1, L, rfl, by go_num, by omega, by omega, by omega, Lib.hid ⟨hL.out.1, by
                have e := HCT.out
                rw [if_pos rfl, List.append_nil, show m + 1 + i + 1 = m + 1 + (i + 1) by omega] at e
                rw [show m + 1 + (i + 1 + 1) = m + 1 + i + 2 by omega, e]
                exact hL.out.2.1, HD1.out, H2.out⟩, hgr2⟩
              case measure => simp [intOf]; omega
          · obtain ⟨hl1, hl2, hl3, hl4⟩ := hL.out
            have hjn : m + 1 + (i + 1) = n := by omega
            have htR : R.take (m + 1 + (i + 1)) = R := List.take_of_length_le (by have := HN.out; omega)
            rw [htR] at hl2
            obtain ⟨K, hK⟩ : ∃ K, K = compG none R := ⟨_, rfl⟩
            rw [← hK] at hl2
            have hKl : K.length = k := by rw [← hl2, List.length_take]; omega
            have hsl : (L.flatMap enD ++ spare).length = cap * 2 := by
              have := HSZ.out
              rw [List.length_append, flatMap_len enD_len] at this ⊢
              have := HN.out
              omega
            have hcl : k * 2 + (n - k) * 2 ≤ (L.flatMap enD ++ spare).length := by rw [hsl]; omega
            have HCL := Lib.hid hcl
            have H4 := Lib.hid hl4
            have hfin : ∀ sp : List Value, sp.length = (n - k) * 2 → CompP base w v0 K (.returned (.slice (some ⟨gg, 0, none⟩) k cap)) (wr.setRow gg ⟨splice (L.flatMap enD ++ spare) (k * 2) sp⟩) := by
              intro sp hsp
              have htake : (L.flatMap enD ++ spare).take (k * 2) = K.flatMap enD := by
                have e : L = L.take k ++ L.drop k := (List.take_append_drop _ _).symm
                conv => lhs; rw [e]
                rw [List.flatMap_append, List.append_assoc, hl2]
                exact List.take_left' (by rw [flatMap_len enD_len, hKl])
              have hrow := setRow_heap wr gg ⟨L.flatMap enD ++ spare⟩ ⟨splice (L.flatMap enD ++ spare) (k * 2) sp⟩ _ _ hl4
              have hsplit : splice (L.flatMap enD ++ spare) (k * 2) sp = K.flatMap enD ++ (sp ++ (L.flatMap enD ++ spare).drop (k * 2 + sp.length)) := by unfold splice; rw [htake]
              rw [hsplit] at hrow ⊢
              refine ⟨_, rfl, ?_, ?_, by rw [HV0.out]; rfl⟩
              · rw [hKl]
                refine own_mk hb hrow (by omega) hcm ?_ (by rw [flatMap_len enD_len, hKl])
                rw [List.length_append, List.length_append, List.length_drop, hsl, hsp, flatMap_len enD_len, hKl]
                omega
              · rw [HV0.out]; exact grown_setRow hgr (Or.inl rfl) _
            have HFIN := Lib.hid hfin
            have HKK := Lib.hid hK
            have i1 : ¬ ((i : Int) + 1 < ((n - (m + 1) : Nat) : Int)) := by omega
            have k0 : (0 : Int) ≤ (k : Int) := by omega
            have k1 : (k : Int) ≤ (n : Int) := by omega
            have hks : (n : Int) - (k : Int) = ((n - k : Nat) : Int) := by omega
            clear hl1 hl2 hl3 hl4 hK hKl hsl hcl hfin htR
            go_wp2_with (refine wpList_clear_k _ rfl _ 31 rfl 33 zeroE 2 Try.underlying31 zero_E rfl (by intro u hu; simp [zeroE, Value.cells] at hu; rcases hu with rfl | rfl <;> rfl) gg (k * 2) (n - k) (cap - k) rfl _ 33 H4.out HCL.out ?_)
            intro sp hsp
            have hdel := HFIN.out sp hsp
            rw [HV0.out, HKK.out] at hdel
            have HDEL := Lib.hid hdel
            clear hdel hsp
            go_wp2_with fail
            go_ret
            exact HDEL.out
    · have hmn : m + 1 = n := by omega
      have hall := hcg.out
      rw [List.take_of_length_le (by have := HN.out; omega)] at hall
      have HALL := Lib.hid hall
      have hbl2 := Lib.hid hbl.out
      have j1 : ¬ ((m : Int) + 1 < (n : Int)) := by omega
      clear hall hcg hbl
      go_wp2_with fail
      go_ret
      rw [HALL.out]
      refine ⟨_, rfl, ?_, grownB hbl2.out _, rfl⟩
      rw [← HN.out]
      exact own_mk hb ((hbl2.out.block _ hg).trans HH.out) hnc hcm HSZ.out (by rw [flatMap_len enD_len, HN.out])

/-- Each row of equal ones once, of a row of the call's own. -/
theorem compact_any (base : Nat) (v : Value) (R : List P) (w : World) (hown : w.ownsRow base 33 2 v R.length (R.flatMap enD)) (hn : R.length ≤ 1000000) :
    Calls Try.prog 51 #[v] w (CompP base w v (compG none R)) := by
  by_cases h2 : R.length < 2
  · exact compact_short base v R w hown h2
  · obtain ⟨g, cap, spare, rfl, hb, hlt, hg, hnc, hcm, hsz, -⟩ := own_whole hown (by omega)
    exact compact_long base g cap spare R w hb hlt hg hnc hcm hsz hn (by omega)
end Go.Proofs.Ytihfcohebgemdaa.Dots
