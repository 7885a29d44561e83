/- The walk of slices.DeleteFunc at mutations, on a row that the call owns. -/
import Derived.Test.YtmjelcjdfamikaaGreatDoorMutCopies
import Derived.Test.YtmjelcjdfamikaaGreatDoorSlRow
set_option linter.unusedSimpArgs false
set_option linter.unusedVariables false
namespace Go.Proofs.YtmjelcjdfamikaaGreatDoor.Mut
open Go.RowKit Go.Sort Go.Proofs.YtmjelcjdfamikaaGreatDoor.Ord
set_option linter.unusedSectionVars false
variable [Inhabited Lim]

/-- An element of some cells stored into a row that is known whole. -/
theorem wpList_store_k {P : Program} (w : World) {ops : Array Oper} {rest : List Oper} {o : Oper} {a : Act} {Q : Exit → Act → World → Prop} (hgd : o.guard = none) (ty : TypeId) (x y : Operand) (ho : o.op = .store ty x y)
    (g off : Nat) (cells : List Value) (hx : a.eval x = .pointer (some ⟨g, off, none⟩)) (hy : a.eval y = .agg ⟨cells⟩) (cur : List Value) (t : TypeId) (hg : w.heap[g]? = some (.cells ⟨cur⟩ t (0, 0)))
    (hi : (P.info? ty).map (·.size) = some cells.length) (hfit : off + cells.length ≤ cur.length) (h1 : ∀ u ∈ cells, u.oneCell' = true)
    (h : wpList P ops Q rest (a.put o.dst undef) (w.setRow g ⟨splice cur off cells⟩)) : wpList P ops Q (o :: rest) a w := by
  refine wpList_plain hgd fun K hK => ?_
  have hst := run_storeCells_at P g off t cells 0 ⟨cur⟩ w hg (by simpa using hfit) h1
  cases hq : P.info? ty with
  | none => simp [hq] at hi
  | some i =>
    have hs : i.size = cells.length := by simpa [hq] using hi
    unfold Oper.wp
    simp [execOp, ho, hx, hy, Instr.storeAt, Instr.sureAddr, storeVar, sizeOf, typeInfo, hq, hs, Value.cells, hst, Result.andThen, splice]
    exact hK _ _ (by simpa [splice] using h)

theorem flat_splice (L : List Ro) (spare : List Value) (i : Nat) (x : Ro) (hi : i < L.length) : splice (L.flatMap enM ++ spare) (i * 10) (enM x) = (L.set i x).flatMap enM ++ spare := by
  have h10 : ∀ (l : List Ro), (l.flatMap enM).length = l.length * 10 := flatMap_len enM_len
  have e : L = L.take i ++ L[i] :: L.drop (i + 1) := by rw [← List.drop_eq_getElem_cons hi, List.take_append_drop]
  have e1 : (L.set i x) = L.take i ++ x :: L.drop (i + 1) := by rw [List.set_eq_take_append_cons_drop, if_pos hi]
  unfold splice
  rw [e1]
  have hA : (L.flatMap enM) = (L.take i).flatMap enM ++ (enM L[i] ++ (L.drop (i + 1)).flatMap enM) := by
    conv => lhs; rw [e]
    rw [List.flatMap_append, List.flatMap_cons]
  have hl : ((L.take i).flatMap enM).length = i * 10 := by rw [h10, List.length_take, Nat.min_eq_left (by omega)]
  rw [hA, List.append_assoc, List.take_left' hl, List.flatMap_append, List.flatMap_cons]
  have hd : ((L.take i).flatMap enM ++ ((enM L[i] ++ (L.drop (i + 1)).flatMap enM) ++ spare)).drop (i * 10 + (enM x).length) = (L.drop (i + 1)).flatMap enM ++ spare := by
    rw [← List.append_assoc, ← List.append_assoc, List.append_assoc]
    exact List.drop_left' (by rw [List.length_append, hl, enM_len, enM_len])
  rw [hd]
  simp [List.append_assoc]
theorem zero_M (w : World) : (zeroValue 40).run Tryz.prog w = .ok zeroM w := by kernel_rfl

def DelP (base : Nat) (w : World) (v : Value) (K : List Ro) (r : Ending) (w' : World) : Prop := ∃ v', r = .returned v' ∧ w'.ownsRow base 40 10 v' K.length (K.flatMap enM) ∧ w.grownBy w' v.ownBlock ∧ v'.ownBlock = v.ownBlock

theorem heap_alloc_old' (w : World) (o : Obj) (i : Nat) (h : i < w.heap.size) : (w.alloc o).heap[i]? = w.heap[i]? := by
  show (w.heap.push o)[i]? = w.heap[i]?
  rw [Array.getElem?_push, if_neg (Nat.ne_of_lt h)]
theorem info_sizeM (l : List Value) (h : l.length = 10) : (Tryz.prog.info? 40).map (·.size) = some l.length := by rw [h]; exact size_M

set_option maxHeartbeats 4000000 in
set_option maxRecDepth 100000 in
theorem delete_some (base gg cap : Nat) (spare : List Value) (R : List Ro) (gf : FuncId) (cb : Array Value) (p : Mu → Bool) (w : World) (hb : base ≤ gg) (hg : gg < w.heap.size) (hheap : w.heap[gg]? = some (.cells ⟨R.flatMap enM ++ spare⟩ 40 (0, 0)))
    (hnc : R.length ≤ cap) (hcm : cap ≤ maxLen) (hsz : (R.flatMap enM ++ spare).length = cap * 10) (hf : ∀ x ∈ R, ∃ ao n cap, x.2 = .slice ao n cap) (hn : R.length ≤ 1000000) (hp : Asks w (some gg) gf cb p)
    (he : ∀ args w, (callFunc gf args).run Tryz.prog w = .ok (.enter gf args) w) (hidx : ¬ idxF p (R.map (·.1)) 0 = -1) :
    Calls Tryz.prog 15 #[.slice (some ⟨gg, 0, none⟩) R.length cap, .func (.func gf) #[] cb] w (DelP base w (.slice (some ⟨gg, 0, none⟩) R.length cap) (R.filter fun x => !p x.1)) := by
  have hlst : Lst 10 enM w (.slice (some ⟨gg, 0, none⟩) R.length cap) R := ⟨_, cap, rfl, hnc, hcm, Or.inr ⟨gg, 0, rfl, hg, fun i x hi j hj => by
    rw [cells_at hheap, Nat.zero_add]
    have hlt : i < R.length := (List.getElem?_eq_some_iff.1 hi).1
    rw [List.getElem?_append_left (by rw [flatMap_len enM_len]; omega)]
    exact flatMap_get enM_len R i x hi j hj⟩⟩
  have hix := index_any _ R gf cb p (some gg) w hlst hf hn hp he
  obtain ⟨A, x0, B, eR, px0, pA, eI⟩ := idxF_some (R.map (·.1)) 0 hidx
  rw [Nat.zero_add] at eI
  obtain ⟨i0, hi0⟩ : ∃ i0, i0 = A.length := ⟨_, rfl⟩
  rw [← hi0] at eI
  rw [eI] at hix
  have hlenR : R.length = A.length + (B.length + 1) := by
    have := congrArg List.length eR
    simpa using this
  obtain ⟨n, hnn⟩ : ∃ n, n = R.length := ⟨_, rfl⟩
  have hin : i0 < n := by omega
  have hstart : R.take i0 = (R.take (i0 + 1)).filter (fun x => !p x.1) := by
    have hgetA : ∀ k (hk : k < R.length), k < i0 → p R[k].1 = false := by
      intro k hk hki
      have h1 : (R.map (·.1))[k]? = some R[k].1 := by simp [hk]
      rw [eR, List.getElem?_append_left (by omega)] at h1
      exact pA _ (List.mem_of_getElem? h1)
    have hget0 : ∀ (hk : i0 < R.length), p R[i0].1 = true := by
      intro hk
      have h1 : (R.map (·.1))[i0]? = some R[i0].1 := by simp [hk]
      rw [eR, List.getElem?_append_right (by omega), show i0 - A.length = 0 by omega] at h1
      have h2 : x0 = R[i0].1 := by simpa using h1
      rw [← h2]; exact px0
    have hlt : i0 < R.length := by omega
    rw [List.take_add_one, List.getElem?_eq_getElem hlt, List.filter_append]
    have e1 : (R.take i0).filter (fun x => !p x.1) = R.take i0 := by
      rw [List.filter_eq_self]
      intro y hy
      obtain ⟨k, hk, e⟩ := List.getElem_of_mem hy
      rw [List.getElem_take] at e
      rw [← e, hgetA k (by rw [List.length_take] at hk; omega) (by rw [List.length_take] at hk; omega)]; rfl
    rw [e1]
    simp [hget0 hlt]
  rw [← hnn] at hix hnc hn ⊢
  obtain ⟨v0, hv0⟩ : ∃ v0 : Value, v0 = .slice (some ⟨gg, 0, none⟩) n cap := ⟨_, rfl⟩
  rw [← hv0]
  have HIX := Lib.hid hix
  have HP := Lib.hid hp
  have HF := Lib.hid hf
  have HN := Lib.hid hnn
  have HS := Lib.hid hstart
  have HH := Lib.hid hheap
  have HSZ := Lib.hid hsz
  have HV0 := Lib.hid hv0
  rw [hv0]
  clear hlst hix hp hf hnn hstart hheap hsz eR px0 pA eI hlenR hidx hi0 hv0
  go_enter Tryz.func15, Tryz.ntmps15
  go_wp2_with fail
  refine HIX.out.mono ?_
  rintro e w1 ⟨rfl, hb1⟩
  have hh1 := (hb1.block _ hg).trans HH.out
  have HH1 := Lib.hid hh1
  have hgr1 : w.grownBy w1 (some gg) := grown_below hb1 _
  have hne : ¬ ((i0 : Int) = -1) := by omega
  go_wp2_with fail
  have hw0 : IntKind.i64.wrap ((i0 : Int) + 1) = (i0 : Int) + 1 := IntWalk.i64_in _ (by omega)
  go_loopw [5, 6] (fun iv jv wr => ∃ (i j : Nat) (L : List Ro), iv = .int .i64 i ∧ jv = .int .i64 j ∧ i < j ∧ j ≤ n ∧ Hid (L.length = n ∧ L.take i = (R.take j).filter (fun x => !p x.1) ∧ L.drop j = R.drop j ∧ wr.heap[gg]? = some (.cells ⟨L.flatMap enM ++ spare⟩ 40 (0, 0))) ∧ w.grownBy wr (some gg)) (fun _ jv _ => n - (intOf jv).toNat)
  case atStart => exact ⟨i0, i0 + 1, R, rfl, by first | rfl | go_num, by omega, by omega, Lib.hid ⟨HN.out.symm, HS.out, rfl, HH1.out⟩, hgr1⟩
  case round =>
    obtain ⟨i, j, L, rfl, rfl, hij, hjn, hL, hgr⟩ := hrel
    have hgw : gg < wr.heap.size := Nat.lt_of_lt_of_le hg hgr.size
    by_cases hlt : j < n
    · have hjr : j < R.length := by have := HN.out; omega
      obtain ⟨x, hx⟩ : ∃ x, R[j]? = some x := ⟨_, List.getElem?_eq_getElem hjr⟩
      have hxe : R[j] = x := (List.getElem?_eq_some_iff.1 hx).2
      obtain ⟨hl1, hl2, hl3, hl4⟩ := hL.out
      have hLj : L[j]? = some x := by
        have h1 : (L.drop j)[0]? = (R.drop j)[0]? := by rw [hl3]
        rw [List.getElem?_drop, List.getElem?_drop, Nat.add_zero] at h1
        rw [h1, hx]
      have hat : At wr gg (j * 10) x := At.of hgw fun c hc => by
        rw [cells_at hl4, List.getElem?_append_left (by rw [flatMap_len enM_len]; omega)]
        exact flatMap_get enM_len L j x hLj c hc
      obtain ⟨-, a0, a1, a2, a3, a4, a5, a6, a7, a8, a9⟩ := hat
      obtain ⟨xo, xn, xc, xe⟩ := HF.out x (List.mem_of_getElem? hx)
      have htk : (R.take (j + 1)).filter (fun x => !p x.1) = (R.take j).filter (fun x => !p x.1) ++ (if p x.1 then [] else [x]) := by
        rw [List.take_add_one, hx, List.filter_append]
        cases hpx : p x.1 <;> simp [hpx]
      have hd1 : L.drop (j + 1) = R.drop (j + 1) := by
        rw [← List.drop_drop, ← List.drop_drop, hl3]
      have hasks := fun (z : World) (h : w.grownBy z (some gg)) => HP.out x z h ⟨xo, xn, xc, xe⟩
      unfold vM at hasks
      rw [xe] at hasks a9
      obtain ⟨q, hq⟩ : ∃ q, q = p x.1 := ⟨_, rfl⟩
      rw [← hq] at hasks htk
      have HASK := Lib.hid hasks
      have HTK := Lib.hid htk
      have HD1 := Lib.hid hd1
      have hXE := Lib.hid xe
      clear hl1 hl2 hl3 hl4 hLj hasks htk hd1 hq hx hxe xe
      cases q
      · go_wp2_with fail
        refine (HASK.out _ ?gr).mono ?_
        case gr => exact grown_alloc hgr _
        rintro e w2 ⟨rfl, hb2⟩
        have hex : (enM x).toArray = #[.int .i64 x.1.table, .int .i64 x.1.kind, .string x.1.key, .string x.1.fin, .string x.1.val, .int .i64 x.1.expiry, .int .i64 x.1.at_.p, .int .i64 x.1.at_.l, .int .i64 x.1.at_.w, .slice xo xn xc] := by rw [← hXE.out]; rfl
        have hgr2 : w.grownBy w2 (some gg) := grown_then (grown_alloc hgr _) hb2
        have hnew := At.new wr 40 x
        rw [hex] at hnew
        have hnew := hnew.below hb2
        obtain ⟨-, d0, d1, d2, d3, d4, d5, d6, d7, d8, d9⟩ := hnew
        rw [hXE.out] at d9
        have hheap2 : w2.heap[gg]? = some (.cells ⟨L.flatMap enM ++ spare⟩ 40 (0, 0)) := (hb2.block gg (by simp; omega)).trans ((heap_alloc_old' wr _ gg hgw).trans hL.out.2.2.2)
        have hLl := hL.out.1
        have hspl : splice (L.flatMap enM ++ spare) (i * 10) (enM x) = (L.set i x).flatMap enM ++ spare := flat_splice L spare i x (by omega)
        have hfit : i * 10 + (enM x).length ≤ (L.flatMap enM ++ spare).length := by rw [enM_len, List.length_append, flatMap_len enM_len]; omega
        have hone : ∀ u ∈ enM x, u.oneCell' = true := by
          have h := flatM_one (l := [x]) (fun y hy => by rw [List.mem_singleton.1 hy]; exact ⟨xo, xn, xc, hXE.out⟩)
          simpa using h
        have H2 := Lib.hid hheap2
        have HSP := Lib.hid hspl
        have HFIT := Lib.hid hfit
        have HONE := Lib.hid hone
        clear hheap2 hspl hfit hone
        have hwi : IntKind.i64.wrap ((i : Int) + 1) = (i : Int) + 1 := IntWalk.i64_in _ (by omega)
        have hexl : Value.agg #[.int .i64 x.1.table, .int .i64 x.1.kind, .string x.1.key, .string x.1.fin, .string x.1.val, .int .i64 x.1.expiry, .int .i64 x.1.at_.p, .int .i64 x.1.at_.l, .int .i64 x.1.at_.w, .slice xo xn xc] = .agg ⟨enM x⟩ := by rw [← hex]
        have HEXL := Lib.hid hexl
        have hgr3 := fun cs => grown_setRow hgr2 (Or.inl rfl) (g := gg) cs
        have HGR3 := Lib.hid hgr3
        have hrow3 := setRow_heap w2 gg ⟨L.flatMap enM ++ spare⟩ ⟨splice (L.flatMap enM ++ spare) (i * 10) (enM x)⟩ _ _ H2.out
        rw [HSP.out] at hrow3
        have HROW3 := Lib.hid hrow3
        clear hex hexl hgr3 hrow3
        go_wp2_with (refine wpList_store_k _ rfl 40 _ _ rfl gg (i * 10) (enM x) rfl HEXL.out (L.flatMap enM ++ spare) 40 H2.out (info_sizeM _ rfl) HFIT.out HONE.out ?_)
        rw [HSP.out]
        obtain ⟨w3, hw3⟩ : ∃ w3, w3 = w2.setRow gg ⟨(L.set i x).flatMap enM ++ spare⟩ := ⟨_, rfl⟩
        have hgr4 := HGR3.out ⟨(L.set i x).flatMap enM ++ spare⟩
        have hrow4 := HROW3.out
        rw [← hw3] at hgr4 hrow4 ⊢
        have HR4 := Lib.hid hrow4
        clear hw3 hrow4
        go_wp2_with fail
        go_roundw
        case rel =>
          refine ⟨_, _, _, _, _, _, _, _, _, _, _, _, _, _, _, _, _, _, _, _, _, _, _, ?_, rfl⟩
          exact ⟨i + 1, j + 1, L.set i x, by go_num, by go_num, by omega, by omega, Lib.hid ⟨by rw [List.length_set]; exact hL.out.1, by
          rw [HTK.out, ← hL.out.2.1, List.take_set, List.take_add_one, List.set_append_right _ _ (by rw [List.length_take]; omega)]
          have hil : i < L.length := by rw [hL.out.1]; omega
          rw [List.getElem?_eq_getElem hil, List.length_take, Nat.min_eq_left (by omega), Nat.sub_self]
          rfl, by rw [List.drop_set, if_pos (by omega)]; exact HD1.out, HR4.out⟩, hgr4⟩
        case measure => simp [intOf]; omega
      · go_wp2_with fail
        refine (HASK.out _ ?gr).mono ?_
        case gr => exact grown_alloc hgr _
        rintro e w2 ⟨rfl, hb2⟩
        have hgr2 : w.grownBy w2 (some gg) := grown_then (grown_alloc hgr _) hb2
        have hheap2 : w2.heap[gg]? = some (.cells ⟨L.flatMap enM ++ spare⟩ 40 (0, 0)) := (hb2.block gg (by simp; omega)).trans ((heap_alloc_old' wr _ gg hgw).trans hL.out.2.2.2)
        have H2 := Lib.hid hheap2
        clear hheap2
        go_wp2_with fail
        go_roundw
        case rel =>
          refine ⟨_, _, _, _, _, _, _, _, _, _, _, _, _, _, _, _, _, _, _, _, _, _, _, ?_, rfl⟩
          exact ⟨i, j + 1, L, rfl, by go_num, by omega, by omega, Lib.hid ⟨hL.out.1, by rw [HTK.out, hL.out.2.1]; simp, HD1.out, H2.out⟩, hgr2⟩
        case measure => simp [intOf]; omega
    · obtain rfl : j = n := by omega
      obtain ⟨hl1, hl2, hl3, hl4⟩ := hL.out
      have htR : R.take j = R := List.take_of_length_le (by have := HN.out; omega)
      rw [htR] at hl2
      obtain ⟨K, hK⟩ : ∃ K, K = R.filter fun x => !p x.1 := ⟨_, rfl⟩
      rw [← hK] at hl2
      have hKl : K.length = i := by rw [← hl2, List.length_take]; omega
      have hsl : (L.flatMap enM ++ spare).length = cap * 10 := by
        have := HSZ.out
        rw [List.length_append, flatMap_len enM_len] at this ⊢
        have := HN.out
        omega
      have hnc' : ¬ cap = i := by omega
      have hcl : i * 10 + (j - i) * 10 ≤ (L.flatMap enM ++ spare).length := by rw [hsl]; omega
      have HCL := Lib.hid hcl
      have H4 := Lib.hid hl4
      have hfin : ∀ sp : List Value, sp.length = (j - i) * 10 → DelP base w v0 K (.returned (.slice (some ⟨gg, 0, none⟩) i cap)) (wr.setRow gg ⟨splice (L.flatMap enM ++ spare) (i * 10) sp⟩) := by
        intro sp hsp
        have htake : (L.flatMap enM ++ spare).take (i * 10) = K.flatMap enM := by
          have e : L = L.take i ++ L.drop i := (List.take_append_drop _ _).symm
          conv => lhs; rw [e]
          rw [List.flatMap_append, List.append_assoc, hl2]
          exact List.take_left' (by rw [flatMap_len enM_len, hKl])
        have hrow := setRow_heap wr gg ⟨L.flatMap enM ++ spare⟩ ⟨splice (L.flatMap enM ++ spare) (i * 10) sp⟩ _ _ hl4
        have hsplit : splice (L.flatMap enM ++ spare) (i * 10) sp = K.flatMap enM ++ (sp ++ (L.flatMap enM ++ spare).drop (i * 10 + sp.length)) := by unfold splice; rw [htake]
        rw [hsplit] at hrow ⊢
        refine ⟨_, rfl, ?_, ?_, by rw [HV0.out]; rfl⟩
        · rw [hKl]
          refine own_mk hb hrow (by omega) hcm ?_ (by rw [flatMap_len enM_len, hKl])
          rw [List.length_append, List.length_append, List.length_drop, hsl, hsp, flatMap_len enM_len, hKl]
          omega
        · rw [HV0.out]; exact grown_setRow hgr (Or.inl rfl) _
      have HFIN := Lib.hid hfin
      have HKK := Lib.hid hK
      clear hl1 hl2 hl3 hl4 hK hKl hsl hcl hfin htR
      go_wp2_with (refine wpList_clear_k _ rfl _ 22 rfl 40 zeroM 10 Tryz.underlying22 zero_M rfl (by intro u hu; simp [zeroM, Value.cells] at hu; rcases hu with rfl | rfl | rfl | rfl | rfl | rfl | rfl | rfl | rfl | rfl <;> rfl) gg (i * 10) (j - i) (cap - i) rfl _ 40 H4.out HCL.out ?_)
      intro sp hsp
      have hdel := HFIN.out sp hsp
      rw [HV0.out, HKK.out] at hdel
      have HDEL := Lib.hid hdel
      clear hdel hsp
      go_wp2_with fail
      go_ret
      exact HDEL.out

set_option maxHeartbeats 2000000 in
set_option maxRecDepth 100000 in
theorem delete_none (base : Nat) (v : Value) (R : List Ro) (gf : FuncId) (cb : Array Value) (p : Mu → Bool) (row : Option Nat) (w : World) (hown : w.ownsRow base 40 10 v R.length (R.flatMap enM)) (hf : ∀ x ∈ R, ∃ ao n cap, x.2 = .slice ao n cap) (hn : R.length ≤ 1000000) (hp : Asks w row gf cb p)
    (he : ∀ args w, (callFunc gf args).run Tryz.prog w = .ok (.enter gf args) w) (hidx : idxF p (R.map (·.1)) 0 = -1) :
    Calls Tryz.prog 15 #[v, .func (.func gf) #[] cb] w (DelP base w v (R.filter fun x => !p x.1)) := by
  have hlst : Lst 10 enM w v R := Lst.owned enM_len (by decide) rfl hown
  have hix := index_any _ R gf cb p row w hlst hf hn hp he
  rw [hidx] at hix
  have hall := (idxF_none _ _).1 hidx
  have hfl : R.filter (fun x => !p x.1) = R := by
    rw [List.filter_eq_self]
    intro y hy
    rw [hall y.1 (List.mem_map_of_mem hy)]; rfl
  rw [hfl]
  obtain ⟨ao, cap, rfl⟩ := row_form hown
  obtain ⟨n, hnn⟩ : ∃ n, n = R.length := ⟨_, rfl⟩
  rw [← hnn] at hix hown ⊢
  have HIX := Lib.hid hix
  have HO := Lib.hid hown
  have HN := Lib.hid hnn
  clear hlst hix hall hfl hown hnn hidx hp he hf
  go_enter Tryz.func15, Tryz.ntmps15
  go_wp2_with fail
  refine HIX.out.mono ?_
  rintro e w1 ⟨rfl, hb1⟩
  go_wp2_with fail
  go_ret
  exact ⟨_, rfl, by rw [← HN.out]; exact row_below HO.out hb1, grown_below hb1 _, rfl⟩

/-- What is left of a row of its own, by slices.DeleteFunc. -/
theorem delete_any (base : Nat) (v : Value) (R : List Ro) (gf : FuncId) (cb : Array Value) (p : Mu → Bool) (w : World) (hown : w.ownsRow base 40 10 v R.length (R.flatMap enM)) (hf : ∀ x ∈ R, ∃ ao n cap, x.2 = .slice ao n cap) (hn : R.length ≤ 1000000)
    (hp : Asks w v.ownBlock gf cb p) (he : ∀ args w, (callFunc gf args).run Tryz.prog w = .ok (.enter gf args) w) :
    Calls Tryz.prog 15 #[v, .func (.func gf) #[] cb] w (DelP base w v (R.filter fun x => !p x.1)) := by
  by_cases hidx : idxF p (R.map (·.1)) 0 = -1
  · exact delete_none base v R gf cb p _ w hown hf hn hp he hidx
  · have hpos : 0 < R.length := by
      cases R with
      | nil => exact absurd rfl hidx
      | cons x l => simp
    obtain ⟨g, cap, spare, rfl, h1, h2, h3, h4, h5, h6, h7⟩ := own_whole hown hpos
    exact delete_some base g cap spare R gf cb p w h1 h2 h3 h4 h5 h6 hf hn hp he hidx
end Go.Proofs.YtmjelcjdfamikaaGreatDoor.Mut
