/- The walks of slices.BinarySearchFunc at mutations, by a key and by a mutation; place (layer 8). PRINTED by wip/genmutbs.py. -/
import Derived.Test.YtmjelcjdfamikaaGreatDoorMutDel
set_option linter.unusedSimpArgs false
set_option linter.unusedVariables false
namespace Go.Proofs.YtmjelcjdfamikaaGreatDoor.Mut
open Go.RowKit Go.Sort Go.Proofs.YtmjelcjdfamikaaGreatDoor.Ord
set_option linter.unusedSectionVars false
variable [Inhabited Lim]

/-- Where a row parts: all ahead of i are below, none from i on. -/
def Parts (c : Mu → Int) (l : List Mu) (i : Nat) : Prop := i ≤ l.length ∧ (∀ k x, k < i → l[k]? = some x → c x < 0) ∧ ∀ k x, i ≤ k → l[k]? = some x → 0 ≤ c x
def isAt (c : Mu → Int) (l : List Mu) (i : Nat) : Bool := match l[i]? with | some x => decide (c x = 0) | none => false

set_option maxHeartbeats 1000000 in
set_option maxRecDepth 100000 in
theorem place1_any (x : Ro) (key : ByteArray) (w : World) (hx : ∃ ao n cap, x.2 = .slice ao n cap) :
    Calls Tryz.prog 110 #[vM x, .string key] w fun e w' => e = .returned (.int .i64 (cmpS x.1.key key)) ∧ RowKit.Below w.heap.size w w' := by
  obtain ⟨ao, n, cap, e1⟩ := hx
  obtain ⟨⟨at1, ak1, akey1, afin1, aval1, aex1, ⟨ap1, al1, aw1⟩, aov1⟩, av1⟩ := x
  simp only [] at e1
  subst e1
  unfold vM
  simp only []
  go_enter Tryz.func110, Tryz.ntmps110
  go_wp2_with fail
  refine (cmpS_any _ _ _).mono ?_
  rintro e w1 ⟨rfl, rfl⟩
  go_wp2_with fail
  go_ret
  exact ⟨rfl, (Below.refl _ _).alloc (Nat.le_refl _) _⟩

set_option maxHeartbeats 8000000 in
set_option maxRecDepth 100000 in
theorem bskey_any (v : Value) (R : List Ro) (key : ByteArray) (c : Mu → Int) (w : World) (hv : Lst 10 enM w v R) (hf : ∀ x ∈ R, ∃ ao n cap, x.2 = .slice ao n cap) (hn : R.length ≤ 1000000)
    (hc : ∀ x ∈ R, ∀ z, RowKit.Below w.heap.size w z → Calls Tryz.prog 110 #[vM x, .string key] z fun e z' => e = .returned (.int .i64 (c x.1)) ∧ RowKit.Below z.heap.size z z')
    (hm : ∀ (a b : Nat) (x y : Mu), a < b → (R.map (·.1))[a]? = some x → (R.map (·.1))[b]? = some y → c y < 0 → c x < 0) :
    Calls Tryz.prog 109 #[v, .string key, .func (.func 110) #[] #[]] w fun e w' => ∃ i, Parts c (R.map (·.1)) i ∧ e = .returned (.tuple #[.int .i64 (i : Nat), .bool (isAt c (R.map (·.1)) i)]) ∧ RowKit.Below w.heap.size w w' := by
  obtain ⟨ao, cap, rfl, -, -⟩ := Lst.form hv
  obtain ⟨n, hnn⟩ : ∃ n, n = R.length := ⟨_, rfl⟩
  rw [← hnn] at hv hn ⊢
  obtain ⟨l, hl⟩ : ∃ l, l = R.map (·.1) := ⟨_, rfl⟩
  rw [← hl] at hm ⊢
  have hln : l.length = n := by rw [hl, hnn, List.length_map]
  have hlx : ∀ (k : Nat) (x : Ro), R[k]? = some x → l[k]? = some x.1 := fun k x h => by rw [hl, List.getElem?_map, h]; rfl
  have HV := Lib.hid hv
  have HF := Lib.hid hf
  have HC := Lib.hid hc
  have HM := Lib.hid hm
  have HN := Lib.hid hnn
  have HLN := Lib.hid hln
  have HLX := Lib.hid hlx
  clear hv hf hc hm hnn hl hln hlx
  go_enter Tryz.func109, Tryz.ntmps109
  go_upto_region 1 with fail
  go_wp2_with fail
  go_loopw [9, 10] (fun iv jv wr => ∃ (i j : Nat), iv = .int .i64 i ∧ jv = .int .i64 j ∧ i ≤ j ∧ j ≤ n ∧ Hid ((∀ (k : Nat) (x : Mu), k < i → l[k]? = some x → c x < 0) ∧ ∀ (k : Nat) (x : Mu), j ≤ k → l[k]? = some x → 0 ≤ c x) ∧ RowKit.Below w.heap.size w wr) (fun iv jv _ => (intOf jv).toNat - (intOf iv).toNat)
  case atStart => exact ⟨0, n, rfl, rfl, by omega, by omega, Lib.hid ⟨fun k x h => (by omega), fun k x h h2 => absurd ((List.getElem?_eq_some_iff.1 h2).1) (by have := HLN.out; omega)⟩, Below.refl _ _⟩
  case round =>
    obtain ⟨i, j, rfl, rfl, hij, hjn, hp, hb⟩ := hrel
    have hbw : RowKit.Below w.heap.size w wr := hb
    by_cases hlt : i < j
    · obtain ⟨h, hh⟩ : ∃ h, h = (i + j) / 2 := ⟨_, rfl⟩
      have hhr : h < R.length := by have := HN.out; omega
      obtain ⟨x, hx⟩ : ∃ x, R[h]? = some x := ⟨_, List.getElem?_eq_getElem hhr⟩
      have hxe : R[h] = x := (List.getElem?_eq_some_iff.1 hx).2
      obtain ⟨xb, xoff, hao, hblt, hcell⟩ := Lst.get (HV.out.below hbw) hhr
      subst hao
      rw [hxe] at hcell
      obtain ⟨hlt0, a0, a1, a2, a3, a4, a5, a6, a7, a8, a9⟩ := At.of (x := x) hblt hcell
      obtain ⟨xo, xn, xc, xe⟩ := HF.out x (List.mem_of_getElem? hx)
      have hcall := fun z (hz : RowKit.Below w.heap.size w z) => HC.out x (List.mem_of_getElem? hx) z hz
      have hlh := HLX.out h x hx
      obtain ⟨q, hq⟩ : ∃ q, q = c x.1 := ⟨_, rfl⟩
      rw [← hq] at hcall
      unfold vM at hcall
      rw [xe] at hcall a9
      have e1 : IntKind.i64.wrap ((i : Int) + (j : Int)) = (i : Int) + (j : Int) := IntWalk.i64_in _ (by omega)
      have e2 : IntKind.u64.wrap ((i : Int) + (j : Int)) = (i : Int) + (j : Int) := by simp [IntKind.wrap, IntKind.bits, IntKind.signed]; omega
      have e3 : ((i : Int) + (j : Int)) / 2 = (h : Int) := by omega
      have e4 : IntKind.i64.wrap (h : Int) = (h : Int) := IntWalk.i64_in _ (by omega)
      have e5 : IntKind.i64.wrap ((h : Int) + 1) = (h : Int) + 1 := IntWalk.i64_in _ (by omega)
      have hih : i ≤ h ∧ h < j := by omega
      have hhn : h < n := by omega
      have HCALL := Lib.hid hcall
      have HLH := Lib.hid hlh
      have HQ := Lib.hid hq
      obtain ⟨W0, rfl⟩ : ∃ W0 : World, W0 = wr := ⟨_, rfl⟩
      clear hcall hlh hq hx hxe hcell xe hh hblt
      by_cases hneg : q < 0
      · have hnegd : decide (q < 0) = true := decide_eq_true hneg
        go_wp2_with fail
        refine (HCALL.out _ hbw).mono ?_
        rintro e w2 ⟨rfl, hy⟩
        go_wp2_with fail
        go_roundw
        case rel => exact ⟨h + 1, j, by first | rfl | go_num, rfl, by omega, by omega, Lib.hid ⟨fun k z hk hz => by
          by_cases hkh : k = h
          · subst hkh
            have := HLH.out.symm.trans hz
            cases this
            rw [← HQ.out]; exact hneg
          · exact HM.out k h z x.1 (by omega) hz HLH.out (by rw [← HQ.out]; exact hneg), hp.out.2⟩, hb.trans (hy.mono hb.size)⟩
        case measure => simp [intOf]; omega
      · have hnegd : decide (q < 0) = false := decide_eq_false hneg
        have hge : 0 ≤ q := by omega
        clear hneg
        go_wp2_with fail
        refine (HCALL.out _ hbw).mono ?_
        rintro e w2 ⟨rfl, hy⟩
        go_wp2_with fail
        go_roundw
        case rel => exact ⟨i, h, rfl, by first | rfl | go_num, by omega, by omega, Lib.hid ⟨hp.out.1, fun k z hk hz => by
          by_cases hkh : k = h
          · subst hkh
            have := HLH.out.symm.trans hz
            cases this
            rw [← HQ.out]; exact hge
          · refine Int.not_lt.1 fun hz0 => ?_
            have hx0 := HM.out h k x.1 z (by omega) HLH.out hz hz0
            rw [← HQ.out] at hx0
            omega⟩, hb.trans (hy.mono hb.size)⟩
        case measure => simp [intOf]; omega
    · obtain rfl : i = j := by omega
      have hparts : Parts c l i := ⟨by have := HLN.out; omega, hp.out.1, hp.out.2⟩
      have HPARTS := Lib.hid hparts
      clear hparts
      obtain ⟨W0, rfl⟩ : ∃ W0 : World, W0 = wr := ⟨_, rfl⟩
      by_cases hin : i < n
      · have hhr : i < R.length := by have := HN.out; omega
        obtain ⟨x, hx⟩ : ∃ x, R[i]? = some x := ⟨_, List.getElem?_eq_getElem hhr⟩
        have hxe : R[i] = x := (List.getElem?_eq_some_iff.1 hx).2
        obtain ⟨xb, xoff, hao, hblt, hcell⟩ := Lst.get (HV.out.below hbw) hhr
        subst hao
        rw [hxe] at hcell
        obtain ⟨hlt0, a0, a1, a2, a3, a4, a5, a6, a7, a8, a9⟩ := At.of (x := x) hblt hcell
        obtain ⟨xo, xn, xc, xe⟩ := HF.out x (List.mem_of_getElem? hx)
        have hcall := fun z (hz : RowKit.Below w.heap.size w z) => HC.out x (List.mem_of_getElem? hx) z hz
        have hat : isAt c l i = decide (c x.1 = 0) := by unfold isAt; rw [HLX.out i x hx]
        obtain ⟨q, hq⟩ : ∃ q, q = c x.1 := ⟨_, rfl⟩
        rw [← hq] at hcall hat
        unfold vM at hcall
        rw [xe] at hcall a9
        have HCALL := Lib.hid hcall
        have HAT := Lib.hid hat
        clear hcall hat hq hx hxe hcell xe hblt
        have hqe : (q == 0) = decide (q = 0) := by by_cases h : q = 0 <;> simp [h]
        go_wp2_with fail
        refine (HCALL.out _ hbw).mono ?_
        rintro e w2 ⟨rfl, hy⟩
        go_wp2_with fail
        go_ret2
        exact ⟨i, HPARTS.out, by rw [HAT.out, ← hqe]; rfl, hbw.trans (hy.mono hbw.size)⟩
      · have hat : isAt c l i = false := by unfold isAt; rw [List.getElem?_eq_none (by have := HLN.out; omega)]
        have HAT := Lib.hid hat
        clear hat
        go_wp2_with fail
        go_ret2
        exact ⟨i, HPARTS.out, by rw [HAT.out]; rfl, hbw⟩

set_option maxHeartbeats 8000000 in
set_option maxRecDepth 100000 in
theorem bsmut_any (v : Value) (R : List Ro) (t : Ro) (c : Mu → Int) (w : World) (hv : Lst 10 enM w v R) (hf : ∀ x ∈ R, ∃ ao n cap, x.2 = .slice ao n cap) (ht : ∃ ao n cap, t.2 = .slice ao n cap) (hn : R.length ≤ 1000000)
    (hc : ∀ x ∈ R, ∀ z, RowKit.Below w.heap.size w z → Calls Tryz.prog 57 #[vM x, vM t] z fun e z' => e = .returned (.int .i64 (c x.1)) ∧ RowKit.Below z.heap.size z z')
    (hm : ∀ (a b : Nat) (x y : Mu), a < b → (R.map (·.1))[a]? = some x → (R.map (·.1))[b]? = some y → c y < 0 → c x < 0) :
    Calls Tryz.prog 56 #[v, vM t, .func (.func 57) #[] #[]] w fun e w' => ∃ i, Parts c (R.map (·.1)) i ∧ e = .returned (.tuple #[.int .i64 (i : Nat), .bool (isAt c (R.map (·.1)) i)]) ∧ RowKit.Below w.heap.size w w' := by
  obtain ⟨ao, cap, rfl, -, -⟩ := Lst.form hv
  obtain ⟨to_, tn, tc, te⟩ := ht
  have hvt : vM t = .agg #[.int .i64 t.1.table, .int .i64 t.1.kind, .string t.1.key, .string t.1.fin, .string t.1.val, .int .i64 t.1.expiry, .int .i64 t.1.at_.p, .int .i64 t.1.at_.l, .int .i64 t.1.at_.w, .slice to_ tn tc] := by unfold vM; rw [te]
  rw [hvt] at hc ⊢
  obtain ⟨n, hnn⟩ : ∃ n, n = R.length := ⟨_, rfl⟩
  rw [← hnn] at hv hn ⊢
  obtain ⟨l, hl⟩ : ∃ l, l = R.map (·.1) := ⟨_, rfl⟩
  rw [← hl] at hm ⊢
  have hln : l.length = n := by rw [hl, hnn, List.length_map]
  have hlx : ∀ (k : Nat) (x : Ro), R[k]? = some x → l[k]? = some x.1 := fun k x h => by rw [hl, List.getElem?_map, h]; rfl
  have HV := Lib.hid hv
  have HF := Lib.hid hf
  have HC := Lib.hid hc
  have HM := Lib.hid hm
  have HN := Lib.hid hnn
  have HLN := Lib.hid hln
  have HLX := Lib.hid hlx
  clear hv hf hc hm hnn hl hln hlx
  go_enter Tryz.func56, Tryz.ntmps56
  go_upto_region 1 with fail
  have hbox : (w.alloc (.cells #[.int .i64 t.1.table, .int .i64 t.1.kind, .string t.1.key, .string t.1.fin, .string t.1.val, .int .i64 t.1.expiry, .int .i64 t.1.at_.p, .int .i64 t.1.at_.l, .int .i64 t.1.at_.w, .slice to_ tn tc] 40)).heap[w.heap.size]? = some (.cells #[.int .i64 t.1.table, .int .i64 t.1.kind, .string t.1.key, .string t.1.fin, .string t.1.val, .int .i64 t.1.expiry, .int .i64 t.1.at_.p, .int .i64 t.1.at_.l, .int .i64 t.1.at_.w, .slice to_ tn tc] 40 (0, 0)) := (by show (w.heap.push _)[w.heap.size]? = _; simp)
  have hbx : RowKit.Below w.heap.size w (w.alloc (.cells #[.int .i64 t.1.table, .int .i64 t.1.kind, .string t.1.key, .string t.1.fin, .string t.1.val, .int .i64 t.1.expiry, .int .i64 t.1.at_.p, .int .i64 t.1.at_.l, .int .i64 t.1.at_.w, .slice to_ tn tc] 40)) := (Below.refl _ _).alloc (Nat.le_refl _) _
  obtain ⟨W, hW⟩ : ∃ W, W = w.alloc (.cells #[.int .i64 t.1.table, .int .i64 t.1.kind, .string t.1.key, .string t.1.fin, .string t.1.val, .int .i64 t.1.expiry, .int .i64 t.1.at_.p, .int .i64 t.1.at_.l, .int .i64 t.1.at_.w, .slice to_ tn tc] 40) := ⟨_, rfl⟩
  rw [← hW] at hbox hbx ⊢
  obtain ⟨tb, htb⟩ : ∃ g, g = w.heap.size := ⟨_, rfl⟩
  rw [← htb] at hbox ⊢
  have HBOX := Lib.hid hbox
  have htb2 : tb < W.heap.size := (Array.getElem?_eq_some_iff.1 hbox).1
  clear hbox hW htb hvt te
  go_wp2_with fail
  go_loopw [9, 10] (fun iv jv wr => ∃ (i j : Nat), iv = .int .i64 i ∧ jv = .int .i64 j ∧ i ≤ j ∧ j ≤ n ∧ Hid ((∀ (k : Nat) (x : Mu), k < i → l[k]? = some x → c x < 0) ∧ ∀ (k : Nat) (x : Mu), j ≤ k → l[k]? = some x → 0 ≤ c x) ∧ RowKit.Below W.heap.size W wr) (fun iv jv _ => (intOf jv).toNat - (intOf iv).toNat)
  case atStart => exact ⟨0, n, rfl, rfl, by omega, by omega, Lib.hid ⟨fun k x h => (by omega), fun k x h h2 => absurd ((List.getElem?_eq_some_iff.1 h2).1) (by have := HLN.out; omega)⟩, Below.refl _ _⟩
  case round =>
    obtain ⟨i, j, rfl, rfl, hij, hjn, hp, hb⟩ := hrel
    have hbw : RowKit.Below w.heap.size w wr := hbx.trans (hb.mono hbx.size)
    by_cases hlt : i < j
    · obtain ⟨h, hh⟩ : ∃ h, h = (i + j) / 2 := ⟨_, rfl⟩
      have hhr : h < R.length := by have := HN.out; omega
      obtain ⟨x, hx⟩ : ∃ x, R[h]? = some x := ⟨_, List.getElem?_eq_getElem hhr⟩
      have hxe : R[h] = x := (List.getElem?_eq_some_iff.1 hx).2
      obtain ⟨xb, xoff, hao, hblt, hcell⟩ := Lst.get (HV.out.below hbw) hhr
      subst hao
      rw [hxe] at hcell
      obtain ⟨hlt0, a0, a1, a2, a3, a4, a5, a6, a7, a8, a9⟩ := At.of (x := x) hblt hcell
      obtain ⟨xo, xn, xc, xe⟩ := HF.out x (List.mem_of_getElem? hx)
      have hcall := fun z (hz : RowKit.Below w.heap.size w z) => HC.out x (List.mem_of_getElem? hx) z hz
      have hlh := HLX.out h x hx
      obtain ⟨q, hq⟩ : ∃ q, q = c x.1 := ⟨_, rfl⟩
      rw [← hq] at hcall
      unfold vM at hcall
      rw [xe] at hcall a9
      have e1 : IntKind.i64.wrap ((i : Int) + (j : Int)) = (i : Int) + (j : Int) := IntWalk.i64_in _ (by omega)
      have e2 : IntKind.u64.wrap ((i : Int) + (j : Int)) = (i : Int) + (j : Int) := by simp [IntKind.wrap, IntKind.bits, IntKind.signed]; omega
      have e3 : ((i : Int) + (j : Int)) / 2 = (h : Int) := by omega
      have e4 : IntKind.i64.wrap (h : Int) = (h : Int) := IntWalk.i64_in _ (by omega)
      have e5 : IntKind.i64.wrap ((h : Int) + 1) = (h : Int) + 1 := IntWalk.i64_in _ (by omega)
      have hih : i ≤ h ∧ h < j := by omega
      have hhn : h < n := by omega
      have HCALL := Lib.hid hcall
      have HLH := Lib.hid hlh
      have HQ := Lib.hid hq
      obtain ⟨W0, rfl⟩ : ∃ W0 : World, W0 = wr := ⟨_, rfl⟩
      have hbq := (hb.block tb htb2).trans HBOX.out
      have htb3 : tb < W0.heap.size := (Array.getElem?_eq_some_iff.1 hbq).1
      have d : ∀ k, W0.cell? ⟨tb, k, none⟩ = (#[.int .i64 t.1.table, .int .i64 t.1.kind, .string t.1.key, .string t.1.fin, .string t.1.val, .int .i64 t.1.expiry, .int .i64 t.1.at_.p, .int .i64 t.1.at_.l, .int .i64 t.1.at_.w, .slice to_ tn tc])[k]? := fun k => cell_of_row W0 tb k _ _ _ hbq
      have d0 := d 0; have d1 := d 1; have d2 := d 2; have d3 := d 3; have d4 := d 4; have d5 := d 5; have d6 := d 6; have d7 := d 7; have d8 := d 8; have d9 := d 9
      clear d hbq
      clear hcall hlh hq hx hxe hcell xe hh hblt
      by_cases hneg : q < 0
      · have hnegd : decide (q < 0) = true := decide_eq_true hneg
        go_wp2_with fail
        refine wp_region_calm (by kernel_rfl) (by kernel_rfl) ?_
        repeat (go_big_quiet_step ((go_at_call 57; exact calm (HCALL.out _ (hbw.trans ((BW.below _).mono hbw.size))))))
        refine wpQuiet_nil ?_
        rintro _ ⟨y, rfl⟩
        go_wp2_with fail
        go_roundw
        case rel => exact ⟨h + 1, j, by first | rfl | go_num, rfl, by omega, by omega, Lib.hid ⟨fun k z hk hz => by
          by_cases hkh : k = h
          · subst hkh
            have := HLH.out.symm.trans hz
            cases this
            rw [← HQ.out]; exact hneg
          · exact HM.out k h z x.1 (by omega) hz HLH.out (by rw [← HQ.out]; exact hneg), hp.out.2⟩, hb.trans (y.below.mono hb.size)⟩
        case measure => simp [intOf]; omega
      · have hnegd : decide (q < 0) = false := decide_eq_false hneg
        have hge : 0 ≤ q := by omega
        clear hneg
        go_wp2_with fail
        refine wp_region_calm (by kernel_rfl) (by kernel_rfl) ?_
        repeat (go_big_quiet_step ((go_at_call 57; exact calm (HCALL.out _ (hbw.trans ((BW.below _).mono hbw.size))))))
        refine wpQuiet_nil ?_
        rintro _ ⟨y, rfl⟩
        go_wp2_with fail
        go_roundw
        case rel => exact ⟨i, h, rfl, by first | rfl | go_num, by omega, by omega, Lib.hid ⟨hp.out.1, fun k z hk hz => by
          by_cases hkh : k = h
          · subst hkh
            have := HLH.out.symm.trans hz
            cases this
            rw [← HQ.out]; exact hge
          · refine Int.not_lt.1 fun hz0 => ?_
            have hx0 := HM.out h k x.1 z (by omega) HLH.out hz hz0
            rw [← HQ.out] at hx0
            omega⟩, hb.trans (y.below.mono hb.size)⟩
        case measure => simp [intOf]; omega
    · obtain rfl : i = j := by omega
      have hparts : Parts c l i := ⟨by have := HLN.out; omega, hp.out.1, hp.out.2⟩
      have HPARTS := Lib.hid hparts
      clear hparts
      obtain ⟨W0, rfl⟩ : ∃ W0 : World, W0 = wr := ⟨_, rfl⟩
      have hbq := (hb.block tb htb2).trans HBOX.out
      have htb3 : tb < W0.heap.size := (Array.getElem?_eq_some_iff.1 hbq).1
      have d : ∀ k, W0.cell? ⟨tb, k, none⟩ = (#[.int .i64 t.1.table, .int .i64 t.1.kind, .string t.1.key, .string t.1.fin, .string t.1.val, .int .i64 t.1.expiry, .int .i64 t.1.at_.p, .int .i64 t.1.at_.l, .int .i64 t.1.at_.w, .slice to_ tn tc])[k]? := fun k => cell_of_row W0 tb k _ _ _ hbq
      have d0 := d 0; have d1 := d 1; have d2 := d 2; have d3 := d 3; have d4 := d 4; have d5 := d 5; have d6 := d 6; have d7 := d 7; have d8 := d 8; have d9 := d 9
      clear d hbq
      by_cases hin : i < n
      · have hhr : i < R.length := by have := HN.out; omega
        obtain ⟨x, hx⟩ : ∃ x, R[i]? = some x := ⟨_, List.getElem?_eq_getElem hhr⟩
        have hxe : R[i] = x := (List.getElem?_eq_some_iff.1 hx).2
        obtain ⟨xb, xoff, hao, hblt, hcell⟩ := Lst.get (HV.out.below hbw) hhr
        subst hao
        rw [hxe] at hcell
        obtain ⟨hlt0, a0, a1, a2, a3, a4, a5, a6, a7, a8, a9⟩ := At.of (x := x) hblt hcell
        obtain ⟨xo, xn, xc, xe⟩ := HF.out x (List.mem_of_getElem? hx)
        have hcall := fun z (hz : RowKit.Below w.heap.size w z) => HC.out x (List.mem_of_getElem? hx) z hz
        have hat : isAt c l i = decide (c x.1 = 0) := by unfold isAt; rw [HLX.out i x hx]
        obtain ⟨q, hq⟩ : ∃ q, q = c x.1 := ⟨_, rfl⟩
        rw [← hq] at hcall hat
        unfold vM at hcall
        rw [xe] at hcall a9
        have HCALL := Lib.hid hcall
        have HAT := Lib.hid hat
        clear hcall hat hq hx hxe hcell xe hblt
        have hqe : (q == 0) = decide (q = 0) := by by_cases h : q = 0 <;> simp [h]
        go_wp2_with fail
        refine wp_region_calm (by kernel_rfl) (by kernel_rfl) ?_
        repeat (go_big_quiet_step ((go_at_call 57; exact calm (HCALL.out _ (hbw.trans ((BW.below _).mono hbw.size))))))
        refine wpQuiet_nil ?_
        rintro _ ⟨y, rfl⟩
        go_wp2_with fail
        go_ret2
        exact ⟨i, HPARTS.out, by rw [HAT.out, ← hqe]; rfl, hbw.trans (y.below.mono hbw.size)⟩
      · have hat : isAt c l i = false := by unfold isAt; rw [List.getElem?_eq_none (by have := HLN.out; omega)]
        have HAT := Lib.hid hat
        clear hat
        go_wp2_with fail
        refine wp_region_calm (by kernel_rfl) (by kernel_rfl) ?_
        repeat (go_big_quiet_step (fail))
        refine wpQuiet_nil ?_
        rintro _ ⟨y, rfl⟩
        go_wp2_with fail
        go_ret2
        exact ⟨i, HPARTS.out, by rw [HAT.out]; rfl, hbw.trans (y.below.mono hbw.size)⟩
end Go.Proofs.YtmjelcjdfamikaaGreatDoor.Mut
