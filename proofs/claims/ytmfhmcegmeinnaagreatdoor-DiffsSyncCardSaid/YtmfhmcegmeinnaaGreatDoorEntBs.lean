/- The walk of slices.BinarySearchFunc at entries, by diffs.Compare, on a rising row (layer 36): is an entry in it? -/
import Derived.Test.YtmfhmcegmeinnaaGreatDoorEntMan
set_option linter.unusedSimpArgs false
set_option linter.unusedVariables false
namespace Go.Proofs.YtmfhmcegmeinnaaGreatDoor.Diffs
open Go.RowKit Go.Sort

theorem has_at {l : List Ent} {t : Ent} {i : Nat} (hl : Srt l) (h1 : ∀ k x, k < i → l[k]? = some x → entC x t < 0) (h2 : ∀ k x, i ≤ k → l[k]? = some x → 0 ≤ entC x t) :
    hasE l t = match l[i]? with | some x => decide (entC x t = 0) | none => false := by
  have hmem : ∀ q, (hasE l t = q ↔ (q = true ↔ t ∈ l)) := by
    intro q
    unfold hasE
    cases q
    · simp only [Bool.false_eq_true, false_iff]
      constructor
      · intro h hm
        rw [List.any_eq_false] at h
        exact h t hm (eqE_self t)
      · intro h
        rw [List.any_eq_false]
        intro x hx e
        rw [(eqE_iff t x).1 e] at h
        exact h hx
    · simp only [true_iff]
      constructor
      · intro h
        obtain ⟨x, hx, e⟩ := List.any_eq_true.1 h
        rw [(eqE_iff t x).1 e]; exact hx
      · exact fun h => List.any_eq_true.2 ⟨t, h, eqE_self t⟩
  rw [hmem]
  cases hi : l[i]? with
  | none =>
    simp only [Bool.false_eq_true, false_iff]
    intro hm
    obtain ⟨k, hk, e⟩ := List.getElem_of_mem hm
    have hki : k < i := by
      have := List.getElem?_eq_none_iff.1 hi
      omega
    have := h1 k t hki (by rw [List.getElem?_eq_getElem hk, e])
    rw [entC_self] at this
    omega
  | some x =>
    simp only [decide_eq_true_eq]
    constructor
    · intro h
      rw [(entC_zero x t).1 h] at hi
      exact List.mem_of_getElem? hi
    · intro hm
      obtain ⟨k, hk, e⟩ := List.getElem_of_mem hm
      have hkt : l[k]? = some t := by rw [List.getElem?_eq_getElem hk, e]
      have hik : i ≤ k := by
        rcases Nat.lt_or_ge k i with g | g
        · have := h1 k t g hkt
          rw [entC_self] at this
          omega
        · exact g
      rcases Nat.lt_or_ge i k with g | g
      · have hx0 := h2 i x (Nat.le_refl _) hi
        obtain ⟨hil, hie⟩ := List.getElem?_eq_some_iff.1 hi
        have := List.pairwise_iff_getElem.1 hl i k hil hk g
        rw [hie, e] at this
        omega
      · have : k = i := by omega
        subst this
        rw [hi] at hkt
        cases hkt
        exact entC_self _

set_option maxHeartbeats 8000000 in
set_option maxRecDepth 100000 in
theorem bs_any (v : Value) (R : List Ent) (t : Ent) (w : World) (hv : ERow w v R) (hs : Srt R) (hn : R.length ≤ 1000000) :
    Calls Tryz.prog 83 #[v, .agg #[.string t.k, .int .i64 t.p, .int .i64 t.l, .int .i64 t.h], .func (.func 79) #[] #[]] w fun e w' => ∃ i : Nat, e = .returned (.tuple #[.int .i64 i, .bool (hasE R t)]) ∧ RowKit.Below w.heap.size w w' := by
  obtain ⟨ao, cap, rfl, -, -⟩ := Lst.form hv
  obtain ⟨n, hnn⟩ : ∃ n, n = R.length := ⟨_, rfl⟩
  rw [← hnn] at hv hn ⊢
  have hm : ∀ (a b : Nat) (x y : Ent), a < b → R[a]? = some x → R[b]? = some y → entC y t < 0 → entC x t < 0 := fun a b x y hab hx hy h => by
    obtain ⟨ha, ea⟩ := List.getElem?_eq_some_iff.1 hx
    obtain ⟨hb, eb⟩ := List.getElem?_eq_some_iff.1 hy
    have := List.pairwise_iff_getElem.1 hs a b ha hb hab
    rw [ea, eb] at this
    exact entC_trans this h
  obtain ⟨Q, hQ⟩ : ∃ Q, Q = hasE R t := ⟨_, rfl⟩
  rw [← hQ]
  have HQQ := Lib.hid hQ
  have HV := Lib.hid hv
  have HM := Lib.hid hm
  have HN := Lib.hid hnn
  have HS := Lib.hid hs
  clear hv hm hnn hs hQ
  go_enter Tryz.func83, Tryz.ntmps83
  go_upto_region 1 with fail
  obtain ⟨W, hW⟩ : ∃ W, W = w.alloc (.cells #[.string t.k, .int .i64 t.p, .int .i64 t.l, .int .i64 t.h] 72) := ⟨_, rfl⟩
  have hbx : RowKit.Below w.heap.size w W := by rw [hW]; exact (Below.refl _ _).alloc (Nat.le_refl _) _
  have e0 : W.cell? ⟨w.heap.size, 0, none⟩ = some (.string t.k) := by rw [hW]; go_simp
  have e1 : W.cell? ⟨w.heap.size, 1, none⟩ = some (.int .i64 t.p) := by rw [hW]; go_simp
  have e2 : W.cell? ⟨w.heap.size, 2, none⟩ = some (.int .i64 t.l) := by rw [hW]; go_simp
  have e3 : W.cell? ⟨w.heap.size, 3, none⟩ = some (.int .i64 t.h) := by rw [hW]; go_simp
  have htb2 : w.heap.size < W.heap.size := by rw [hW]; simp
  rw [← hW]
  obtain ⟨tb, htb⟩ : ∃ g, g = w.heap.size := ⟨_, rfl⟩
  rw [← htb] at e0 e1 e2 e3 htb2 ⊢
  have HT := Lib.hid (fun W' (h : RowKit.Below W.heap.size W W') => show W'.cell? ⟨tb, 0, none⟩ = some (.string t.k) ∧ W'.cell? ⟨tb, 1, none⟩ = some (.int .i64 t.p) ∧ W'.cell? ⟨tb, 2, none⟩ = some (.int .i64 t.l) ∧ W'.cell? ⟨tb, 3, none⟩ = some (.int .i64 t.h) from
    ⟨(h.cell (p := ⟨tb, 0, none⟩) htb2).trans e0, (h.cell (p := ⟨tb, 1, none⟩) htb2).trans e1, (h.cell (p := ⟨tb, 2, none⟩) htb2).trans e2, (h.cell (p := ⟨tb, 3, none⟩) htb2).trans e3⟩)
  have HBX := Lib.hid hbx
  have HTB := Lib.hid htb
  clear hW e0 e1 e2 e3 hbx htb
  go_wp2_with fail
  go_loopw [9, 10] (fun iv jv wr => ∃ (i j : Nat), iv = .int .i64 i ∧ jv = .int .i64 j ∧ i ≤ j ∧ j ≤ n ∧ Hid ((∀ (k : Nat) (x : Ent), k < i → R[k]? = some x → entC x t < 0) ∧ ∀ (k : Nat) (x : Ent), j ≤ k → R[k]? = some x → 0 ≤ entC x t) ∧ RowKit.Below W.heap.size W wr) (fun iv jv _ => (intOf jv).toNat - (intOf iv).toNat)
  case atStart => exact ⟨0, n, rfl, rfl, by omega, by omega, Lib.hid ⟨fun k x h => (by omega), fun k x h h2 => absurd ((List.getElem?_eq_some_iff.1 h2).1) (by have := HN.out; omega)⟩, Below.refl _ _⟩
  case round =>
    obtain ⟨i, j, rfl, rfl, hij, hjn, hp, hb⟩ := hrel
    have hbw : RowKit.Below w.heap.size w wr := HBX.out.trans (hb.mono HBX.out.size)
    obtain ⟨d0, d1, d2, d3⟩ := HT.out wr hb
    have htb3 : tb < wr.heap.size := Nat.lt_of_lt_of_le htb2 hb.size
    by_cases hlt : i < j
    · obtain ⟨h, hh⟩ : ∃ h, h = (i + j) / 2 := ⟨_, rfl⟩
      have hhr : h < R.length := by have := HN.out; omega
      obtain ⟨x, hx⟩ : ∃ x, R[h]? = some x := ⟨_, List.getElem?_eq_getElem hhr⟩
      have hxe : R[h] = x := (List.getElem?_eq_some_iff.1 hx).2
      obtain ⟨xb, xoff, hao, hblt, a0, a1, a2, a3⟩ := ERow.cells (HV.out.below hbw) hhr
      subst hao
      rw [hxe] at a0 a1 a2 a3
      obtain ⟨q, hq⟩ : ∃ q, q = entC x t := ⟨_, rfl⟩
      have hcall := fun z => compare_any x t z
      rw [← hq] at hcall
      have e1 : IntKind.i64.wrap ((i : Int) + (j : Int)) = (i : Int) + (j : Int) := IntWalk.i64_in _ (by omega)
      have e2 : IntKind.u64.wrap ((i : Int) + (j : Int)) = (i : Int) + (j : Int) := by simp [IntKind.wrap, IntKind.bits, IntKind.signed]; omega
      have e3 : ((i : Int) + (j : Int)) / 2 = (h : Int) := by omega
      have e4 : IntKind.i64.wrap (h : Int) = (h : Int) := IntWalk.i64_in _ (by omega)
      have e5 : IntKind.i64.wrap ((h : Int) + 1) = (h : Int) + 1 := IntWalk.i64_in _ (by omega)
      have hih : i ≤ h ∧ h < j := by omega
      have hhn : h < n := by omega
      have HCALL := Lib.hid hcall
      have HLH := Lib.hid hx
      have HQ := Lib.hid hq
      clear hcall hq hx hxe hh
      by_cases hneg : q < 0
      · have hnegd : decide (q < 0) = true := decide_eq_true hneg
        go_wp2_with fail
        refine wp_region_calm (by kernel_rfl) (by kernel_rfl) ?_
        repeat (go_big_quiet_step ((go_at_call 79; exact calm (HCALL.out _))))
        refine wpQuiet_nil ?_
        rintro _ ⟨y, rfl⟩
        go_wp2_with fail
        go_roundw
        case rel => exact ⟨h + 1, j, by first | rfl | go_num, rfl, by omega, by omega, Lib.hid ⟨fun k z hk hz => by
          by_cases hkh : k = h
          · subst hkh
            have := HLH.out.symm.trans hz
            cases this
            rw [← HQ.out]; exact hneg
          · exact HM.out k h z x (by omega) hz HLH.out (by rw [← HQ.out]; exact hneg), hp.out.2⟩, hb.trans (y.below.mono hb.size)⟩
        case measure => simp [intOf]; omega
      · have hnegd : decide (q < 0) = false := decide_eq_false hneg
        have hge : 0 ≤ q := by omega
        clear hneg
        go_wp2_with fail
        refine wp_region_calm (by kernel_rfl) (by kernel_rfl) ?_
        repeat (go_big_quiet_step ((go_at_call 79; exact calm (HCALL.out _))))
        refine wpQuiet_nil ?_
        rintro _ ⟨y, rfl⟩
        go_wp2_with fail
        go_roundw
        case rel => exact ⟨i, h, rfl, by first | rfl | go_num, by omega, by omega, Lib.hid ⟨hp.out.1, fun k z hk hz => by
          by_cases hkh : k = h
          · subst hkh
            have := HLH.out.symm.trans hz
            cases this
            rw [← HQ.out]; exact hge
          · refine Int.not_lt.1 fun hz0 => ?_
            have hx0 := HM.out h k x z (by omega) HLH.out hz hz0
            rw [← HQ.out] at hx0
            omega⟩, hb.trans (y.below.mono hb.size)⟩
        case measure => simp [intOf]; omega
    · obtain rfl : i = j := by omega
      have HH := Lib.hid (has_at HS.out hp.out.1 hp.out.2)
      by_cases hin : i < n
      · have hhr : i < R.length := by have := HN.out; omega
        obtain ⟨x, hx⟩ : ∃ x, R[i]? = some x := ⟨_, List.getElem?_eq_getElem hhr⟩
        have hxe : R[i] = x := (List.getElem?_eq_some_iff.1 hx).2
        obtain ⟨xb, xoff, hao, hblt, a0, a1, a2, a3⟩ := ERow.cells (HV.out.below hbw) hhr
        subst hao
        rw [hxe] at a0 a1 a2 a3
        have hat := HH.out
        rw [hx] at hat
        simp only [] at hat
        obtain ⟨q, hq⟩ : ∃ q, q = entC x t := ⟨_, rfl⟩
        have hcall := fun z => compare_any x t z
        rw [← hq] at hcall hat
        have HCALL := Lib.hid hcall
        have HAT := Lib.hid hat
        clear hcall hat hq hx hxe HH
        have hqe : (q == 0) = decide (q = 0) := by by_cases h : q = 0 <;> simp [h]
        have i0' : (0 : Int) ≤ (i : Int) := by omega
        have i1' : (i : Int) < (n : Int) := by omega
        go_wp2_with fail
        refine wp_region_calm (by kernel_rfl) (by kernel_rfl) ?_
        repeat (go_big_quiet_step ((go_at_call 79; exact calm (HCALL.out _))))
        refine wpQuiet_nil ?_
        rintro _ ⟨y, rfl⟩
        have hyb := y.below
        go_wp2_with fail
        go_ret2
        exact ⟨i, by rw [HQQ.out, HAT.out, ← hqe]; rfl, hbw.trans (hyb.mono hbw.size)⟩
      · have hat := HH.out
        rw [List.getElem?_eq_none (by have := HN.out; omega)] at hat
        simp only [] at hat
        have HAT := Lib.hid hat
        clear hat HH
        have i1' : ¬ ((i : Int) < (n : Int)) := by omega
        go_wp2_with fail
        refine wp_region_calm (by kernel_rfl) (by kernel_rfl) ?_
        repeat (go_big_quiet_step (fail))
        refine wpQuiet_nil ?_
        rintro _ ⟨y, rfl⟩
        have hyb := y.below
        go_wp2_with fail
        go_ret2
        exact ⟨i, by rw [HQQ.out, HAT.out]; rfl, hbw.trans (hyb.mono hbw.size)⟩
end Go.Proofs.YtmfhmcegmeinnaaGreatDoor.Diffs
