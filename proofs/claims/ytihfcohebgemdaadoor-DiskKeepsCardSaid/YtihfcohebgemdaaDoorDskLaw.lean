/- Layer 11 (disk): the walk of the law DiskKeeps. -/
import Derived.Test.YtihfcohebgemdaaDoorDskAlive
set_option linter.unusedSimpArgs false
set_option linter.unusedVariables false
namespace Go.Proofs.YtihfcohebgemdaaDoor.Dsk
open Go.RowKit Go.Maps Go.Sort Go.Proofs.YtihfcohebgemdaaDoor.Mrk Go.Proofs.YtihfcohebgemdaaDoor.Spare Go.Proofs.YtihfcohebgemdaaDoor.Mut
set_option linter.unusedSectionVars false
variable [Inhabited Lim]

theorem few_goes {s : St} (h : Few s) (h2 : s.ops ≤ 999) : Few (goesS s).2 := by
  obtain ⟨⟨a, b⟩, c, d⟩ := h
  unfold goesS
  split
  · exact ⟨⟨a, b⟩, c, d⟩
  · split
    · exact ⟨⟨by show 0 ≤ s.ops + 1; omega, by show s.ops + 1 ≤ 1000; omega⟩, c, d⟩
    · split
      · exact ⟨⟨by show 0 ≤ s.ops + 1; omega, by show s.ops + 1 ≤ 1000; omega⟩, by show 0 ≤ s.left - 1; omega, by show s.left - 1 ≤ _; omega⟩
      · exact ⟨⟨by show 0 ≤ s.ops + 1; omega, by show s.ops + 1 ≤ 1000; omega⟩, c, d⟩
/-- A sync, told shortly. -/
def SyncQ (d m F : Nat) (room : Int) (nm : ByteArray) (bv : Value) (l : List Nat) (k : Nat) (w : World) (e : Ending) (w' : World) : Prop :=
  ∃ (c : Int) (s' : St) (k' : Nat), e = .returned (.int .i64 c) ∧ One w' d m F room s' nm bv l k' ∧ (k ≤ k' ∧ k' ≤ l.length ∧ (c = 0 → k' = l.length)) ∧ Below m w w'
theorem sync_short {d m F : Nat} {room : Int} {s : St} {nm : ByteArray} {bv : Value} {l : List Nat} {k : Nat} {w : World} {e : Ending} {w' : World} (h : SyncP d m F room s nm bv l k w e w') (hk : k ≤ l.length) : SyncQ d m F room nm bv l k w e w' := by
  obtain ⟨⟨h1, rfl, h2⟩ | ⟨h1, rfl, h2⟩, hb⟩ := h
  · exact ⟨110, s, k, rfl, h2, ⟨Nat.le_refl _, hk, fun e => by omega⟩, hb⟩
  · refine ⟨_, _, _, rfl, h2, ⟨?_, ?_, fun e => if_pos e⟩, hb⟩
    · split
      · exact hk
      · exact Nat.le_refl _
    · split
      · exact Nat.le_refl _
      · exact hk

theorem keeps_out (ao bo : Option Addr) (na nb ac bc : Nat) (after keep : Int) (w : World) (h : 5000 < na ∨ 5000 < nb ∨ na = 0) :
    Calls Tryd.prog 3 #[.slice ao na ac, .slice bo nb bc, .agg #[.int .i64 after, .int .i64 keep]] w (AliveP w) := by
  by_cases c1 : 5000 < na
  · have g1 : decide ((na : Int) > 5000) = true := decide_eq_true (by omega)
    go_enter Tryd.func3, Tryd.ntmps3
    go_wp2
    go_ret
    exact ⟨rfl, (Below.refl _ _).alloc (Nat.le_refl _) _⟩
  · have g1 : decide ((na : Int) > 5000) = false := decide_eq_false (by omega)
    by_cases c2 : 5000 < nb
    · have g2 : decide ((nb : Int) > 5000) = true := decide_eq_true (by omega)
      go_enter Tryd.func3, Tryd.ntmps3
      go_wp2
      go_ret
      exact ⟨rfl, (Below.refl _ _).alloc (Nat.le_refl _) _⟩
    · have g2 : decide ((nb : Int) > 5000) = false := decide_eq_false (by omega)
      obtain rfl : na = 0 := by omega
      go_enter Tryd.func3, Tryd.ntmps3
      go_wp2
      go_ret
      exact ⟨rfl, (Below.refl _ _).alloc (Nat.le_refl _) _⟩

set_option maxRecDepth 100000 in
set_option maxHeartbeats 4000000 in
theorem keeps_in (ao bo : Option Addr) (ac bc : Nat) (A B : List Nat) (after keep : Int) (w : World) (hT : Tabs w) (hA : BRow w (.slice ao A.length ac) A) (hB : BRow w (.slice bo B.length bc) B)
    (h1 : A.length ≤ 5000) (h2 : B.length ≤ 5000) (h3 : 0 < A.length) (ha : -9223372036854775808 ≤ after ∧ after ≤ 9223372036854775807) (hk : -9223372036854775808 ≤ keep ∧ keep ≤ 9223372036854775807) :
    Calls Tryd.prog 3 #[.slice ao A.length ac, .slice bo B.length bc, .agg #[.int .i64 after, .int .i64 keep]] w (AliveP w) := by
  have HT := Lib.hid hT
  have HA := Lib.hid hA
  have HB := Lib.hid hB
  have HAF := Lib.hid ha
  have HKP := Lib.hid hk
  obtain ⟨na, hna⟩ : ∃ n, n = A.length := ⟨_, rfl⟩
  obtain ⟨nb, hnb⟩ : ∃ n, n = B.length := ⟨_, rfl⟩
  have HN := Lib.hid (And.intro hna hnb)
  obtain ⟨i0, hi, hz0, hz1, hz2⟩ := info_parts_B
  have HI := Lib.hid (And.intro hi (And.intro hz0 (And.intro hz1 hz2)))
  rw [← hna, ← hnb]
  rw [← hna] at h1 h3
  rw [← hnb] at h2
  clear hT hA hB ha hk hna hnb hi hz0 hz1 hz2
  have g1 : decide ((na : Int) > 5000) = false := decide_eq_false (by omega)
  have g2 : decide ((nb : Int) > 5000) = false := decide_eq_false (by omega)
  have g3 : ((na : Int) == 0) = false := by simp; omega
  go_enter Tryd.func3, Tryd.ntmps3
  go_wp2_with fail
  obtain ⟨W0, hW0⟩ : ∃ W, W = w.alloc (.cells #[.int .i64 after, .int .i64 keep] 24) := ⟨_, rfl⟩
  have e0 : W0.cell? ⟨w.heap.size, 0, none⟩ = some (.int .i64 after) := by rw [hW0]; go_simp
  have e1 : W0.cell? ⟨w.heap.size, 1, none⟩ = some (.int .i64 keep) := by rw [hW0]; go_simp
  have hs0 : W0.heap.size = w.heap.size + 1 := by rw [hW0]; simp
  have hb0 : Below w.heap.size w W0 := by rw [hW0]; exact (Below.refl _ _).alloc (Nat.le_refl _) _
  rw [← hW0]
  obtain ⟨m, hm⟩ : ∃ m, m = W0.heap.size := ⟨_, rfl⟩
  have hmc : w.heap.size < m := by omega
  have HE := Lib.hid (fun W' (h : Below m W0 W') => show W'.cell? ⟨w.heap.size, 0, none⟩ = some (.int .i64 after) ∧ W'.cell? ⟨w.heap.size, 1, none⟩ = some (.int .i64 keep) from
    ⟨(h.cell (p := ⟨w.heap.size, 0, none⟩) hmc).trans e0, (h.cell (p := ⟨w.heap.size, 1, none⟩) hmc).trans e1⟩)
  have HW := Lib.hid (fun W' (h : Below m W0 W') => show Below w.heap.size w W' from hb0.trans (h.mono (by omega)))
  clear hW0 e0 e1 hb0 hs0
  refine (new_any 10000 W0 (by omega) (by omega)).mono ?_
  rintro e w1 ⟨rfl, hd1, hf1, hb1, hs1⟩
  rw [← hm] at hd1 hf1 hb1 hs1 ⊢
  have HD1 := Lib.hid hd1
  have HF1 := Lib.hid hf1
  have HB1 := Lib.hid hb1
  have HMS := Lib.hid hm
  have HS1 := Lib.hid hs1
  clear hd1 hf1 hb1 hm hs1
  go_wp2_with fail
  have HA1 := Lib.hid (HA.out.below (HW.out _ HB1.out))
  have HT1 := Lib.hid (HT.out.below (HW.out _ HB1.out))
  have hap := append_new (m + 1) m 10000 ⟨false, false, 0, 0⟩ ⟨#[102]⟩ _ A w1 HD1.out HF1.out (by omega) rfl (by unfold Few; simp) (by decide) (key_f w1 HT1.out) HA1.out (by have := HN.out.1; omega) (by decide)
  rw [← HN.out.1] at hap
  refine hap.mono ?_
  clear hap
  rintro e w2 ⟨F, bv2, rfl, ho2, hb2⟩
  rw [show goesS ⟨false, false, 0, 0⟩ = (0, ⟨false, false, 0, 1⟩) from rfl] at ho2 ⊢
  have HO2 := Lib.hid ho2
  have HB2 := Lib.hid (HB1.out.trans hb2)
  clear ho2 hb2
  go_wp2_with fail
  refine (sync_any (m + 1) m F 10000 _ _ _ _ _ w2 HO2.out (by unfold Few; simp) (by decide)).mono ?_
  rintro e w3 ⟨⟨h, -⟩ | ⟨-, rfl, ho3⟩, hb3⟩
  · cases h
  rw [show goesS ⟨false, false, 0, 1⟩ = (0, ⟨false, false, 0, 2⟩) from rfl] at ho3 ⊢
  simp only [if_true] at ho3
  have HO3 := Lib.hid ho3
  have HB3 := Lib.hid (HB2.out.trans hb3)
  clear ho3 hb3
  obtain ⟨c0, -⟩ := HE.out w3 HB3.out
  go_wp2_with fail
  clear c0
  refine (arm_any (m + 1) m 10000 after _ w3 HO3.out.dk HAF.out).mono ?_
  rintro e w4 ⟨rfl, hd4, hg4⟩
  have hm3 := HO3.out.files.lt
  obtain ⟨s4, hs4⟩ : ∃ s : St, s = { off := false, armed := true, left := max after 0, ops := 2 } := ⟨_, rfl⟩
  have hd4' : DkAt w4 (m + 1) m 10000 s4 := by rw [hs4]; exact hd4
  have hoff4 : s4.off = false := by rw [hs4]
  have hfew4 : Few s4 := by rw [hs4]; have := HAF.out; exact ⟨⟨by show (0 : Int) ≤ 2; decide, by show (2 : Int) ≤ 1000; decide⟩, by show 0 ≤ max after 0; omega, by show max after 0 ≤ _; omega⟩
  have hops4 : s4.ops ≤ 999 := by rw [hs4]; show (2 : Int) ≤ 999; decide
  have HO4 := Lib.hid (HO3.out.state hd4' hg4)
  have HB4 := Lib.hid (HB3.out.trans (below_at hg4 (by omega) (by omega)))
  have HS4 := Lib.hid (And.intro hoff4 (And.intro hfew4 hops4))
  clear hd4 hd4' hg4 hoff4 hfew4 hops4 hs4
  go_wp2_with fail
  have HB4r := Lib.hid (HB.out.below (HW.out _ HB4.out))
  have HT4 := Lib.hid (HT.out.below (HW.out _ HB4.out))
  have hap := append_more (m + 1) m F 10000 s4 ⟨#[102]⟩ _ _ _ _ B w4 HO4.out HS4.out.1 HS4.out.2.1 (by decide) (key_f w4 HT4.out) HB4r.out (by have := HN.out; omega) (by decide)
  rw [← HN.out.2] at hap
  refine hap.mono ?_
  clear hap
  rintro e w5 ⟨bv5, rfl, ho5, hb5⟩
  have HO5 := Lib.hid ho5
  have HB5 := Lib.hid (HB4.out.trans hb5)
  have HF5 := Lib.hid (few_goes HS4.out.2.1 HS4.out.2.2)
  obtain ⟨p1, hp1⟩ : ∃ c, c = (goesS s4).1 := ⟨_, rfl⟩
  rw [← hp1]
  clear ho5 hb5 hp1
  go_wp2_with fail
  refine ((sync_any (m + 1) m F 10000 _ _ _ _ _ w5 HO5.out HF5.out (by decide)).mono fun e w' h => sync_short h (by simp)).mono ?_
  rintro e w6 ⟨p2, s6, k6, rfl, ho6, hk6, hb6⟩
  have HO6 := Lib.hid ho6
  have HB6 := Lib.hid (HB5.out.trans hb6)
  have HK6 := Lib.hid hk6
  clear ho6 hb6 hk6
  go_wp2_with fail
  refine (crash_any (m + 1) m 10000 _ w6 HO6.out.dk).mono ?_
  rintro e w7 ⟨rfl, hd7, hg7⟩
  have hm6 := HO6.out.files.lt
  have HO7 := Lib.hid (HO6.out.state hd7 hg7)
  have HB7 := Lib.hid (HB6.out.trans (below_at hg7 (by omega) (by omega)))
  clear hd7 hg7
  obtain ⟨-, c1⟩ := HE.out w7 HB7.out
  go_wp2_with fail
  clear c1
  have hlen : (A ++ B).length = na + nb := by rw [List.length_append, ← HN.out.1, ← HN.out.2]
  have HLEN := Lib.hid hlen
  refine (up_any (m + 1) m F 10000 _ ⟨#[102]⟩ _ (A ++ B) k6 keep w7 HO7.out rfl (by have := HK6.out.1; have := HN.out.1; omega) HK6.out.2.1 (by rw [hlen]; omega) (by decide) HKP.out).mono ?_
  rintro e w8 ⟨bv8, rfl, ho8, hb8⟩
  rw [hlen] at ho8
  obtain ⟨g, hg⟩ : ∃ g, g = upN (na + nb) k6 keep := ⟨_, rfl⟩
  rw [← hg] at ho8
  have hgl : na ≤ g ∧ g ≤ na + nb ∧ (p2 = 0 → g = na + nb) := by
    have h := HK6.out
    rw [hlen] at h
    have hu := upN_le (keep := keep) h.2.1
    rw [← hg] at hu
    have := HN.out.1
    refine ⟨by omega, hu.2, fun e => ?_⟩
    have := h.2.2 e
    omega
  have HGL := Lib.hid hgl
  have HO8 := Lib.hid ho8
  have HB8 := Lib.hid (HB7.out.trans hb8)
  clear ho8 hb8 hg hgl hlen
  go_wp2_with fail
  have HA8 := Lib.hid (HA.out.below (HW.out _ HB8.out))
  have hcl := cloneB_any _ A w8 HA8.out (by have := HN.out.1; omega)
  rw [← HN.out.1] at hcl
  refine hcl.mono ?_
  clear hcl
  rintro e w9 ⟨v9, rfl, hs9, hb9⟩
  obtain ⟨vo9, vc9, rfl⟩ := row_form (Spare.own hs9)
  have hm8 := HO8.out.files.lt
  have HS9 := Lib.hid (show Spare w9 w8.heap.size 5 [.int .u8 0] (.slice vo9 na vc9) na (A.flatMap enB) from by have h := hs9; unfold SpB at h; rw [← HN.out.1] at h; exact h)
  have HO9 := Lib.hid (HO8.out.below hb9)
  have HB9 := Lib.hid hb9
  have HB9m := Lib.hid (HB8.out.trans (hb9.mono (by omega)))
  have HSRC := Lib.hid (Mut.lst_src enB_len (by decide) (HB.out.below (HW.out _ HB9m.out)))
  rw [← HN.out.1]
  rw [← HN.out.2] at HSRC
  have hle9 := hb9.size
  clear hs9 hb9
  go_wp2_with (at_builtin; refine wpList_append_spareAny rfl _ _ 22 rfl w8.heap.size 5 i0 (.int .u8 0) [.int .u8 0] 1 Tryd.underlying22 HI.out.1 HI.out.2.1 rfl HI.out.2.2.1 HI.out.2.2.2 (by decide) (.slice vo9 na vc9) na (A.flatMap enB) rfl HS9.out bo nb bc (B.flatMap enB) rfl ?qc1 ?qc2 ?qc3 ?qc4 ?qc5 ?qc6 ?_)
  case qc1 => rw [flat_enB, List.length_map, ← HN.out.2]; exact (Nat.mul_one _).symm
  case qc2 => exact HSRC.out
  case qc3 => exact bytes_one B
  case qc4 => unfold maxLen; omega
  case qc5 => omega
  case qc6 => omega
  intro v' w10 hs10 hg10 _ _
  obtain ⟨vo10, vc10, rfl⟩ := row_form (Spare.own hs10)
  have HR10 := Lib.hid (show SpB w10 w8.heap.size (.slice vo10 (na + nb) vc10) (A ++ B) from by unfold SpB; rw [HLEN.out, List.flatMap_append]; exact hs10)
  have HB10 := Lib.hid (below_opt hg10 (fun j hj => ((Spare.own HS9.out).lt j hj).1) hle9)
  have HB810 := Lib.hid (HB9.out.trans HB10.out)
  have HO10 := Lib.hid (HO8.out.below HB810.out)
  have HB10m := Lib.hid (HB8.out.trans (HB810.out.mono (by omega)))
  clear hs10 hg10
  go_wp2_with fail
  refine (read_any (m + 1) m F 10000 _ ⟨#[102]⟩ _ _ _ w10 HO10.out rfl (by decide) (by have := HGL.out; rw [List.length_take]; omega)).mono ?_
  rintro e w11 ⟨v11, rfl, hs11, hb11⟩
  obtain ⟨vo11, vc11, rfl⟩ := row_form (Spare.own hs11)
  have hgt : ((A ++ B).take g).length = g := by rw [List.length_take, HLEN.out]; have := HGL.out; omega
  have HR11 := Lib.hid (row_of (spB_own hs11))
  have hrow := row_of (spB_own HR10.out)
  have hcap : na + nb ≤ vc10 := by
    obtain ⟨ao', cap', hv', h1', -⟩ := hrow
    injection hv' with e1 e2 e3
    have := HLEN.out
    omega
  have hr10 := HR10.out
  have HRT := Lib.hid (row_take (n := g) (by rw [HLEN.out]; exact hrow) (by rw [HLEN.out]; exact HGL.out.2.1))
  have HT2 := Lib.hid (HRT.out.below hb11)
  have HB11 := Lib.hid (HB10m.out.trans (hb11.mono (by have := HO10.out.files.lt; omega)))
  rw [hgt] at HR11 ⊢
  have HGT := Lib.hid hgt
  have gA : na ≤ g := HGL.out.1
  have gB : g ≤ na + nb := HGL.out.2.1
  clear hs11 hb11 hrow hr10 hgt
  have HEQ := Lib.hid (equalB_lit true vo11 vo10 vc11 vc10 ((A ++ B).take g) ((A ++ B).take g) w11 (eqB_self _) (by rw [HGT.out]; exact HR11.out) (by rw [HGT.out]; exact HT2.out) (by rw [HGT.out]; omega) (by rw [HGT.out]; omega))
  rw [HGT.out] at HEQ
  have t1 : decide ((g : Int) < (na : Int)) = false := decide_eq_false (by omega)
  have t2 : decide ((g : Int) > ((na + nb : Nat) : Int)) = false := decide_eq_false (by omega)
  go_wp2_with fail
  refine HEQ.out.mono ?_
  rintro e w12 ⟨rfl, hb12⟩
  have HB12 := Lib.hid (HB11.out.trans (hb12.mono (by have := HB11.out.size; have := HMS.out; omega)))
  have HT12 := Lib.hid (HT.out.below (HW.out _ HB12.out))
  clear hb12 HEQ t1 t2
  have HFIN := Lib.hid (fun (W' : World) (h : Below w12.heap.size w12 W') => show Below w.heap.size w W' from (HW.out _ HB12.out).trans (h.mono (HW.out _ HB12.out).size))
  have hlast : p1 = 0 → p2 = 0 → ((g : Int) == ((na + nb : Nat) : Int)) = true := fun _ e2 => by
    have := HGL.out.2.2 e2
    subst this
    simp
  cases c1 : (p1 != 0) <;> cases c2 : (p2 != 0)
  · have h1 : p1 = 0 := by simpa using c1
    have h2 : p2 = 0 := by simpa using c2
    have hq := hlast h1 h2
    have hq2 : ((g : Int) == (na : Int) + (nb : Int)) = true := by have := HGL.out.2.2 h2; subst this; simp
    clear hlast h1 h2
    go_wp2_with fail
    refine (alive_any w12 HT12.out).mono ?_
    rintro e w13 ⟨rfl, hb13⟩
    have HF := Lib.hid (HFIN.out _ hb13)
    clear hb13
    go_wp2_with fail
    go_ret
    exact ⟨rfl, HF.out⟩
  all_goals
    clear hlast
    go_wp2_with fail
    refine (alive_any w12 HT12.out).mono ?_
    rintro e w13 ⟨rfl, hb13⟩
    have HF := Lib.hid (HFIN.out _ hb13)
    clear hb13
    go_wp2_with fail
    go_ret
    exact ⟨rfl, HF.out⟩

theorem diskKeeps_any (v0 v1 : Value) (A B : List Nat) (after keep : Int) (w : World) (hT : Tabs w) (hA : BRow w v0 A) (hB : BRow w v1 B)
    (ha : -9223372036854775808 ≤ after ∧ after ≤ 9223372036854775807) (hk : -9223372036854775808 ≤ keep ∧ keep ≤ 9223372036854775807) :
    Calls Tryd.prog 3 #[v0, v1, .agg #[.int .i64 after, .int .i64 keep]] w (AliveP w) := by
  obtain ⟨ao, ac, rfl, -, -⟩ := Lst.form hA
  obtain ⟨bo, bc, rfl, -, -⟩ := Lst.form hB
  by_cases big : 5000 < A.length ∨ 5000 < B.length ∨ A.length = 0
  · exact keeps_out ao bo _ _ ac bc after keep w big
  · exact keeps_in ao bo ac bc A B after keep w hT hA hB (by omega) (by omega) (by omega) ha hk
end Go.Proofs.YtihfcohebgemdaaDoor.Dsk
