/- The walk of state.Content.wipe (layer 8). -/
import Derived.Test.YtgcfhlleaekgfaaDoorConCell
import Derived.Test.YtgcfhlleaekgfaaDoorMutSort
namespace Go.Proofs.YtgcfhlleaekgfaaDoor.Mut
open Go.RowKit Go.Sort Go.Proofs.YtgcfhlleaekgfaaDoor.Ord

theorem C3.set0 {w : World} {k : Nat} {a b d : Value} (h : C3 w k a b d) (u : Value) : C3 (w.setCell ⟨k, 0, none⟩ u) k u b d := by
  obtain ⟨h0, h1, h2, h3, h4, h5, h6⟩ := h
  exact ⟨by simpa using h0, by go_simp, by go_simp, by go_simp, by go_simp, by go_simp, by go_simp⟩
theorem C3.set1 {w : World} {k : Nat} {a b d : Value} (h : C3 w k a b d) (u : Value) : C3 (w.setCell ⟨k, 1, none⟩ u) k a u d := by
  obtain ⟨h0, h1, h2, h3, h4, h5, h6⟩ := h
  exact ⟨by simpa using h0, by go_simp, by go_simp, by go_simp, by go_simp, by go_simp, by go_simp⟩
theorem grown_cell (w : World) (k o : Nat) (u : Value) : w.grownBy (w.setCell ⟨k, o, none⟩ u) (some k) := grown_setCell (World.grownBy.refl _ _) (Or.inl rfl) _

set_option maxHeartbeats 4000000 in
set_option maxRecDepth 100000 in
theorem wipe_at (ao bo dd : Option Addr) (na ac nb bc nd dc : Nat) (c : Con) (S : Mu → Prop) (n : Nat) (m : Mu) (xo : Option Addr) (xn xc : Nat) (w : World) (hc : Lies w (.slice ao na ac) (.slice bo nb bc) (.slice dd nd dc) c) (hR : Reps S c) (hO : Okc c n) (hn : n ≤ 100000)
    (hx : Over w (m, .slice xo xn xc)) (hr : rightF m = true) (hk : isW m) :
    Calls Tryd.prog 21 #[.agg #[.slice ao na ac, .slice bo nb bc, .slice dd nd dc], vM (m, .slice xo xn xc)] w (AddP w S m n) := by
  obtain ⟨l1, l2, l3⟩ := hO.lens
  obtain ⟨R, eR, hcells⟩ := hc.cells
  obtain ⟨T, eT, hwipes⟩ := hc.wipes
  have hRl : R.length = c.cells.length := by rw [← eR]; simp
  have hTl : T.length = c.wipes.length := by rw [← eT]; simp
  obtain ⟨_, _, e0, -, -⟩ := hcells.form
  obtain ⟨rfl⟩ : na = R.length := by injection e0
  obtain ⟨_, _, e1, -, -⟩ := hwipes.form
  obtain ⟨rfl⟩ : nb = T.length := by injection e1
  clear e0 e1
  obtain ⟨na, hna⟩ : ∃ k, k = R.length := ⟨_, rfl⟩
  obtain ⟨nb, hnb⟩ : ∃ k, k = T.length := ⟨_, rfl⟩
  rw [← hna, ← hnb] at hc ⊢
  rw [← hna] at hcells
  rw [← hnb] at hwipes
  have HF1 := Lib.hid (fun (W : World) (hW : RowKit.Below w.heap.size w W) (hA : A0 W (w.heap.size + 1) (m, .slice xo xn xc)) => contains_any (.slice bo nb bc) T 43 #[.pointer (some ⟨w.heap.size + 1, 0, none⟩)] (fun x => withinB x m) none W (hwipes.row.below hW) hwipes.forms (by omega) (ask_wipe1 (m, .slice xo xn xc) _ none W hA ⟨_, _, _, rfl⟩ (by simp)) (enters_of Tryd.func43 (by kernel_rfl) rfl))
  have HF2 := Lib.hid (fun (W : World) (v : Value) (hown : W.ownsRow (w.heap.size + 1 + 1 + 1) 34 10 v T.length (T.flatMap enM)) (hA : A0 W (w.heap.size + 1) (m, .slice xo xn xc)) => delete_any (w.heap.size + 1 + 1 + 1) v T 46 #[.pointer (some ⟨w.heap.size + 1, 0, none⟩)] (fun x => withinB m x) W hown hwipes.forms (by omega) (ask_wipe2 (m, .slice xo xn xc) _ _ W hA ⟨_, _, _, rfl⟩ (fun e => by have := (hown.lt _ e).1; omega)) (enters_of Tryd.func46 (by kernel_rfl) rfl))
  have HF3 := Lib.hid (fun (W : World) (v : Value) (hown : W.ownsRow (w.heap.size + 1 + 1 + 1) 34 10 v R.length (R.flatMap enM)) (hA : A0 W (w.heap.size + 1) (m, .slice xo xn xc)) => delete_any (w.heap.size + 1 + 1 + 1) v R 47 #[.pointer (some ⟨w.heap.size + 1, 0, none⟩)] (fun x => hitsB m x.key x.at_) W hown hcells.forms (by omega) (ask_wipe3 (m, .slice xo xn xc) _ _ W hA ⟨_, _, _, rfl⟩ (fun e => by have := (hown.lt _ e).1; omega)) (enters_of Tryd.func47 (by kernel_rfl) rfl))
  have HC2 : Hid (∀ W, RowKit.Below w.heap.size w W → Calls Tryd.prog 40 #[.slice bo nb bc] W (OwnP 34 10 enM W T)) := Lib.hid (fun W hW => by
    have h := hwipes.below hW
    rw [hnb] at h ⊢
    exact cloneM_any bo bc T W h.row (flatM_one h.forms) (by omega))
  have HC3 : Hid (∀ W, RowKit.Below w.heap.size w W → Calls Tryd.prog 40 #[.slice ao na ac] W (OwnP 34 10 enM W R)) := Lib.hid (fun W hW => by
    have h := hcells.below hW
    rw [hna] at h ⊢
    exact cloneM_any ao ac R W h.row (flatM_one h.forms) (by omega))
  have hA := A0.of ((At.new (w.alloc (.cells #[.slice ao na ac, .slice bo nb bc, .slice dd nd dc] 25)) 34 (m, .slice xo xn xc)).below ((Below.refl _ _).alloc (by simp) (.cells #[.slice none 0 0, .slice none 0 0, .slice none 0 0] 25)))
  rw [World.size_alloc] at hA
  have hP := (((C3.new w (.slice ao na ac) (.slice bo nb bc) (.slice dd nd dc)).below ((Below.refl _ _).alloc (Nat.le_refl _) (.cells (enM (m, .slice xo xn xc)).toArray 34))).below ((Below.refl _ _).alloc (by simp) (.cells #[.slice none 0 0, .slice none 0 0, .slice none 0 0] 25)))
  have hT := C3.new ((w.alloc (.cells #[.slice ao na ac, .slice bo nb bc, .slice dd nd dc] 25)).alloc (.cells (enM (m, .slice xo xn xc)).toArray 34)) (.slice none 0 0) (.slice none 0 0) (.slice none 0 0)
  rw [World.size_alloc, World.size_alloc] at hT
  have HP := Lib.hid hP
  have HT := Lib.hid hT
  have HA := Lib.hid hA
  obtain ⟨C, hC⟩ : ∃ C, C = (T.map (·.1)).any (fun x => withinB x m) := ⟨_, rfl⟩
  rw [← hC] at HF1
  have HCC := Lib.hid hC
  have HNA := Lib.hid (And.intro hna hnb)
  have HLEN := Lib.hid (show R.length ≤ 100000 ∧ T.length ≤ 100000 from ⟨by omega, by omega⟩)
  have HL := Lib.hid hc
  have HR := Lib.hid hR
  have HO := Lib.hid hO
  have HX := Lib.hid hx
  have HE := Lib.hid (And.intro eR eT)
  have HCE := Lib.hid (And.intro hcells hwipes)
  have HRR := Lib.hid hr
  have HK := Lib.hid hk
  clear hA hP hT hC hna hnb hc hR hO hx eR eT hcells hwipes hr hk hRl hTl
  obtain ⟨at1, ak1, akey1, afin1, aval1, aex1, ⟨ap1, al1, aw1⟩, aov1⟩ := m
  unfold vM
  unfold enM at HA HP HT
  simp only [] at HA HP HT ⊢
  go_enter Tryd.func21, Tryd.ntmps21
  go_wp2_with fail
  have hB := Lib.hid (((((Below.refl _ w).alloc (Nat.le_refl _) (.cells #[.slice ao na ac, .slice bo nb bc, .slice dd nd dc] 25)).alloc (by simp) (.cells #[.int .i64 at1, .int .i64 ak1, .string akey1, .string afin1, .string aval1, .int .i64 aex1, .int .i64 ap1, .int .i64 al1, .int .i64 aw1, .slice xo xn xc] 34))).alloc (by simp; omega) (.cells #[.slice none 0 0, .slice none 0 0, .slice none 0 0] 25))
  refine (HF1.out _ hB.out HA.out).mono ?_
  rintro e w1 ⟨rfl, hb⟩
  have HB1 := Lib.hid (below_then hB.out (Nat.le_refl _) hb)
  have HA1 := Lib.hid (HA.out.below hb)
  have HP1 := Lib.hid (HP.out.below hb)
  have HT1 := Lib.hid (HT.out.below hb)
  clear hb
  cases C
  · obtain ⟨-, p0, p1, p2, -⟩ := HP1.out
    go_wp2_with fail
    refine (HC2.out _ HB1.out).mono ?_
    rintro e w2 ⟨v2, rfl, hown2, hb2⟩
    have hs1 := HT1.out.lt
    have hown2 := own_base (n₀ := w.heap.size + 1 + 1 + 1) hown2 (by omega)
    have HB2 := Lib.hid (below_then HB1.out (Nat.le_refl _) hb2)
    have HA2 := Lib.hid (HA1.out.below hb2)
    have HP2 := Lib.hid (HP1.out.below hb2)
    have HT2 := Lib.hid (HT1.out.below hb2)
    have HO2 := Lib.hid hown2
    clear hb2 hown2 p0 p1 p2
    go_wp2_with fail
    refine (HF2.out _ v2 HO2.out HA2.out).mono ?_
    rintro e w3 ⟨v3, rfl, hown3, hg3, hv3⟩
    obtain ⟨vo3, vc3, hv3e⟩ := own_slice hown3
    have hr2 : ∀ k, k < w.heap.size + 1 + 1 + 1 → v2.ownBlock ≠ some k := fun k hk e => by have := (HO2.out.lt k e).1; omega
    have HB3 := Lib.hid (HB2.out.grown hg3 HB2.out.size (fun k hk => by have := (HO2.out.lt k hk).1; omega))
    have HA3 := Lib.hid (HA2.out.grown hg3 (hr2 _ (by omega)))
    have HP3 := Lib.hid (HP2.out.grown hg3 (hr2 _ (by omega)))
    have HT3 := Lib.hid (HT2.out.grown hg3 (hr2 _ (by omega)))
    obtain ⟨K, hK⟩ : ∃ K, K = T.filter (fun x => !withinB ⟨at1, ak1, akey1, afin1, aval1, aex1, ⟨ap1, al1, aw1⟩, aov1⟩ x.1) := ⟨_, rfl⟩
    rw [← hK] at hown3 hv3e
    have hKl : K.length ≤ 100000 := by rw [hK]; exact Nat.le_trans (List.length_filter_le _ _) HLEN.out.2
    subst hv3e
    have HO3 := Lib.hid hown3
    have HKK := Lib.hid hK
    clear hown3 hg3 hv3 hr2 hK
    obtain ⟨kn, hkn⟩ : ∃ q, q = K.length := ⟨_, rfl⟩
    rw [← hkn] at HO3 hKl ⊢
    have HKN := Lib.hid hkn
    clear hkn
    obtain ⟨i0, hi, hz0, hz1, hz2⟩ := info_parts info_M
    have HI := Lib.hid hi
    have HZ0 := Lib.hid hz0
    have HZ1 := Lib.hid hz1
    have HZ2 := Lib.hid hz2
    clear hi hz0 hz1 hz2
    have HONE : Hid (∀ u ∈ enM (⟨at1, ak1, akey1, afin1, aval1, aex1, ⟨ap1, al1, aw1⟩, aov1⟩, .slice xo xn xc), u.oneCell' = true) := Lib.hid (by have := flatM_one (l := [((⟨at1, ak1, akey1, afin1, aval1, aex1, ⟨ap1, al1, aw1⟩, aov1⟩, .slice xo xn xc) : Ro)]) (fun y hy => by rw [List.mem_singleton.1 hy]; exact ⟨xo, xn, xc, rfl⟩); simpa using this)
    have HNEW : Hid (∀ j u, (enM (⟨at1, ak1, akey1, afin1, aval1, aex1, ⟨ap1, al1, aw1⟩, aov1⟩, .slice xo xn xc))[j]? = some u → (w3.alloc (.cells #[.int .i64 at1, .int .i64 ak1, .string akey1, .string afin1, .string aval1, .int .i64 aex1, .int .i64 ap1, .int .i64 al1, .int .i64 aw1, .slice xo xn xc] 34)).cell? ((⟨w3.heap.size, 0, none⟩ : Addr).add j) = some u) := Lib.hid (new_cells _ _ _)
    have hs3 := HT3.out.lt
    obtain ⟨-, a0, a1, a2, a3, a4, a5, a6, a7, a8, a9⟩ := HA3.out
    simp only [] at a0 a1 a2 a3 a4 a5 a6 a7 a8 a9
    obtain ⟨-, p0, p1, p2, q0, q1, q2⟩ := HP3.out
    go_wp2_with (at_builtin; refine wpList_append_own _ rfl _ _ 22 rfl (w.heap.size + 1 + 1 + 1) 34 i0 zeroM 10 120 Tryd.underlying22 HI.out HZ0.out HZ1.out HZ2.out rfl (by decide) (.slice vo3 kn vc3) _ _ rfl (HO3.out.alloc _) ⟨_, 0, none⟩ 1 1 (enM (⟨at1, ak1, akey1, afin1, aval1, aex1, ⟨ap1, al1, aw1⟩, aov1⟩, .slice xo xn xc)) rfl rfl ?c1 ?c2 ?c3 ?c4 ?c5 ?_; (case c1 => exact HNEW.out); (case c2 => exact HONE.out))
    case c3 => unfold maxLen; omega
    case c4 => omega
    case c5 => simp; omega
    intro v4 w4 hown4 hgrow4 _
    obtain ⟨g, cap, rfl⟩ := ownsRow_succ hown4
    have hr3 : ∀ k, k < w.heap.size + 1 + 1 + 1 → (Value.slice vo3 kn vc3).ownBlock ≠ some k := fun k hk e => by have := (HO3.out.lt k e).1; omega
    have hab := ((Below.refl w3.heap.size w3).alloc (Nat.le_refl _) (.cells #[.int .i64 at1, .int .i64 ak1, .string akey1, .string afin1, .string aval1, .int .i64 aex1, .int .i64 ap1, .int .i64 al1, .int .i64 aw1, .slice xo xn xc] 34))
    have HB4 := Lib.hid ((HB3.out.alloc HB3.out.size _).grown hgrow4 (Nat.le_trans HB3.out.size hab.size) (fun k hk => by have := (HO3.out.lt k hk).1; omega))
    have HA4 := Lib.hid ((HA3.out.below hab).grown hgrow4 (hr3 _ (by omega)))
    have HP4 := Lib.hid ((HP3.out.below hab).grown hgrow4 (hr3 _ (by omega)))
    have HT4 := Lib.hid ((HT3.out.below hab).grown hgrow4 (hr3 _ (by omega)))
    have HO4 := Lib.hid hown4
    clear hown4 hgrow4 hr3 hab a0 a1 a2 a3 a4 a5 a6 a7 a8 a9 p0 p1 p2 q0 q1 q2
    obtain ⟨-, p0, p1, p2, q0, q1, q2⟩ := HP4.out
    go_wp2_with fail
    have hg0 := grown_cell w4 w.heap.size 1 (.slice (some ⟨g, 0, none⟩) (kn + 1) cap)
    have hgB : w.heap.size + 1 + 1 + 1 ≤ g := (HO4.out.lt g rfl).1
    obtain ⟨R5, hR5⟩ : ∃ R5 : List Ro, R5 = K ++ [(⟨at1, ak1, akey1, afin1, aval1, aex1, ⟨ap1, al1, aw1⟩, aov1⟩, .slice xo xn xc)] := ⟨_, rfl⟩
    have hL5 : R5.length = kn + 1 := by rw [hR5, HKN.out]; simp
    have hown5 := HO4.out.kept hg0 (Or.inr (fun e => by have e2 : g = w.heap.size := (by injection e); omega))
    have hfl : R5.flatMap enM = K.flatMap enM ++ enM (⟨at1, ak1, akey1, afin1, aval1, aex1, ⟨ap1, al1, aw1⟩, aov1⟩, .slice xo xn xc) := by rw [hR5, List.flatMap_append, List.flatMap_singleton]
    rw [← hfl, ← hL5] at hown5
    have HP5 := Lib.hid (HP4.out.set1 (.slice (some ⟨g, 0, none⟩) (kn + 1) cap))
    have HB5 := Lib.hid (HB4.out.setCell (p := ⟨w.heap.size, 1, none⟩) (Nat.le_refl _) (.slice (some ⟨g, 0, none⟩) (kn + 1) cap))
    have HA5 := Lib.hid (HA4.out.grown hg0 (by intro e; injection e with e; omega))
    have HT5 := Lib.hid (HT4.out.grown hg0 (by intro e; injection e with e; omega))
    have hok : ∀ x ∈ R5, Okay (w4.setCell ⟨w.heap.size, 1, none⟩ (.slice (some ⟨g, 0, none⟩) (kn + 1) cap)) (some g) x := by
      intro x hx
      rw [hR5] at hx
      rcases List.mem_append.1 hx with hx | hx
      · rw [HKK.out] at hx
        have hxT := (List.mem_filter.1 hx).1
        exact ⟨Off.old (HCE.out.2.over x hxT) HB5.out (fun k e => by injection e with e; omega), (small_right (HO.out.right _ (Con.mem_all.2 (Or.inr (Or.inl (by rw [← HE.out.2]; exact List.mem_map.2 ⟨x, hxT, rfl⟩)))))).over⟩
      · rw [List.mem_singleton.1 hx]
        exact ⟨Off.old HX.out HB5.out (fun k e => by injection e with e; omega), (small_right HRR.out).over⟩
    have hsrt := sort_some (w.heap.size + 1 + 1 + 1) g cap R5 _ (by rw [hL5] at hown5 ⊢; exact hown5) hok (by omega)
    rw [hL5] at hsrt
    have HSRT := Lib.hid hsrt
    have HR5 := Lib.hid (And.intro hR5 hL5)
    clear hsrt hok hfl hown5 hg0 hR5 hL5 p0 p1 p2 q0 q1 q2
    refine HSRT.out.mono ?_
    rintro e w6 ⟨rfl, R6, hperm, hpair, hown6, hg6⟩
    have hg6' : w4.grownBy w4 (some g) := World.grownBy.refl _ _
    have HB6 := Lib.hid (HB5.out.grown hg6 HB5.out.size (fun k hk => by have e2 : g = k := (by injection hk); omega))
    have hne6 : ∀ k, k < w.heap.size + 1 + 1 + 1 → (Value.slice (some ⟨g, 0, none⟩) (kn + 1) cap).ownBlock ≠ some k := fun k hk e => by have e2 : g = k := (by injection e); omega
    have HA6 := Lib.hid (HA5.out.grown hg6 (hne6 _ (by omega)))
    have HP6 := Lib.hid (HP5.out.grown hg6 (hne6 _ (by omega)))
    have HT6 := Lib.hid (HT5.out.grown hg6 (hne6 _ (by omega)))
    have HO6 := Lib.hid hown6
    have HPR := Lib.hid (And.intro hperm hpair)
    clear hown6 hg6 hg6' hne6 hperm hpair
    obtain ⟨-, p0, p1, p2, -, -, -⟩ := HP6.out
    go_wp2_with fail
    refine (HC3.out _ HB6.out).mono ?_
    rintro e w7 ⟨v7, rfl, hown7, hb7⟩
    have hs6 := HT6.out.lt
    have hv7 : ∀ k, v7.ownBlock = some k → w6.heap.size ≤ k := fun k e => (hown7.lt k e).1
    have hown7 := own_base (n₀ := w.heap.size + 1 + 1 + 1) hown7 (by omega)
    have HB7 := Lib.hid (below_then HB6.out (Nat.le_refl _) hb7)
    have HA7 := Lib.hid (HA6.out.below hb7)
    have HP7 := Lib.hid (HP6.out.below hb7)
    have HT7 := Lib.hid (HT6.out.below hb7)
    have hO7 := HO6.out.kept (grown_below hb7 none) (Or.inr (by simp [Value.ownBlock]))
    have HO7 := Lib.hid (And.intro hown7 hO7)
    clear hb7 hown7 hO7 p0 p1 p2
    go_wp2_with fail
    refine (HF3.out _ v7 HO7.out.1 HA7.out).mono ?_
    rintro e w8 ⟨v8, rfl, hown8, hg8, hv8⟩
    obtain ⟨vo8, vc8, hv8e⟩ := own_slice hown8
    have hr7 : ∀ k, k < w.heap.size + 1 + 1 + 1 → v7.ownBlock ≠ some k := fun k hk e => by have := (HO7.out.1.lt k e).1; omega
    have HB8 := Lib.hid (HB7.out.grown hg8 HB7.out.size (fun k hk => by have := (HO7.out.1.lt k hk).1; omega))
    have HP8 := Lib.hid (HP7.out.grown hg8 (hr7 _ (by omega)))
    have HT8 := Lib.hid (HT7.out.grown hg8 (hr7 _ (by omega)))
    have hO8 : v7.ownBlock ≠ some g := fun e => by have h1 := hv7 g e; have h2 := (HO6.out.lt g rfl).2; omega
    have HO8 := Lib.hid (HO7.out.2.kept hg8 (Or.inr (fun e => hO8 e.symm)))
    obtain ⟨L, hL⟩ : ∃ L, L = R.filter (fun x => !hitsB ⟨at1, ak1, akey1, afin1, aval1, aex1, ⟨ap1, al1, aw1⟩, aov1⟩ x.1.key x.1.at_) := ⟨_, rfl⟩
    rw [← hL] at hown8 hv8e
    subst hv8e
    obtain ⟨ln, hln⟩ : ∃ q, q = L.length := ⟨_, rfl⟩
    rw [← hln] at hown8 ⊢
    have HW8 := Lib.hid hown8
    have HLL := Lib.hid (And.intro hL hln)
    clear hown8 hg8 hv8 hr7 hO8 hL hln hv7
    obtain ⟨-, p0, p1, p2, q0, q1, q2⟩ := HP8.out
    obtain ⟨-, t0, t1, t2, f0, f1, f2⟩ := HT8.out
    go_wp2_with fail
    obtain ⟨-, e0, e1, e2, -⟩ := c3_put ((HT8.out).other (u := .slice vo8 ln vc8) (o := 0) (j := w.heap.size) (by omega)) (.slice vo8 ln vc8) (.slice (some ⟨g, 0, none⟩) (kn + 1) cap) (.slice dd nd dc)
    refine bodyPost_ret (v := .agg #[.slice vo8 ln vc8, .slice (some ⟨g, 0, none⟩) (kn + 1) cap, .slice dd nd dc]) (by simp [results, Tryd.f21, go_sem, e0, e1, e2]) rfl ?_
    have hbf := c3_put_below (HB8.out.setCell (p := ⟨w.heap.size, 0, none⟩) (Nat.le_refl _) (.slice vo8 ln vc8)) (k := w.heap.size + 1 + 1) (by omega) (.slice vo8 ln vc8) (.slice (some ⟨g, 0, none⟩) (kn + 1) cap) (.slice dd nd dc)
    have hgA := grown_cell w8 w.heap.size 0 (.slice vo8 ln vc8)
    have hgB := grown_setCell (grown_setCell (grown_cell (w8.setCell ⟨w.heap.size, 0, none⟩ (.slice vo8 ln vc8)) (w.heap.size + 1 + 1) 0 (.slice vo8 ln vc8)) (p := ⟨w.heap.size + 1 + 1, 1, none⟩) (Or.inl rfl) (.slice (some ⟨g, 0, none⟩) (kn + 1) cap)) (p := ⟨w.heap.size + 1 + 1, 2, none⟩) (Or.inl rfl) (.slice dd nd dc)
    have hk1 : ∀ {b : Nat} {v : Value}, b < w.heap.size + 1 + 1 + 1 → (∀ k, v.ownBlock = some k → w.heap.size + 1 + 1 + 1 ≤ k) → v.ownBlock = none ∨ v.ownBlock ≠ some b := fun hb hv => Or.inr fun e => by have := hv _ e; omega
    have o8 := (HW8.out.kept hgA (hk1 (by omega) fun k e => (HW8.out.lt k e).1)).kept hgB (hk1 (by omega) fun k e => (HW8.out.lt k e).1)
    have o6 := (HO8.out.kept hgA (hk1 (by omega) fun k e => (HO8.out.lt k e).1)).kept hgB (hk1 (by omega) fun k e => (HO8.out.lt k e).1)
    have hl6 : R6.length = kn + 1 := by rw [← HR5.out.2]; exact HPR.out.1.length_eq
    have r8 : Reads _ (.slice vo8 ln vc8) (L.map (·.1)) := ⟨L, rfl, Lst.owned enM_len (by decide) HLL.out.2 o8, fun x hx => (HCE.out.1.over x (by rw [HLL.out.1] at hx; exact (List.mem_filter.1 hx).1)).below hbf⟩
    have hmem6 : ∀ x ∈ R6, x ∈ T ∨ x = (⟨at1, ak1, akey1, afin1, aval1, aex1, ⟨ap1, al1, aw1⟩, aov1⟩, .slice xo xn xc) := fun x hx => by
      have h1 := HPR.out.1.mem_iff.1 hx
      rw [HR5.out.1] at h1
      rcases List.mem_append.1 h1 with h1 | h1
      · rw [HKK.out] at h1; exact Or.inl (List.mem_filter.1 h1).1
      · exact Or.inr (List.mem_singleton.1 h1)
    rw [hl6] at o6
    have r6 : Reads _ (.slice (some ⟨g, 0, none⟩) (kn + 1) cap) (R6.map (·.1)) := ⟨R6, rfl, Lst.owned enM_len (by decide) hl6.symm o6, fun x hx => by
      rcases hmem6 x hx with h1 | rfl
      · exact (HCE.out.2.over x h1).below hbf
      · exact HX.out.below hbf⟩
    have hpm : (R6.map (·.1)).Perm (c.wipes.filter (fun x => !withinB ⟨at1, ak1, akey1, afin1, aval1, aex1, ⟨ap1, al1, aw1⟩, aov1⟩ x) ++ [⟨at1, ak1, akey1, afin1, aval1, aex1, ⟨ap1, al1, aw1⟩, aov1⟩]) := by
      have h1 := HPR.out.1.map (·.1)
      rw [HR5.out.1, HKK.out, List.map_append] at h1
      rw [← HE.out.2, List.filter_map]
      exact h1
    have hps : (R6.map (·.1)).Pairwise fun a b => muC a b ≤ 0 := List.pairwise_map.2 HPR.out.2
    have hno : ∀ x ∈ c.wipes, withinB x ⟨at1, ak1, akey1, afin1, aval1, aex1, ⟨ap1, al1, aw1⟩, aov1⟩ = false := fun x hx => by
      have h1 := HCC.out.symm
      rw [HE.out.2] at h1
      have h2 := List.any_eq_false.1 h1 x hx
      simpa using h2
    have hcl : L.map (·.1) = c.cells.filter fun x => !hitsB ⟨at1, ak1, akey1, afin1, aval1, aex1, ⟨ap1, al1, aw1⟩, aov1⟩ x.key x.at_ := by
      rw [← HE.out.1, List.filter_map, HLL.out.1]; rfl
    rw [hcl] at r8
    refine ⟨_, _, _, ⟨c.cells.filter fun x => !hitsB ⟨at1, ak1, akey1, afin1, aval1, aex1, ⟨ap1, al1, aw1⟩, aov1⟩ x.key x.at_, R6.map (·.1), c.sibs⟩, rfl, ⟨r8, r6, HL.out.sibs.below hbf⟩, HR.out.wipe_put (fit_of HRR.out) HK.out hno hpm hps, HO.out.of HRR.out ?_ ?_, hbf⟩
    · intro x hx
      rcases Con.mem_all.1 hx with h1 | h1 | h1
      · exact Or.inl (Con.mem_all.2 (Or.inl (List.mem_filter.1 h1).1))
      · rcases List.mem_append.1 (hpm.mem_iff.1 h1) with h2 | h2
        · exact Or.inl (Con.mem_all.2 (Or.inr (Or.inl (List.mem_filter.1 h2).1)))
        · exact Or.inr (List.mem_singleton.1 h2)
      · exact Or.inl (Con.mem_all.2 (Or.inr (Or.inr h1)))
    · have h1 := hpm.length_eq
      rw [List.length_append] at h1
      have h2 := List.length_filter_le (fun x => !withinB ⟨at1, ak1, akey1, afin1, aval1, aex1, ⟨ap1, al1, aw1⟩, aov1⟩ x) c.wipes
      have h3 := List.length_filter_le (fun x : Mu => !hitsB ⟨at1, ak1, akey1, afin1, aval1, aex1, ⟨ap1, al1, aw1⟩, aov1⟩ x.key x.at_) c.cells
      simp only [List.length_cons, List.length_nil] at h1
      unfold Con.all
      simp only [List.length_append]
      omega
  · obtain ⟨pl, p0, p1, p2, -⟩ := HP1.out
    obtain ⟨tl, t0, t1, t2, f0, f1, f2⟩ := HT1.out
    go_wp2_with fail
    obtain ⟨-, e0, e1, e2, -⟩ := c3_put HT1.out (.slice ao na ac) (.slice bo nb bc) (.slice dd nd dc)
    refine bodyPost_ret (v := .agg #[.slice ao na ac, .slice bo nb bc, .slice dd nd dc]) (by simp [results, Tryd.f21, go_sem, e0, e1, e2]) rfl ?_
    have hb3 := c3_put_below HB1.out (k := w.heap.size + 1 + 1) (by omega) (.slice ao na ac) (.slice bo nb bc) (.slice dd nd dc)
    have hcc := HCC.out
    rw [HE.out.2] at hcc
    exact ⟨_, _, _, c, rfl, HL.out.below hb3, HR.out.wipe_keep (fit_of HRR.out) HK.out hcc.symm, HO.out.more (by omega), hb3⟩
end Go.Proofs.YtgcfhlleaekgfaaDoor.Mut
