/- The walks of slices.EqualFunc at mut.Same, state.Same (layer 8). -/
import Derived.Test.YtgcfhlleaekgfaaDoorConJoin
import Derived.Test.YtgcfhlleaekgfaaDoorMutSmall
namespace Go.Proofs.YtgcfhlleaekgfaaDoor.Mut
open Go.RowKit Go.Sort Go.Proofs.YtgcfhlleaekgfaaDoor.Ord

def eqF : List Mu → List Mu → Bool
  | [], [] => true
  | x :: a, y :: b => decide (muC x y = 0) && eqF a b
  | _, _ => false
theorem eqF_iff : ∀ a b : List Mu, eqF a b = true ↔ a = b
  | [], [] => by simp [eqF]
  | [], _ :: _ => by simp [eqF]
  | _ :: _, [] => by simp [eqF]
  | x :: a, y :: b => by
    rw [eqF, Bool.and_eq_true, decide_eq_true_iff, muO.zero, eqF_iff a b, List.cons.injEq]
theorem eqF_len : ∀ (a b : List Mu), ¬ a.length = b.length → eqF a b = false
  | [], [], h => absurd rfl h
  | [], _ :: _, _ => rfl
  | _ :: _, [], _ => rfl
  | x :: a, y :: b, h => by
    rw [eqF, eqF_len a b (by simpa using h), Bool.and_false]

set_option maxHeartbeats 4000000 in
set_option maxRecDepth 100000 in
theorem equal_any (v1 v2 : Value) (R1 R2 : List Ro) (w : World) (h1 : MRow w v1 R1) (h2 : MRow w v2 R2) (s1 : ∀ x ∈ R1, Small x.1) (s2 : ∀ x ∈ R2, Small x.1) (hn : R1.length ≤ 1000000) :
    Calls Tryd.prog 12 #[v1, v2, .func (.func 13) #[] #[]] w fun e w' => e = .returned (.bool (eqF (R1.map (·.1)) (R2.map (·.1)))) ∧ RowKit.Below w.heap.size w w' := by
  obtain ⟨ao1, cap1, rfl, -, -⟩ := h1.form
  obtain ⟨ao2, cap2, rfl, -, hc2⟩ := h2.form
  obtain ⟨n1, hn1⟩ : ∃ n, n = R1.length := ⟨_, rfl⟩
  obtain ⟨n2, hn2⟩ : ∃ n, n = R2.length := ⟨_, rfl⟩
  obtain ⟨Q, hQ⟩ : ∃ Q, Q = eqF (R1.map (·.1)) (R2.map (·.1)) := ⟨_, rfl⟩
  rw [← hQ, ← hn1, ← hn2]
  rw [← hn1] at hn
  by_cases hl : n1 = n2
  · have hl2 : R2.length = R1.length := by omega
    subst hl
    have HQ := Lib.hid hQ
    have HN := Lib.hid (And.intro hn1 hn2)
    rw [← hn1] at h1
    rw [← hn2] at h2
    have H1 := Lib.hid h1
    have H2 := Lib.hid h2
    have S1 := Lib.hid s1
    have S2 := Lib.hid s2
    clear hQ hn1 hn2 h1 h2 s1 s2 hl2
    have he : ∀ args w, (callFunc 13 args).run Tryd.prog w = .ok (.enter 13 args) w := enters_of Tryd.func13 (by kernel_rfl) rfl
    go_enter Tryd.func12, Tryd.ntmps12
    go_wp2_with fail
    go_loopw [17] (fun iv wr => ∃ k : Nat, k ≤ n1 ∧ iv = .int .i64 k ∧ Hid (eqF ((R1.drop k).map (·.1)) ((R2.drop k).map (·.1)) = Q) ∧ RowKit.Below w.heap.size w wr) (fun iv _ => n1 - (intOf iv).toNat)
    case atStart => exact ⟨0, by omega, rfl, Lib.hid (by rw [HQ.out]; rfl), Below.refl _ _⟩
    case round =>
      obtain ⟨k, hk, rfl, hi, hb⟩ := hrel
      by_cases hlt : k < n1
      · have hk1 : k < R1.length := by have := HN.out; omega
        have hk2 : k < R2.length := by have := HN.out; omega
        obtain ⟨x, hx⟩ : ∃ x, R1[k]? = some x := ⟨_, List.getElem?_eq_getElem hk1⟩
        obtain ⟨y, hy⟩ : ∃ y, R2[k]? = some y := ⟨_, List.getElem?_eq_getElem hk2⟩
        have hxe : R1[k] = x := (List.getElem?_eq_some_iff.1 hx).2
        have hye : R2[k] = y := (List.getElem?_eq_some_iff.1 hy).2
        obtain ⟨xb, xoff, hao1, hat1⟩ := (H1.out.below hb).at_ hx
        obtain ⟨yb, yoff, hao2, hat2⟩ := (H2.out.below hb).at_ hy
        cases hao1
        cases hao2
        have hi' : (decide (muC x.1 y.1 = 0) && eqF ((R1.drop (k + 1)).map (·.1)) ((R2.drop (k + 1)).map (·.1))) = Q := by rw [← hi.out, List.drop_eq_getElem_cons hk1, List.drop_eq_getElem_cons hk2, hxe, hye]; rfl
        have hxo := (H1.out.below hb).over x (List.mem_of_getElem? hx)
        have hyo := (H2.out.below hb).over y (List.mem_of_getElem? hy)
        have HC := Lib.hid (fun (z : World) (hz : RowKit.Below wr.heap.size wr z) => same_any x y z (hxo.below hz) (hyo.below hz) (S1.out x (List.mem_of_getElem? hx)).over (S2.out y (List.mem_of_getElem? hy)).over)
        obtain ⟨q, hq⟩ : ∃ q, q = decide (muC x.1 y.1 = 0) := ⟨_, rfl⟩
        rw [← hq] at HC hi'
        have HI := Lib.hid hi'
        obtain ⟨xo, xc, ex, -, -⟩ := Over.form hxo
        obtain ⟨yo, yc, ey, -, -⟩ := Over.form hyo
        clear hi' hq hx hy hxe hye hi hxo hyo
        obtain ⟨hbl1, a0, a1, a2, a3, a4, a5, a6, a7, a8, a9⟩ := hat1
        obtain ⟨hbl2, b0, b1, b2, b3, b4, b5, b6, b7, b8, b9⟩ := hat2
        obtain ⟨⟨at1, ak1, akey1, afin1, aval1, aex1, ⟨ap1, al1, aw1⟩, aov1⟩, av1⟩ := x
        obtain ⟨⟨at2, ak2, akey2, afin2, aval2, aex2, ⟨ap2, al2, aw2⟩, aov2⟩, av2⟩ := y
        simp only [] at ex ey a0 a1 a2 a3 a4 a5 a6 a7 a8 a9 b0 b1 b2 b3 b4 b5 b6 b7 b8 b9
        obtain ⟨xn, hxn⟩ : ∃ k, k = aov1.length := ⟨_, rfl⟩
        obtain ⟨yn, hyn⟩ : ∃ k, k = aov2.length := ⟨_, rfl⟩
        rw [← hxn] at ex
        rw [← hyn] at ey
        subst ex ey
        clear hxn hyn
        unfold vM at HC
        simp only [] at HC
        go_wp2_with fail
        have hbm := ((Below.refl wr.heap.size wr).alloc (Nat.le_refl _) (.cells #[.int .i64 at1, .int .i64 ak1, .string akey1, .string afin1, .string aval1, .int .i64 aex1, .int .i64 ap1, .int .i64 al1, .int .i64 aw1, .slice xo xn xc] 34)).alloc (by simp) (.cells #[.int .i64 at2, .int .i64 ak2, .string akey2, .string afin2, .string aval2, .int .i64 aex2, .int .i64 ap2, .int .i64 al2, .int .i64 aw2, .slice yo yn yc] 34)
        refine (HC.out _ hbm).mono ?_
        rintro e w1 ⟨rfl, hb1⟩
        have HB1 := Lib.hid (below_then hb (Nat.le_refl _) (below_then hbm (Nat.le_refl _) hb1.below))
        clear hb1 a0 a1 a2 a3 a4 a5 a6 a7 a8 a9 b0 b1 b2 b3 b4 b5 b6 b7 b8 b9 hbm
        cases q
        · go_wp2_with fail
          go_ret
          exact ⟨ret_bool (by rw [← HI.out]; rfl), HB1.out⟩
        · go_wp2_with fail
          go_roundw
          case rel => exact ⟨k + 1, by omega, by go_num, Lib.hid (by rw [← HI.out]; rfl), HB1.out⟩
          case measure => simp [intOf]; omega
      · obtain rfl : k = n1 := by omega
        have he2 : true = Q := by rw [← hi.out, List.drop_of_length_le (by have := HN.out; omega), List.drop_of_length_le (by have := HN.out; omega)]; rfl
        have HE := Lib.hid he2
        clear he2
        go_wp2_with fail
        go_ret
        exact ⟨ret_bool HE.out, hb⟩
  · have hq : Q = false := by rw [hQ]; exact eqF_len _ _ (by simp; omega)
    have HQ := Lib.hid hq
    have hne : ¬ ((n1 : Int) = (n2 : Int)) := by omega
    clear hq hQ hn1 hn2 h1 h2 s1 s2
    go_enter Tryd.func12, Tryd.ntmps12
    go_wp2_with fail
    go_ret
    exact ⟨ret_bool HQ.out.symm, Below.refl _ _⟩
theorem eqF_all {S T : Mu → Prop} {c d : Con} (h : Reps S c) (g : Reps T d) {l k : List Mu} (h1 : l.Perm c.all) (h2 : l.Pairwise fun a b => muC a b ≤ 0) (g1 : k.Perm d.all) (g2 : k.Pairwise fun a b => muC a b ≤ 0) : eqF l k = true ↔ c = d := by
  rw [eqF_iff]
  exact AllOf.eq_iff h g (AllOf.of_perm h h1 h2) (AllOf.of_perm g g1 g2)
theorem bool_of_iff {a : Bool} {p : Prop} (q : Bool) (h : a = true ↔ p) (hq : q = true ↔ p) : a = q := by
  cases a <;> cases q <;> simp_all

set_option maxHeartbeats 4000000 in
set_option maxRecDepth 100000 in
theorem same_con (a b d a' b' d' : Value) (c c' : Con) (S T : Mu → Prop) (n n' : Nat) (w : World) (q : Bool) (hq : q = true ↔ c = c') (hc : Lies w a b d c) (hR : Reps S c) (hO : Okc c n) (hc' : Lies w a' b' d' c') (hR' : Reps T c') (hO' : Okc c' n') (hn : n ≤ 100000) (hn' : n' ≤ 100000) :
    Calls Tryd.prog 8 #[.agg #[a, b, d], .agg #[a', b', d']] w fun e w' => e = .returned (.bool q) ∧ RowKit.Below w.heap.size w w' := by
  obtain ⟨ao, na, ac, rfl⟩ := hc.cells.slice
  obtain ⟨bo, nb, bc, rfl⟩ := hc.wipes.slice
  obtain ⟨dd, nd, dc, rfl⟩ := hc.sibs.slice
  obtain ⟨ao', na', ac', rfl⟩ := hc'.cells.slice
  obtain ⟨bo', nb', bc', rfl⟩ := hc'.wipes.slice
  obtain ⟨dd', nd', dc', rfl⟩ := hc'.sibs.slice
  have HA := Lib.hid (fun (z : World) (h : RowKit.Below w.heap.size w z) => all_any _ _ _ c n z (hc.below h) hO hn)
  have HA' := Lib.hid (fun (z : World) (h : RowKit.Below w.heap.size w z) => all_any _ _ _ c' n' z (hc'.below h) hO' hn')
  have hP := (C3.new w (.slice ao na ac) (.slice bo nb bc) (.slice dd nd dc)).below ((Below.refl _ _).alloc (Nat.le_refl _) (.cells #[.slice ao' na' ac', .slice bo' nb' bc', .slice dd' nd' dc'] 25))
  have hP' := C3.new (w.alloc (.cells #[.slice ao na ac, .slice bo nb bc, .slice dd nd dc] 25)) (.slice ao' na' ac') (.slice bo' nb' bc') (.slice dd' nd' dc')
  rw [World.size_alloc] at hP'
  have hB := ((Below.refl _ w).alloc (Nat.le_refl _) (.cells #[.slice ao na ac, .slice bo nb bc, .slice dd nd dc] 25)).alloc (by simp) (.cells #[.slice ao' na' ac', .slice bo' nb' bc', .slice dd' nd' dc'] 25)
  have HR := Lib.hid (And.intro hR hR')
  have HO := Lib.hid (And.intro hO hO')
  have HQ := Lib.hid hq
  have hl1 := hO.len
  have hl2 := hO'.len
  obtain ⟨N, hN⟩ : ∃ N, N = c.all.length := ⟨_, rfl⟩
  obtain ⟨N', hN'⟩ : ∃ N, N = c'.all.length := ⟨_, rfl⟩
  unfold AllP at HA HA'
  rw [← hN] at HA
  rw [← hN'] at HA'
  have HN := Lib.hid (And.intro hN hN')
  obtain ⟨W0, hW0⟩ : ∃ W0, W0 = ((w.alloc (.cells #[.slice ao na ac, .slice bo nb bc, .slice dd nd dc] 25)).alloc (.cells #[.slice ao' na' ac', .slice bo' nb' bc', .slice dd' nd' dc'] 25)) := ⟨_, rfl⟩
  rw [← hW0] at hP hP' hB
  have HP := Lib.hid hP
  have HP' := Lib.hid hP'
  have HB0 := Lib.hid hB
  have HW := Lib.hid hW0
  clear hP hP' hB hc hR hO hc' hR' hO' hq hN hN' hW0
  go_enter Tryd.func8, Tryd.ntmps8
  go_wp2_with fail
  rw [← HW.out]
  clear HW
  obtain ⟨-, p0, p1, p2, -⟩ := HP.out
  obtain ⟨-, q0, q1, q2, -⟩ := HP'.out
  go_region_law (first
    | (go_simp; go_at_call 9; (with_reducible refine (HA.out _ (HB0.out.drew)).mono ?_); rintro e w1 ⟨g1, k1, R1, rfl, hcop1, hp1, hs1, hb1⟩; have B1 := below_then ((Below.refl W0.heap.size W0).drew) (Nat.le_refl _) hb1; obtain ⟨-, p0, p1, p2, -⟩ := HP.out.below B1; obtain ⟨-, q0, q1, q2, -⟩ := HP'.out.below B1; have HB1 := Lib.hid (below_then HB0.out (Nat.le_refl _) B1); have HC1 := Lib.hid (And.intro hcop1 (And.intro hp1 hs1)); clear hcop1 hp1 hs1 hb1 B1)
    | (go_simp; go_at_call 9; (with_reducible refine (HA'.out _ (HB1.out)).mono ?_); rintro e w2 ⟨g2, k2, R2, rfl, hcop2, hp2, hs2, hb2⟩; have HB2 := Lib.hid (below_then HB1.out (Nat.le_refl _) hb2); have HB12 := Lib.hid hb2; have HC2 := Lib.hid (And.intro hcop2 (And.intro hp2 hs2)); clear hcop2 hp2 hs2 hb2)
    | (go_simp; go_at_call 12; (with_reducible refine (equal_any _ _ R1 R2 w2 (HC1.out.1.below HB12.out).mrow HC2.out.1.mrow (fun x hx => small_right (HO.out.1.right _ (HC1.out.2.1.mem_iff.1 (List.mem_map.2 ⟨x, hx, rfl⟩)))) (fun x hx => small_right (HO.out.2.right _ (HC2.out.2.1.mem_iff.1 (List.mem_map.2 ⟨x, hx, rfl⟩)))) (by have h1 := HC1.out.2.1.length_eq; rw [List.length_map] at h1; have h2 := HN.out.1; omega)).mono ?_); rintro e w3 ⟨rfl, hb3⟩; have HB3 := Lib.hid (below_then HB2.out (Nat.le_refl _) hb3); clear hb3))
  all_goals
    go_wp2_with fail
    go_ret
    exact ⟨ret_bool (bool_of_iff q (eqF_all HR.out.1 HR.out.2 HC1.out.2.1 HC1.out.2.2 HC2.out.2.1 HC2.out.2.2) HQ.out), HB3.out⟩
end Go.Proofs.YtgcfhlleaekgfaaDoor.Mut
