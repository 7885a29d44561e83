/- The walks of state.Join (layer 8). -/
import Derived.Test.YtgcfhlleaekgfaaDoorConAll
namespace Go.Proofs.YtgcfhlleaekgfaaDoor.Mut
open Go.RowKit Go.Sort Go.Proofs.YtgcfhlleaekgfaaDoor.Ord

/-- One of the first content, or one of those that come. -/
def Two (S : Mu → Prop) (l : List Mu) (y : Mu) : Prop := S y ∨ Fits l y
theorem two_snoc (S : Mu → Prop) (l : List Mu) (x y : Mu) : Two S (l ++ [x]) y ↔ Two S l y ∨ (y = x ∧ rightF x = true) := by
  unfold Two
  rw [fits_snoc, or_assoc]
theorem two_nil (S : Mu → Prop) (y : Mu) : S y ↔ Two S [] y := by
  unfold Two Fits; simp
theorem two_all {S T : Mu → Prop} {c d : Con} {l : List Mu} (h : Reps (Two S l) c) (hd : Reps T d) (hl : l.Perm d.all) (hr : ∀ m ∈ d.all, rightF m = true) : Reps (fun y => S y ∨ T y) c := by
  refine Reps.of_all hd (h.same fun y => ?_)
  unfold Two Fits
  rw [hl.mem_iff]
  exact or_congr Iff.rfl ⟨fun h => h.1, fun h => ⟨h, hr y h⟩⟩

theorem MRow.plain3 {w w' : World} {v : Value} {R : List Ro} (h : MRow w v R) (hp : Plain3 w w') : MRow w' v R := by
  refine ⟨Lst.plain3 h.row hp enM_len ?_, fun x hx => (h.over x hx).plain3 hp⟩
  intro x j u hu
  by_cases hj : 3 ≤ j
  · exact Or.inl hj
  · refine Or.inr fun ao n c e => ?_
    subst e
    unfold enM at hu
    rcases j with _ | _ | _ | j
    · simp at hu
    · simp at hu
    · simp at hu
    · omega

set_option maxHeartbeats 4000000 in
set_option maxRecDepth 100000 in
theorem join_any (a b d a' b' d' : Value) (c c' : Con) (S T : Mu → Prop) (n n' : Nat) (w : World) (hT : Tabs w) (hc : Lies w a b d c) (hR : Reps S c) (hO : Okc c n) (hc' : Lies w a' b' d' c') (hR' : Reps T c') (hO' : Okc c' n') (hn : n + n' ≤ 90000) :
    Calls Tryd.prog 7 #[.agg #[a, b, d], .agg #[a', b', d']] w (ConP w (fun y => S y ∨ T y) (n + n')) := by
  obtain ⟨ao, na, ac, rfl⟩ := hc.cells.slice
  obtain ⟨bo, nb, bc, rfl⟩ := hc.wipes.slice
  obtain ⟨dd, nd, dc, rfl⟩ := hc.sibs.slice
  obtain ⟨ao', na', ac', rfl⟩ := hc'.cells.slice
  obtain ⟨bo', nb', bc', rfl⟩ := hc'.wipes.slice
  obtain ⟨dd', nd', dc', rfl⟩ := hc'.sibs.slice
  have HAL := Lib.hid (fun (z : World) (h : RowKit.Below w.heap.size w z) => all_any _ _ _ c' n' z (hc'.below h) hO' (by omega))
  have HT := Lib.hid hT
  have HC := Lib.hid hc
  have HR := Lib.hid hR
  have HO := Lib.hid hO
  have HR' := Lib.hid hR'
  have HO' := Lib.hid hO'
  have hC0 := ((C3.new w (.slice ao na ac) (.slice bo nb bc) (.slice dd nd dc)).below ((Below.refl _ _).alloc (Nat.le_refl _) (.cells #[.slice ao' na' ac', .slice bo' nb' bc', .slice dd' nd' dc'] 25))).below ((Below.refl _ _).alloc (by simp) (.cells #[.slice none 0 0, .slice none 0 0, .slice none 0 0] 25))
  have hC1 := C3.new ((w.alloc (.cells #[.slice ao na ac, .slice bo nb bc, .slice dd nd dc] 25)).alloc (.cells #[.slice ao' na' ac', .slice bo' nb' bc', .slice dd' nd' dc'] 25)) (.slice none 0 0) (.slice none 0 0) (.slice none 0 0)
  rw [World.size_alloc, World.size_alloc] at hC1
  have hB := (((Below.refl _ w).alloc (Nat.le_refl _) (.cells #[.slice ao na ac, .slice bo nb bc, .slice dd nd dc] 25)).alloc (by simp) (.cells #[.slice ao' na' ac', .slice bo' nb' bc', .slice dd' nd' dc'] 25)).alloc (by simp; omega) (.cells #[.slice none 0 0, .slice none 0 0, .slice none 0 0] 25)
  have HC0 := Lib.hid hC0
  have HC1 := Lib.hid hC1
  have HB0 := Lib.hid hB
  clear hT hc hR hO hc' hR' hO' hC0 hC1 hB
  go_enter Tryd.func7, Tryd.ntmps7
  go_wp2_with fail
  refine (HAL.out _ HB0.out).mono ?_
  rintro e w1 ⟨g, cap, R, rfl, hcop, hperm, -, hb1⟩
  have HB1 := Lib.hid (below_then HB0.out (Nat.le_refl _) hb1)
  have HC01 := Lib.hid (HC0.out.below hb1)
  have HC11 := Lib.hid (HC1.out.below hb1)
  obtain ⟨N, hN⟩ : ∃ N, N = c'.all.length := ⟨_, rfl⟩
  have hNR : N = R.length := by have := hperm.length_eq; rw [List.length_map] at this; rw [hN, this]
  rw [← hN] at hcop ⊢
  have HV := Lib.hid hcop.mrow
  have HN := Lib.hid hNR
  have HP := Lib.hid hperm
  have hNn : N ≤ n' := by rw [hN]; exact HO'.out.len
  have HS := Lib.hid (show ∀ x ∈ R, Small x.1 from fun x hx => small_right (HO'.out.right _ (hperm.mem_iff.1 (List.mem_map.2 ⟨x, hx, rfl⟩))))
  clear hcop hperm hb1 hN hNR
  go_wp2_with fail
  go_loopw [10] (fun iv wr => ∃ (k : Nat), k ≤ N ∧ iv = .int .i64 k ∧ Hid (C3 wr (w.heap.size + 1 + 1) (.slice none 0 0) (.slice none 0 0) (.slice none 0 0)) ∧ Hid (Holds w w.heap.size (Two S ((R.map (·.1)).take k)) (n + k) wr) ∧ Hid (MRow wr (.slice (some ⟨g, 0, none⟩) N cap) R)) (fun iv _ => N - (intOf iv).toNat)
  case atStart => exact ⟨0, by omega, rfl, HC11, Lib.hid ⟨_, _, _, _, _, _, _, _, _, c, HC01.out, HC.out.below HB1.out, HR.out.same (two_nil S), HO.out, HB1.out⟩, HV⟩
  case round =>
    obtain ⟨k, hk, rfl, hC, hH, hV⟩ := hrel
    obtain ⟨o1, m1, k1, o2, m2, k2, o3, m3, k3, cc, h3, hl, hr, ho, hb⟩ := hH.out
    have HB := Lib.hid hb
    have H3 := Lib.hid h3
    have HL := Lib.hid hl
    have HR := Lib.hid hr
    have HO := Lib.hid ho
    clear h3 hl hr ho hb hH
    obtain ⟨hl3, p0, p1, p2, q0, q1, q2⟩ := H3.out
    by_cases hlt : k < N
    · have hkr : k < R.length := by have := HN.out; omega
      have hget : R[k]? = some R[k] := List.getElem?_eq_getElem hkr
      have hxs := HS.out _ (List.getElem_mem hkr)
      have hxo := hV.out.over _ (List.getElem_mem hkr)
      obtain ⟨b, off, e1, hat⟩ := hV.out.at_ hget
      have htk : (R.map (·.1)).take (k + 1) = (R.map (·.1)).take k ++ [R[k].1] := by rw [List.take_add_one, List.getElem?_map, hget]; rfl
      cases e1
      rw [Nat.zero_add] at hat
      obtain ⟨x, hx⟩ : ∃ x, x = R[k] := ⟨_, rfl⟩
      rw [← hx] at hxs hxo hat htk
      clear hx hget
      have HTK := Lib.hid htk
      have HAD := Lib.hid (fun (W : World) (hW : RowKit.Below wr.heap.size wr W) => add_any _ _ _ cc _ (n + k) x W ((HT.out.below HB.out).below hW) (HL.out.below hW) HR.out HO.out (by omega) (hxo.below hW) hxs)
      obtain ⟨xo, xc, ex, -, -⟩ := Over.form hxo
      obtain ⟨⟨at1, ak1, akey1, afin1, aval1, aex1, ⟨ap1, al1, aw1⟩, aov1⟩, av1⟩ := x
      simp only [] at ex
      obtain ⟨xn, hxn⟩ : ∃ k, k = aov1.length := ⟨_, rfl⟩
      rw [← hxn] at ex
      subst ex
      obtain ⟨hbl, z0, z1, z2, z3, z4, z5, z6, z7, z8, z9⟩ := hat
      clear hxn htk hxs hxo
      unfold vM at HAD
      simp only [] at HAD z0 z1 z2 z3 z4 z5 z6 z7 z8 z9
      go_wp2_with fail
      have hbm := (Below.refl wr.heap.size wr).alloc (Nat.le_refl _) (.cells #[.int .i64 at1, .int .i64 ak1, .string akey1, .string afin1, .string aval1, .int .i64 aex1, .int .i64 ap1, .int .i64 al1, .int .i64 aw1, .slice xo xn xc] 34)
      refine (HAD.out _ hbm).mono ?_
      rintro e w3 ⟨va, vb, vd, c', rfl, hl, hr, ho, hb3⟩
      obtain ⟨o4, m4, k4, hv1⟩ := hl.cells.slice
      obtain ⟨o5, m5, k5, hv2⟩ := hl.wipes.slice
      obtain ⟨o6, m6, k6, hv3⟩ := hl.sibs.slice
      subst hv1 hv2 hv3
      have hb4 := below_then hbm (Nat.le_refl _) hb3
      have H34 := Lib.hid (H3.out.below hb4)
      have HC4 := Lib.hid (hC.out.below hb4)
      have HV4 := Lib.hid (hV.out.below hb4)
      have HB4 := Lib.hid (below_then HB.out (Nat.le_refl _) hb4)
      have HX := Lib.hid (And.intro hl (And.intro hr ho))
      clear hl hr ho hb3 hb4 p0 p1 p2 q0 q1 q2 z0 z1 z2 z3 z4 z5 z6 z7 z8 z9
      obtain ⟨-, p0, p1, p2, q0, q1, q2⟩ := H34.out
      go_wp2_with fail
      go_roundw
      case rel =>
        refine ⟨k + 1, by omega, by go_num, Lib.hid ?_, Lib.hid ⟨o4, m4, k4, o5, m5, k5, o6, m6, k6, c', c3_put H34.out _ _ _, HX.out.1.plain3 (plain3 H34.out _ _ _), HX.out.2.1.same (fun y => ?_), HX.out.2.2, c3_put_below HB4.out (by omega) _ _ _⟩, Lib.hid (HV4.out.plain3 (plain3 H34.out _ _ _))⟩
        · exact ((HC4.out.other (by omega)).other (by omega)).other (by omega)
        · rw [HTK.out]; exact (two_snoc _ _ _ _).symm
      case measure => simp [intOf]; omega
    · obtain rfl : k = N := by omega
      obtain ⟨-, t0, t1, t2, f0, f1, f2⟩ := hC.out
      go_wp2_with fail
      obtain ⟨-, e0, e1, e2, -⟩ := c3_put hC.out (.slice o1 m1 k1) (.slice o2 m2 k2) (.slice o3 m3 k3)
      refine bodyPost_ret (v := .agg #[.slice o1 m1 k1, .slice o2 m2 k2, .slice o3 m3 k3]) (by simp [results, Tryd.f7, go_sem, e0, e1, e2]) rfl ?_
      have hh := HR.out
      rw [HN.out, show (R.map (·.1)).take R.length = R.map (·.1) from by rw [List.take_of_length_le (by simp)]] at hh
      exact ⟨_, _, _, cc, rfl, HL.out.plain3 (plain3 hC.out _ _ _), two_all hh HR'.out HP.out HO'.out.right, HO.out.more (by omega), c3_put_below HB.out (by omega) _ _ _⟩
end Go.Proofs.YtgcfhlleaekgfaaDoor.Mut
