/- The walk of the law OrderFixes (layer 29). PRINTED by wip/genofixes.py. -/
import Derived.Test.YtipoeigehabbmaaGreatDoorRef29
import Derived.Test.YtipoeigehabbmaaGreatDoorGreat25
import Derived.Test.YtipoeigehabbmaaGreatDoorRefMissing
set_option linter.unusedSimpArgs false
set_option linter.unusedVariables false
namespace Go.Proofs.YtipoeigehabbmaaGreatDoor.Mut
open Go.RowKit Go.Sort Go.Proofs.YtipoeigehabbmaaGreatDoor.Ord Go.Proofs.YtipoeigehabbmaaGreatDoor.RegInv Go.Proofs.YtipoeigehabbmaaGreatDoor.Spare
set_option linter.unusedSectionVars false
variable [Inhabited Lim]

/-! ## In plain Lean: the two rows say the same -/
def fixB (all : Con) : Nat → List Rp → List (Int × Mu)
  | _, [] => []
  | i, x :: t => (((missF all x.c).filter fun m => decide (stC x.f m.at_ < 0)).map fun m => ((i : Int) + 3, m)) ++ fixB all (i + 1) t
theorem same_floor : ∀ (T : List Td) (i : Nat) (RA : List Ry) (RB : List Rp), RA.map coreY = coresY i T → RB.map core = T.map coreZ → ∀ s b, (RB.foldl baseStep (s, b)).1 = RA.foldl (fun s x => maxS s x.f) s
  | [], i, RA, RB, h1, h2, s, b => by
    rw [List.map_eq_nil_iff.1 (show RA.map coreY = [] from h1), List.map_eq_nil_iff.1 (show RB.map core = [] from h2)]
    rfl
  | t :: T, i, [], RB, h1, h2, s, b => by cases h1
  | t :: T, i, x :: RA, [], h1, h2, s, b => by cases h2
  | t :: T, i, x :: RA, y :: RB, h1, h2, s, b => by
    rw [List.map_cons, coresY, List.cons.injEq] at h1
    rw [List.map_cons, List.map_cons, List.cons.injEq] at h2
    have e1 : x.f = t.f := congrArg (·.2.2.2) h1.1
    have e2 : y.f = t.f := congrArg (·.2.1) h2.1
    have e3 : y.q = false := congrArg (·.2.2) h2.1
    rw [List.foldl_cons, List.foldl_cons, show baseStep (s, b) y = (maxS s x.f, true) by unfold baseStep; rw [e3, e1, e2]; rfl]
    exact same_floor T (i + 1) RA RB h1.2 h2.2 _ _
theorem same_counts (s : Stp) : ∀ (T : List Td) (i : Nat) (RA : List Ry) (RB : List Rp), RA.map coreY = coresY i T → RB.map core = T.map coreZ → RB.map (fun x => countsF x s) = RA.map (countsY s)
  | [], i, RA, RB, h1, h2 => by
    rw [List.map_eq_nil_iff.1 (show RA.map coreY = [] from h1), List.map_eq_nil_iff.1 (show RB.map core = [] from h2)]
    rfl
  | t :: T, i, [], RB, h1, h2 => by cases h1
  | t :: T, i, x :: RA, [], h1, h2 => by cases h2
  | t :: T, i, x :: RA, y :: RB, h1, h2 => by
    rw [List.map_cons, coresY, List.cons.injEq] at h1
    rw [List.map_cons, List.map_cons, List.cons.injEq] at h2
    have e1 : x.f = t.f := congrArg (·.2.2.2) h1.1
    have e2 : y.f = t.f := congrArg (·.2.1) h2.1
    have e3 : y.q = false := congrArg (·.2.2) h2.1
    have e4 : x.c = leftOf (t.l.map (·.1)) := congrArg (·.2.2.1) h1.1
    have e5 : y.c = leftOf (t.l.map (·.1)) := congrArg (·.1) h2.1
    rw [List.map_cons, List.map_cons, same_counts s T (i + 1) RA RB h1.2 h2.2]
    congr 1
    unfold countsF countsY
    rw [e1, e2, e3, e4, e5]
    rfl
theorem same_fixes (all : Con) : ∀ (T : List Td) (i : Nat) (RA : List Ry) (RB : List Rp), RA.map coreY = coresY i T → RB.map core = T.map coreZ → RA.flatMap (fixG all) = fixB all i RB
  | [], i, RA, RB, h1, h2 => by
    rw [List.map_eq_nil_iff.1 (show RA.map coreY = [] from h1), List.map_eq_nil_iff.1 (show RB.map core = [] from h2)]
    rfl
  | t :: T, i, [], RB, h1, h2 => by cases h1
  | t :: T, i, x :: RA, [], h1, h2 => by cases h2
  | t :: T, i, x :: RA, y :: RB, h1, h2 => by
    rw [List.map_cons, coresY, List.cons.injEq] at h1
    rw [List.map_cons, List.map_cons, List.cons.injEq] at h2
    have e0 : x.from_ = (i : Int) + 3 := congrArg (·.1) h1.1
    have e1 : x.f = t.f := congrArg (·.2.2.2) h1.1
    have e2 : y.f = t.f := congrArg (·.2.1) h2.1
    have e4 : x.c = leftOf (t.l.map (·.1)) := congrArg (·.2.2.1) h1.1
    have e5 : y.c = leftOf (t.l.map (·.1)) := congrArg (·.1) h2.1
    rw [List.flatMap_cons, fixB, same_fixes all T (i + 1) RA RB h1.2 h2.2]
    unfold fixG
    rw [e0, e1, e2, e4, e5]
theorem same_merge {T : List Td} {RA : List Ry} {RB : List Rp} (h1 : RA.map coreY = coresY 0 T) (h2 : RB.map core = T.map coreZ) : mergeF RA = rmergeF RB := by
  unfold mergeF rmergeF
  rw [same_counts _ T 0 RA RB h1 h2, show (baseF RB).1 = floorF RA from same_floor T 0 RA RB h1 h2 zeroS false]
theorem cores_len : ∀ (T : List Td) (i : Nat), (coresY i T).length = T.length
  | [], _ => rfl
  | _ :: T, i => by rw [coresY, List.length_cons, cores_len T (i + 1), List.length_cons]
theorem cores_con : ∀ (T : List Td) (i : Nat) (q), q ∈ coresY i T → ∃ y ∈ T, q.2.2.1 = leftOf (y.l.map (·.1))
  | [], _, q, h => by cases h
  | t :: T, i, q, h => by
    rw [coresY, List.mem_cons] at h
    rcases h with rfl | h
    · exact ⟨t, List.mem_cons_self .., rfl⟩
    · obtain ⟨y, hy, e⟩ := cores_con T (i + 1) q h
      exact ⟨y, List.mem_cons_of_mem _ hy, e⟩

set_option maxHeartbeats 16000000 in
set_option maxRecDepth 100000 in
theorem ofix_any (v : Value) (T : List Td) (w : World) (hT : Tabs w) (hv : TRow w v T) (hz : TSizes T) (hN0 : (default : Lim).n ≤ w.heap.size) :
    Calls Tryz.prog 6 #[v] w (RetB true w) := by
  obtain ⟨ao, cap, rfl, -, -⟩ := hv.form
  obtain ⟨n, hN⟩ : ∃ n, n = T.length := ⟨_, rfl⟩
  rw [← hN] at hv ⊢
  have HGR := Lib.hid (great25_any (.slice ao n cap) T w hv hz)
  obtain ⟨G, hG⟩ : ∃ G, G = great25 T := ⟨_, rfl⟩
  rw [← hG] at HGR
  have HG := Lib.hid hG
  have HV := Lib.hid hv
  have HN := Lib.hid hN
  have HT := Lib.hid hT
  have HN0 := Lib.hid hN0
  clear hv hN hT hN0 hG hz
  go_enter Tryz.func6, Tryz.ntmps6
  go_wp2_with fail
  refine HGR.out.mono ?_
  rintro e w1 ⟨rfl, rfl⟩
  cases G
  case true =>
    go_wp2_with fail
    go_ret
    exact ⟨rfl, Below.refl _ _⟩
  obtain ⟨hT6, hTs⟩ := great25_small HG.out.symm
  have hn6 : n ≤ 6 := by have := HN.out; omega
  have hBo := both29_any (.slice ao n cap) T w HT.out HV.out HN0.out (by omega) (fun x hx => ⟨by have := (hTs x hx).1; omega, (hTs x hx).2⟩)
  have HBO := Lib.hid hBo
  have HTS := Lib.hid hTs
  clear hBo hTs hT6
  go_wp2_with fail
  refine HBO.out.mono ?_
  rintro e w3 ⟨va, vb, RA, RB, rfl, hra, hrb, ea, eb, hb3⟩
  have hlenA : RA.length = n := by have h := congrArg List.length ea; rw [List.length_map, cores_len] at h; rw [h]; exact HN.out.symm
  have hlenB : RB.length = n := by have h := congrArg List.length eb; rw [List.length_map, List.length_map] at h; rw [h]; exact HN.out.symm
  obtain ⟨ra, ca, rfl, hca1, hca2⟩ := hra.form
  obtain ⟨rb, cb, rfl, hcb1, hcb2⟩ := hrb.form
  have HGA := Lib.hid (show ∀ x ∈ RA, Good x.c 15 from fun x hx => by
    have h1 : coreY x ∈ coresY 0 T := by rw [← ea]; exact List.mem_map.2 ⟨x, hx, rfl⟩
    obtain ⟨y, hy, e⟩ := cores_con T 0 _ h1
    have h2 : x.c = leftOf (y.l.map (·.1)) := e
    rw [h2]
    exact (leftOf_good _).more (HTS.out y hy).1)
  have HGB := Lib.hid (show ∀ x ∈ RB, Good x.c 15 from fun x hx => by
    have h1 : core x ∈ T.map coreZ := by rw [← eb]; exact List.mem_map.2 ⟨x, hx, rfl⟩
    obtain ⟨y, hy, e⟩ := List.mem_map.1 h1
    have h2 : x.c = leftOf (y.l.map (·.1)) := (congrArg (·.1) e).symm
    rw [h2]
    exact (leftOf_good _).more (HTS.out y hy).1)
  obtain ⟨C, hC⟩ : ∃ C, C = rmergeF RB := ⟨_, rfl⟩
  have hCA : mergeF RA = C := by rw [hC]; exact same_merge ea eb
  have HGC := Lib.hid (show Good C 90 by rw [← hCA]; exact (mergeF_good HGA.out).more (by rw [hlenA]; omega))
  have HFX := Lib.hid (show fixF RA = fixB C 0 RB by rw [fixF_eq, hCA]; exact same_fixes C T 0 RA RB ea eb)
  have HMG := Lib.hid (fun W (h : RowKit.Below w3.heap.size w3 W) => rmerge_any _ RB 15 W (HT.out.below (below_then hb3 (Nat.le_refl _) h)) (hrb.below h) HGB.out (by omega) (by omega))
  rw [← hC] at HMG
  have HFF := Lib.hid (fun W (h : RowKit.Below w3.heap.size w3 W) => fixes_any _ RA 15 W (HT.out.below (below_then hb3 (Nat.le_refl _) h)) (hra.below h) HGA.out (by omega) (by omega))
  rw [hlenA] at hra hca1 HFF ⊢
  rw [hlenB] at hrb hcb1 HMG ⊢
  have HRB := Lib.hid hrb
  have HLB := Lib.hid hlenB
  have HB3 := Lib.hid hb3
  obtain ⟨fs, hfs⟩ : ∃ s, s = (baseF RB).1 := ⟨_, rfl⟩
  rw [← hfs] at HMG
  clear hra hrb ea eb hb3 hlenA hlenB HBO HTS HGR HV hC hCA hfs HG HGA
  unfold RetCS vS at HMG
  obtain ⟨fp, fl, fw⟩ := fs
  simp only [] at HMG
  go_wp2_with fail
  refine (HMG.out w3 (Below.refl _ _)).mono ?_
  rintro e w4 ⟨v1, rfl, hc, hb4⟩
  obtain ⟨p1, q1, r1, p2, q2, r2, p3, q3, r3, rfl, hl4⟩ := hc.form
  have HL4 := Lib.hid hl4
  have HB4 := Lib.hid hb4
  clear hc hl4 hb4 HMG
  go_upto_region 5 with fail
  obtain ⟨W2, hW2⟩ : ∃ W, W = (w4.alloc (.cells #[.slice p1 q1 r1, .slice p2 q2 r2, .slice p3 q3 r3] 38)).alloc (.cells #[.int .i64 fp, .int .i64 fl, .int .i64 fw] 32) := ⟨_, rfl⟩
  rw [← hW2]
  have hb2 : RowKit.Below w4.heap.size w4 W2 := by rw [hW2]; exact ((Below.refl _ _).alloc (Nat.le_refl _) _).alloc (by simp) _
  have HC2 := Lib.hid (show C3 W2 w4.heap.size (.slice p1 q1 r1) (.slice p2 q2 r2) (.slice p3 q3 r3) by
    rw [hW2]
    exact (C3.newR w4 _ _ _).below ((Below.refl _ _).alloc (Nat.le_refl _) _))
  have HL2 := Lib.hid (HL4.out.below hb2)
  have HB2 := Lib.hid (below_then HB4.out (Nat.le_refl _) hb2)
  obtain ⟨k5, hk5⟩ : ∃ k, k = w4.heap.size := ⟨_, rfl⟩
  rw [← hk5] at HC2 ⊢
  clear hW2 hb2 hk5 HL4 HB4
  go_wp2_with fail
  refine (HFF.out W2 HB2.out).mono ?_
  rintro e w5 ⟨vF, F, rfl, eF, hF, hFr, hb5⟩
  obtain ⟨fo, fc, rfl, hfc1, hfc2⟩ := hF.form
  obtain ⟨nF, hnF⟩ : ∃ k, k = F.length := ⟨_, rfl⟩
  rw [← hnF] at hF hfc1 ⊢
  unfold maxLen at hfc2
  have hnF63 : nF ≤ 9223372036854775807 := by omega
  obtain ⟨L, hL⟩ : ∃ L, L = fixF RA := ⟨_, rfl⟩
  rw [← hL] at eF
  have HLF := Lib.hid (show L = fixB C 0 RB by rw [hL]; exact HFX.out)
  have HEF := Lib.hid (show F.map fxM = L from eF)
  have HLL := Lib.hid (show L.length = nF by rw [hnF, ← eF, List.length_map])
  have HF := Lib.hid hF
  have HFR := Lib.hid hFr
  have HNF := Lib.hid hnF
  have HC5 := Lib.hid (HC2.out.below hb5)
  have HL5 := Lib.hid (HL2.out.below hb5)
  have HR5 := Lib.hid (HRB.out.below (below_then HB2.out (Nat.le_refl _) hb5))
  have HB5 := Lib.hid (below_then HB3.out (Nat.le_refl _) (below_then HB2.out (Nat.le_refl _) hb5))
  clear hL eF hF hFr hnF hb5 HC2 HL2 HRB HB2 HB3 HFF HFX
  go_wp2_with fail
  go_loopw [8, 9] (fun av iv wr => ∃ (k at' : Nat), k ≤ n ∧ iv = .int .i64 k ∧ av = .int .i64 at' ∧ at' ≤ nF ∧ Hid (L.drop at' = fixB C k (RB.drop k)) ∧ Hid (RowKit.Below w5.heap.size w5 wr)) (fun _ iv _ => n - (intOf iv).toNat)
  case atStart => exact ⟨0, 0, by omega, rfl, rfl, by omega, Lib.hid HLF.out, Lib.hid (Below.refl _ _)⟩
  case round =>
    obtain ⟨k, a', hk, rfl, rfl, ha', hput, hl⟩ := hrel
    by_cases hlt : k < n
    · have hkr : k < RB.length := by have := HLB.out; omega
      have hvw := HR5.out.below hl.out
      obtain ⟨xb, xoff, hao, hbl, a0, a1, a2, a3, a4, a5, a6⟩ := hvw.get hkr
      cases hao
      have hlie := hvw.con RB[k] (List.getElem_mem hkr)
      have hgx := HGB.out RB[k] (List.getElem_mem hkr)
      have hst := hput.out
      rw [List.drop_eq_getElem_cons hkr, fixB] at hst
      generalize RB[k] = x at *
      have HMS := Lib.hid (fun v v' W (hv : IsC C v W) (hv' : IsC x.c v' W) (hTW : Tabs W) => c_refmissing (nx := 90) (ny := 15) hTW hv HGC.out hv' hgx (by omega))
      have HRI := Lib.hid (show ∀ u ∈ missF C x.c, rightF u = true from fun u hu => HGC.out.okc.right u (mem_missF.1 hu).1)
      have HLN := Lib.hid (show (missF C x.c).length ≤ 1000 from by
        have h1 : (missF C x.c).length ≤ (allF C).length := List.length_filter_le _ _
        rw [len_allF] at h1
        have := HGC.out.okc.len
        omega)
      have HST := Lib.hid hst
      have HLX := Lib.hid hlie
      clear hlie hst hput hgx hvw
      obtain ⟨xa, xb', xd, xc, ⟨gp, gl, gw⟩, xq⟩ := x
      obtain ⟨o1, n1, k1, e1⟩ := HLX.out.cells.slice
      obtain ⟨o2, n2, k2, e2⟩ := HLX.out.wipes.slice
      obtain ⟨o3, n3, k3, e3⟩ := HLX.out.sibs.slice
      simp only [] at e1 e2 e3
      subst e1 e2 e3
      simp only [] at a0 a1 a2 a3 a4 a5 a6 HMS HRI HLN HST HLX
      have HA := Lib.hid (fun W (h : RowKit.Below wr.heap.size wr W) => show W.cell? ⟨xb, xoff + k * 7, none⟩ = some (.slice o1 n1 k1) ∧ W.cell? ⟨xb, xoff + k * 7 + 1, none⟩ = some (.slice o2 n2 k2) ∧ W.cell? ⟨xb, xoff + k * 7 + 2, none⟩ = some (.slice o3 n3 k3) ∧ W.cell? ⟨xb, xoff + k * 7 + 3, none⟩ = some (.int .i64 gp) ∧ W.cell? ⟨xb, xoff + k * 7 + 4, none⟩ = some (.int .i64 gl) ∧ W.cell? ⟨xb, xoff + k * 7 + 5, none⟩ = some (.int .i64 gw) from
        ⟨(h.cell (p := ⟨xb, xoff + k * 7, none⟩) hbl).trans a0, (h.cell (p := ⟨xb, xoff + k * 7 + 1, none⟩) hbl).trans a1, (h.cell (p := ⟨xb, xoff + k * 7 + 2, none⟩) hbl).trans a2, (h.cell (p := ⟨xb, xoff + k * 7 + 3, none⟩) hbl).trans a3, (h.cell (p := ⟨xb, xoff + k * 7 + 4, none⟩) hbl).trans a4, (h.cell (p := ⟨xb, xoff + k * 7 + 5, none⟩) hbl).trans a5⟩)
      clear a0 a1 a2 a3 a4 a5 a6
      have j0 : (0 : Int) ≤ (k : Int) := by omega
      have j1 : (k : Int) < (n : Int) := by omega
      have HCr := Lib.hid (HC5.out.below hl.out)
      have HLr := Lib.hid (HL5.out.below hl.out)
      have HTr := Lib.hid (HT.out.below (below_then HB5.out (Nat.le_refl _) hl.out))
      go_wp2_with fail
      refine wp_region_told [] 7 [false, false, false, false, false, false, false, false, false, false, false, false, false, false, false, false, false, false, false, false, false, false, false, false, false, false, false, false, false, false, false, false, true, true, true, true, true, true, true, false, false, false, false, false, false, false, false, false, false, false, false, false, false, false, false, false, false, false, false, false, false, false, false, false, false, false, false, false, false, false, false, false, false, false, false, false, false, false, false, false, false, false, false, false, false, false, false, false, false, false, false, false, false]
        [sLit (.agg #[.slice p1 q1 r1, .slice p2 q2 r2, .slice p3 q3 r3]),
    sLit (.slice (some ⟨xb, xoff, none⟩) n cb),
    sLit (.int .i64 k),
    sLit (.pointer (some ⟨xb, xoff + k * 7, none⟩)),
    sLit (.pointer (some ⟨xb, xoff + k * 7, none⟩)),
    sLit (.agg #[.slice o1 n1 k1, .slice o2 n2 k2, .slice o3 n3 k3]),
    sOne (fun v W => Reads W v (missF C xc)) (fun _ _ _ h hb => h.below hb)] (by kernel_rfl) (by kernel_rfl) (by kernel_rfl) (fun F hF => ?_)
      simp only [over, overL, Nat.reduceAdd] at hF
      obtain rfl := funext hF
      clear hF
      refine ⟨⟨?_, ?_, ?_, ?_, ?_, ?_, ?_, trivial⟩, ?_⟩
      · intro V W hb hd K hK _
        clear hd
        obtain ⟨-, s0, s1, s2, -⟩ := HCr.out.below hb
        go_wp2_with fail
        refine hK _ _ ?_ ?_ ?_ ?_
        · rfl
        · exact Below.refl _ _
        · exact rfl
        · trivial
      · intro V W hb hd K hK _
        clear hd
        go_wp2_with fail
        refine hK _ _ ?_ ?_ ?_ ?_
        · rfl
        · exact Below.refl _ _
        · exact rfl
        · trivial
      · intro V W hb hd K hK _
        clear hd
        go_wp2_with fail
        refine hK _ _ ?_ ?_ ?_ ?_
        · rfl
        · exact Below.refl _ _
        · exact rfl
        · trivial
      · intro V W hb hd K hK _
        have h1 : (V 33) = .slice (some ⟨xb, xoff, none⟩) n cb := hd 1 (by kernel_rfl)
        have h2 : (V 34) = .int .i64 k := hd 2 (by kernel_rfl)
        clear hd
        go_wp2_with fail
        refine hK _ _ ?_ ?_ ?_ ?_
        · rfl
        · exact Below.refl _ _
        · exact rfl
        · trivial
      · intro V W hb hd K hK _
        have h3 : (V 35) = .pointer (some ⟨xb, xoff + k * 7, none⟩) := hd 3 (by kernel_rfl)
        clear hd
        go_wp2_with fail
        refine hK _ _ ?_ ?_ ?_ ?_
        · rfl
        · exact Below.refl _ _
        · exact rfl
        · trivial
      · intro V W hb hd K hK _
        have h4 : (V 36) = .pointer (some ⟨xb, xoff + k * 7, none⟩) := hd 4 (by kernel_rfl)
        clear hd
        obtain ⟨a0, a1, a2, a3, a4, a5⟩ := HA.out W hb
        go_wp2_with fail
        refine hK _ _ ?_ ?_ ?_ ?_
        · rfl
        · exact Below.refl _ _
        · exact rfl
        · trivial
      · intro V W hb hd K hK _
        have h0 : (V 32) = .agg #[.slice p1 q1 r1, .slice p2 q2 r2, .slice p3 q3 r3] := hd 0 (by kernel_rfl)
        have h5 : (V 37) = .agg #[.slice o1 n1 k1, .slice o2 n2 k2, .slice o3 n3 k3] := hd 5 (by kernel_rfl)
        clear hd
        go_wp2_with fail
        refine (HMS.out _ _ W (HLr.out.below hb).is (HLX.out.below hb).is (HTr.out.below hb)).mono ?_
        rintro e w1 ⟨v1, rfl, hv1, hb1⟩
        go_wp2_with fail
        refine hK _ _ ?_ ?_ ?_ ?_
        · rfl
        · exact hb1
        · exact hv1
        · trivial
      · intro V W hb hd hap
        have h6 : Reads W (V 38) (missF C xc) := hd 6 (by decide)
        clear hd hap
        simp only [List.drop_succ_cons, List.drop_zero]
        obtain ⟨RM, eM, hM⟩ := h6
        obtain ⟨mo, mc, e38, hmc1, hmc2⟩ := hM.form
        rw [e38] at hM
        obtain ⟨nm, hnm⟩ : ∃ n, n = RM.length := ⟨_, rfl⟩
        rw [← hnm] at hM e38 hmc1
        have hnm2 : nm ≤ 1000 := by rw [hnm]; have h := congrArg List.length eM; rw [List.length_map] at h; rw [h]; exact HLN.out
        have HRM := Lib.hid (show ∀ z ∈ RM, rightF z.1 = true from fun z hz => HRI.out z.1 (eM ▸ List.mem_map.2 ⟨z, hz, rfl⟩))
        obtain ⟨P, hP⟩ : ∃ P, P = fixB C (k + 1) (RB.drop (k + 1)) := ⟨_, rfl⟩
        have HP := Lib.hid hP
        have HPE := Lib.hid (show L.drop a' = ((RM.filter fun y => decide (stC ⟨gp, gl, gw⟩ y.1.at_ < 0)).map fun y => ((k : Int) + 3, y.1)) ++ P by
          rw [hP, HST.out, ← eM, List.filter_map, List.map_map]
          rfl)
        have HM := Lib.hid hM
        have HNM := Lib.hid hnm
        have HBr := Lib.hid (below_then hl.out (Nat.le_refl _) hb)
        have HXr := Lib.hid (fun W' (h : RowKit.Below W.heap.size W W') => HA.out W' (below_then hb (Nat.le_refl _) h))
        clear hM hnm eM hP HST HA HMS HRI HLN hb hl HCr HLr HTr HLX
        go_wp2_with fail
        go_loopw [8, 11] (fun av iv wr => ∃ (j at' : Nat), j ≤ nm ∧ iv = .int .i64 j ∧ av = .int .i64 at' ∧ at' ≤ nF ∧ Hid (L.drop at' = (((RM.drop j).filter fun y => decide (stC ⟨gp, gl, gw⟩ y.1.at_ < 0)).map fun y => ((k : Int) + 3, y.1)) ++ P) ∧ Hid (RowKit.Below W.heap.size W wr)) (fun _ iv _ => nm - (intOf iv).toNat)
        case atStart => exact ⟨0, a', by omega, rfl, rfl, by omega, HPE, Lib.hid (Below.refl _ _)⟩
        case round =>
          clear HPE ha'
          obtain ⟨j, a', hj, rfl, rfl, ha', hput, hl⟩ := hrel
          by_cases hlt2 : j < nm
          · have hjr : j < RM.length := by have := HNM.out; omega
            obtain ⟨z, hz⟩ : ∃ x, RM[j]? = some x := ⟨_, List.getElem?_eq_getElem hjr⟩
            have hze : RM[j] = z := (List.getElem?_eq_some_iff.1 hz).2
            have hzm := List.mem_of_getElem? hz
            have hmw := HM.out.below hl.out
            have hzo := hmw.over z hzm
            obtain ⟨zb, zoff, hmo, hat⟩ := hmw.at_ hz
            cases hmo
            have hst := hput.out
            obtain ⟨D, hD⟩ : ∃ D, D = decide (stC ⟨gp, gl, gw⟩ z.1.at_ < 0) := ⟨_, rfl⟩
            rw [List.drop_eq_getElem_cons hjr, hze, fix_step ((k : Int) + 3) ⟨gp, gl, gw⟩ z _ D hD] at hst
            have HLS := Lib.hid (fun W => refless_any ⟨gp, gl, gw⟩ z.1.at_ W)
            rw [← hD] at HLS
            have HZS := Lib.hid ((small_right (HRM.out z hzm)).over)
            obtain ⟨zo, zc, ez, -, -⟩ := Over.form hzo
            obtain ⟨ZZ, hZZ⟩ : ∃ Z : Ro, Z = z := ⟨_, rfl⟩
            have HZZ := Lib.hid hZZ
            rw [← hZZ] at hat hzo hst HZS
            have HST := Lib.hid hst
            have HAT := Lib.hid (fun W' (h : RowKit.Below wr.heap.size wr W') => hat.below h)
            have HZO := Lib.hid hzo
            have HXw := Lib.hid (fun W' (h : RowKit.Below wr.heap.size wr W') => HXr.out W' (below_then hl.out (Nat.le_refl _) h))
            clear hat hzo hzm hze hz hD hst hmw hZZ hput
            obtain ⟨⟨at1, ak1, akey1, afin1, aval1, aex1, ⟨ap1, al1, aw1⟩, aov1⟩, av1⟩ := z
            simp only [] at ez HLS
            obtain ⟨zn, hzn⟩ : ∃ k, k = aov1.length := ⟨_, rfl⟩
            rw [← hzn] at ez
            subst ez
            have HZN := Lib.hid hzn
            clear hzn
            unfold vS at HLS
            simp only [] at HLS
            have i0 : (0 : Int) ≤ (j : Int) := by omega
            have i1 : (j : Int) < (nm : Int) := by omega
            go_wp2_with fail
            refine wp_region_told [] 11 [false, false, false, false, false, false, false, false, false, false, false, false, false, false, false, false, false, false, false, false, false, false, false, false, false, false, false, false, false, false, false, false, false, false, false, false, false, false, false, false, false, false, false, false, false, true, true, true, true, true, true, true, true, true, true, true, false, false, false, false, false, false, false, false, false, false, false, false, false, false, false, false, false, false, false, false, false, false, false, false, false, false, false, false, false, false, false, false, false, false, false, false, false]
              [sLit (.slice (some ⟨xb, xoff, none⟩) n cb),
    sLit (.int .i64 k),
    sLit (.pointer (some ⟨xb, xoff + k * 7, none⟩)),
    sLit (.pointer (some ⟨xb, xoff + k * 7 + 3, none⟩)),
    sLit (.agg #[.int .i64 gp, .int .i64 gl, .int .i64 gw]),
    sLit (.slice (some ⟨zb, zoff, none⟩) nm mc),
    sLit (.int .i64 j),
    sLit (.pointer (some ⟨zb, zoff + j * 10, none⟩)),
    sLit (.pointer (some ⟨zb, zoff + j * 10 + 6, none⟩)),
    sLit (.agg #[.int .i64 ap1, .int .i64 al1, .int .i64 aw1]),
    sLit (.bool D)] (by kernel_rfl) (by kernel_rfl) (by kernel_rfl) (fun F hF => ?_)
            simp only [over, overL, Nat.reduceAdd] at hF
            obtain rfl := funext hF
            clear hF
            refine ⟨⟨?_, ?_, ?_, ?_, ?_, ?_, ?_, ?_, ?_, ?_, ?_, trivial⟩, ?_⟩
            · intro V W hb hd K hK _
              clear hd
              go_wp2_with fail
              refine hK _ _ ?_ ?_ ?_ ?_
              · rfl
              · exact Below.refl _ _
              · exact rfl
              · trivial
            · intro V W hb hd K hK _
              clear hd
              go_wp2_with fail
              refine hK _ _ ?_ ?_ ?_ ?_
              · rfl
              · exact Below.refl _ _
              · exact rfl
              · trivial
            · intro V W hb hd K hK _
              have h0 : (V 45) = .slice (some ⟨xb, xoff, none⟩) n cb := hd 0 (by kernel_rfl)
              have h1 : (V 46) = .int .i64 k := hd 1 (by kernel_rfl)
              clear hd
              go_wp2_with fail
              refine hK _ _ ?_ ?_ ?_ ?_
              · rfl
              · exact Below.refl _ _
              · exact rfl
              · trivial
            · intro V W hb hd K hK _
              have h2 : (V 47) = .pointer (some ⟨xb, xoff + k * 7, none⟩) := hd 2 (by kernel_rfl)
              clear hd
              go_wp2_with fail
              refine hK _ _ ?_ ?_ ?_ ?_
              · rfl
              · exact Below.refl _ _
              · exact rfl
              · trivial
            · intro V W hb hd K hK _
              have h3 : (V 48) = .pointer (some ⟨xb, xoff + k * 7 + 3, none⟩) := hd 3 (by kernel_rfl)
              clear hd
              obtain ⟨a0, a1, a2, a3, a4, a5⟩ := HXw.out W hb
              go_wp2_with fail
              refine hK _ _ ?_ ?_ ?_ ?_
              · rfl
              · exact Below.refl _ _
              · exact rfl
              · trivial
            · intro V W hb hd K hK _
              clear hd
              go_wp2_with fail
              refine hK _ _ ?_ ?_ ?_ ?_
              · rfl
              · exact Below.refl _ _
              · exact rfl
              · trivial
            · intro V W hb hd K hK _
              clear hd
              go_wp2_with fail
              refine hK _ _ ?_ ?_ ?_ ?_
              · rfl
              · exact Below.refl _ _
              · exact rfl
              · trivial
            · intro V W hb hd K hK _
              have h5 : (V 50) = .slice (some ⟨zb, zoff, none⟩) nm mc := hd 5 (by kernel_rfl)
              have h6 : (V 51) = .int .i64 j := hd 6 (by kernel_rfl)
              clear hd
              go_wp2_with fail
              refine hK _ _ ?_ ?_ ?_ ?_
              · rfl
              · exact Below.refl _ _
              · exact rfl
              · trivial
            · intro V W hb hd K hK _
              have h7 : (V 52) = .pointer (some ⟨zb, zoff + j * 10, none⟩) := hd 7 (by kernel_rfl)
              clear hd
              go_wp2_with fail
              refine hK _ _ ?_ ?_ ?_ ?_
              · rfl
              · exact Below.refl _ _
              · exact rfl
              · trivial
            · intro V W hb hd K hK _
              have h8 : (V 53) = .pointer (some ⟨zb, zoff + j * 10 + 6, none⟩) := hd 8 (by kernel_rfl)
              clear hd
              have hA := HAT.out W hb
              rw [HZZ.out] at hA
              obtain ⟨hbl3, a0, a1, a2, a3, a4, a5, a6, a7, a8, a9⟩ := hA
              simp only [] at a0 a1 a2 a3 a4 a5 a6 a7 a8 a9
              go_wp2_with fail
              refine hK _ _ ?_ ?_ ?_ ?_
              · rfl
              · exact Below.refl _ _
              · exact rfl
              · trivial
            · intro V W hb hd K hK _
              have h4 : (V 49) = .agg #[.int .i64 gp, .int .i64 gl, .int .i64 gw] := hd 4 (by kernel_rfl)
              have h9 : (V 54) = .agg #[.int .i64 ap1, .int .i64 al1, .int .i64 aw1] := hd 9 (by kernel_rfl)
              clear hd
              go_wp2_with fail
              refine (HLS.out W).mono ?_
              rintro e w1 ⟨rfl, hb1⟩
              go_wp2_with fail
              refine hK _ _ ?_ ?_ ?_ ?_
              · rfl
              · exact hb1
              · exact rfl
              · trivial
            · intro V Wa hb hd hap
              have h10 : (V 55) = .bool D := hd 10 (by decide)
              clear hd hap
              simp only [List.drop_succ_cons, List.drop_zero]
              have HBa := Lib.hid (below_then hl.out (Nat.le_refl _) hb)
              cases D
              · have HS2 := Lib.hid (show L.drop a' = (((RM.drop (j + 1)).filter fun y => decide (stC ⟨gp, gl, gw⟩ y.1.at_ < 0)).map fun y => ((k : Int) + 3, y.1)) ++ P from HST.out)
                clear hb
                go_wp2_with fail
                go_roundw
                case rel => exact ⟨j + 1, a', by omega, by go_num, rfl, by omega, HS2, HBa⟩
                case measure => simp [intOf]; omega
              · have hst := HST.out
                simp only [if_true, List.cons_append, List.nil_append] at hst
                have haL : a' < L.length := by
                  apply Decidable.byContradiction
                  intro h
                  rw [List.drop_of_length_le (by omega)] at hst
                  cases hst
                have haF : a' < nF := by have := HLL.out; omega
                have haf : a' < F.length := by have := HNF.out; omega
                rw [List.drop_eq_getElem_cons haL, List.cons.injEq] at hst
                have HS2 := Lib.hid (show L.drop (a' + 1) = (((RM.drop (j + 1)).filter fun y => decide (stC ⟨gp, gl, gw⟩ y.1.at_ < 0)).map fun y => ((k : Int) + 3, y.1)) ++ P from hst.2)
                obtain ⟨f, hf⟩ : ∃ x, F[a']? = some x := ⟨_, List.getElem?_eq_getElem haf⟩
                have hfe : fxM f = ((k : Int) + 3, ZZ.1) := by
                  rw [← hst.1]
                  have h1 : L[a']? = some (fxM f) := by rw [← HEF.out, List.getElem?_map, hf]; rfl
                  rw [List.getElem?_eq_getElem haL] at h1
                  exact (Option.some.inj h1).symm
                have hfw := HF.out.below (below_then HBr.out (Nat.le_refl _) HBa.out)
                have hfo := hfw.over f (List.mem_of_getElem? hf)
                obtain ⟨fb, foff, hfo1, hfb, c0, hfat⟩ := hfw.at_ hf
                cases hfo1
                obtain ⟨yt, ym, yv⟩ := f
                unfold fxM at hfe
                simp only [Prod.mk.injEq] at hfe
                obtain ⟨e1, e2⟩ := hfe
                subst e1
                simp only [] at c0 hfat hfo
                obtain ⟨yo, yc, ey, -, -⟩ := Over.form hfo
                simp only [] at ey
                rw [e2, HZZ.out] at hfat hfo ey
                simp only [] at hfat hfo ey
                rw [← HZN.out] at ey
                subst ey
                have HFA := Lib.hid (fun W' (h : RowKit.Below Wa.heap.size Wa W') => And.intro ((h.cell (p := ⟨fb, foff + a' * 11, none⟩) hfb).trans c0) (hfat.below h))
                have HCP := Lib.hid (fun W' (h : RowKit.Below Wa.heap.size Wa W') => refcompare_any ((⟨at1, ak1, akey1, afin1, aval1, aex1, ⟨ap1, al1, aw1⟩, aov1⟩, .slice yo zn yc) : Ro) ((⟨at1, ak1, akey1, afin1, aval1, aex1, ⟨ap1, al1, aw1⟩, aov1⟩, .slice zo zn zc) : Ro) W' (hfo.below h) (by have h2 := HZO.out.below (below_then hb (Nat.le_refl _) h); rw [HZZ.out] at h2; exact h2) (by have h2 := HZS.out; rw [HZZ.out] at h2; exact h2) (by have h2 := HZS.out; rw [HZZ.out] at h2; exact h2))
                simp only [muO.self] at HCP
                unfold vM at HCP
                simp only [] at HCP
                have HZA := Lib.hid (fun W' (h : RowKit.Below Wa.heap.size Wa W') => HAT.out W' (below_then hb (Nat.le_refl _) h))
                have m0 : (0 : Int) ≤ (a' : Int) := by omega
                have m1 : (a' : Int) < (nF : Int) := by omega
                have m2 : ((k : Int) + 3 == (k : Int) + 3) = true ∧ ((k : Int) + 3 != (k : Int) + 3) = false := by simp
                have m3 : decide ((a' : Int) ≥ (nF : Int)) = false := decide_eq_false (by omega)
                clear hst hf hfw hfo hfat c0 e2 hfb hb HST HAT haL haf
                go_wp2_with fail
                refine wp_region_told [] 26 [false, false, false, false, false, false, false, false, false, false, false, false, false, false, false, false, false, false, false, false, false, false, false, false, false, false, false, false, false, false, false, false, false, false, false, false, false, false, false, false, false, false, false, false, false, false, false, false, false, false, false, false, false, false, false, false, false, true, true, true, true, true, true, true, true, true, true, true, true, true, true, true, true, true, true, true, true, true, true, true, true, true, true, false, false, false, false, false, false, false, false, false, false]
                  [sLit ((.int .i64 a')),
    sLit ((.slice (some ⟨fb, foff, none⟩) nF fc)),
    sLit (.int .i64 nF),
    sLit (.bool false),
    sLit (.bool false),
    sLit ((.slice (some ⟨fb, foff, none⟩) nF fc)),
    sLit ((.int .i64 a')),
    sLit (.pointer (some ⟨fb, foff + a' * 11, none⟩)),
    sLit (.pointer (some ⟨fb, foff + a' * 11, none⟩)),
    sLit (.int .i64 ((k : Int) + 3)),
    sLit (.int .i64 k),
    sLit (.int .i64 ((k : Int) + 3)),
    sLit (.bool false),
    sLit (.bool false),
    sLit (.bool false),
    sLit ((.slice (some ⟨fb, foff, none⟩) nF fc)),
    sLit ((.int .i64 a')),
    sLit (.pointer (some ⟨fb, foff + a' * 11, none⟩)),
    sLit (.pointer (some ⟨fb, foff + a' * 11 + 1, none⟩)),
    sLit (.agg #[.int .i64 at1, .int .i64 ak1, .string akey1, .string afin1, .string aval1, .int .i64 aex1, .int .i64 ap1, .int .i64 al1, .int .i64 aw1, .slice yo zn yc]),
    sLit (.slice (some ⟨zb, zoff, none⟩) nm mc),
    sLit (.int .i64 j),
    sLit (.pointer (some ⟨zb, zoff + j * 10, none⟩)),
    sLit (.agg #[.int .i64 at1, .int .i64 ak1, .string akey1, .string afin1, .string aval1, .int .i64 aex1, .int .i64 ap1, .int .i64 al1, .int .i64 aw1, .slice zo zn zc]),
    sLit (.int .i64 0),
    sLit (.bool false)] (by kernel_rfl) (by kernel_rfl) (by kernel_rfl) (fun F hF => ?_)
                simp only [over, overL, Nat.reduceAdd] at hF
                obtain rfl := funext hF
                clear hF
                refine ⟨⟨?_, ?_, ?_, ?_, ?_, ?_, ?_, ?_, ?_, ?_, ?_, ?_, ?_, ?_, ?_, ?_, ?_, ?_, ?_, ?_, ?_, ?_, ?_, ?_, ?_, ?_, trivial⟩, ?_⟩
                · intro V W hb hd K hK _
                  clear hd
                  go_wp2_with fail
                  refine hK _ _ ?_ ?_ ?_ ?_
                  · rfl
                  · exact Below.refl _ _
                  · exact rfl
                  · trivial
                · intro V W hb hd K hK _
                  clear hd
                  go_wp2_with fail
                  refine hK _ _ ?_ ?_ ?_ ?_
                  · rfl
                  · exact Below.refl _ _
                  · exact rfl
                  · trivial
                · intro V W hb hd K hK _
                  have h1 : (V 58) = (.slice (some ⟨fb, foff, none⟩) nF fc) := hd 1 (by kernel_rfl)
                  clear hd
                  go_wp2_with fail
                  refine hK _ _ ?_ ?_ ?_ ?_
                  · rfl
                  · exact Below.refl _ _
                  · exact rfl
                  · trivial
                · intro V W hb hd K hK _
                  have h0 : (V 57) = (.int .i64 a') := hd 0 (by kernel_rfl)
                  have h2 : (V 59) = .int .i64 nF := hd 2 (by kernel_rfl)
                  clear hd
                  go_wp2_with fail
                  refine hK _ _ ?_ ?_ ?_ ?_
                  · rfl
                  · exact Below.refl _ _
                  · show Value.bool _ = Value.bool false
                    refine congrArg Value.bool (decide_eq_false ?_)
                    omega
                  · trivial
                · intro V W hb hd K hK _
                  have h3 : (V 60) = .bool false := hd 3 (by kernel_rfl)
                  clear hd
                  go_wp2_with fail
                  refine hK _ _ ?_ ?_ ?_ ?_
                  · rfl
                  · exact Below.refl _ _
                  · exact rfl
                  · trivial
                · intro V W hb hd K hK _
                  have h4 : (V 61) = .bool false := hd 4 (by kernel_rfl)
                  clear hd
                  go_wp2_with fail
                  refine hK _ _ ?_ ?_ ?_ ?_
                  · rfl
                  · exact Below.refl _ _
                  · exact rfl
                  · trivial
                · intro V W hb hd K hK _
                  have h4 : (V 61) = .bool false := hd 4 (by kernel_rfl)
                  clear hd
                  go_wp2_with fail
                  refine hK _ _ ?_ ?_ ?_ ?_
                  · rfl
                  · exact Below.refl _ _
                  · exact rfl
                  · trivial
                · intro V W hb hd K hK _
                  have h4 : (V 61) = .bool false := hd 4 (by kernel_rfl)
                  have h5 : (V 62) = (.slice (some ⟨fb, foff, none⟩) nF fc) := hd 5 (by kernel_rfl)
                  have h6 : (V 63) = (.int .i64 a') := hd 6 (by kernel_rfl)
                  clear hd
                  go_wp2_with fail
                  refine hK _ _ ?_ ?_ ?_ ?_
                  · rfl
                  · exact Below.refl _ _
                  · exact rfl
                  · trivial
                · intro V W hb hd K hK _
                  have h4 : (V 61) = .bool false := hd 4 (by kernel_rfl)
                  have h7 : (V 64) = .pointer (some ⟨fb, foff + a' * 11, none⟩) := hd 7 (by kernel_rfl)
                  clear hd
                  go_wp2_with fail
                  refine hK _ _ ?_ ?_ ?_ ?_
                  · rfl
                  · exact Below.refl _ _
                  · exact rfl
                  · trivial
                · intro V W hb hd K hK _
                  have h4 : (V 61) = .bool false := hd 4 (by kernel_rfl)
                  have h8 : (V 65) = .pointer (some ⟨fb, foff + a' * 11, none⟩) := hd 8 (by kernel_rfl)
                  clear hd
                  obtain ⟨c0, hA⟩ := HFA.out W hb
                  go_wp2_with fail
                  refine hK _ _ ?_ ?_ ?_ ?_
                  · rfl
                  · exact Below.refl _ _
                  · exact rfl
                  · trivial
                · intro V W hb hd K hK _
                  have h4 : (V 61) = .bool false := hd 4 (by kernel_rfl)
                  clear hd
                  go_wp2_with fail
                  refine hK _ _ ?_ ?_ ?_ ?_
                  · rfl
                  · exact Below.refl _ _
                  · exact rfl
                  · trivial
                · intro V W hb hd K hK _
                  have h4 : (V 61) = .bool false := hd 4 (by kernel_rfl)
                  have h10 : (V 67) = .int .i64 k := hd 10 (by kernel_rfl)
                  clear hd
                  go_wp2_with fail
                  refine hK _ _ ?_ ?_ ?_ ?_
                  · rfl
                  · exact Below.refl _ _
                  · exact rfl
                  · trivial
                · intro V W hb hd K hK _
                  have h4 : (V 61) = .bool false := hd 4 (by kernel_rfl)
                  have h9 : (V 66) = .int .i64 ((k : Int) + 3) := hd 9 (by kernel_rfl)
                  have h11 : (V 68) = .int .i64 ((k : Int) + 3) := hd 11 (by kernel_rfl)
                  clear hd
                  go_wp2_with fail
                  refine hK _ _ ?_ ?_ ?_ ?_
                  · rfl
                  · exact Below.refl _ _
                  · exact rfl
                  · trivial
                · intro V W hb hd K hK _
                  have h4 : (V 61) = .bool false := hd 4 (by kernel_rfl)
                  have h12 : (V 69) = .bool false := hd 12 (by kernel_rfl)
                  clear hd
                  go_wp2_with fail
                  refine hK _ _ ?_ ?_ ?_ ?_
                  · rfl
                  · exact Below.refl _ _
                  · exact rfl
                  · trivial
                · intro V W hb hd K hK _
                  have h13 : (V 70) = .bool false := hd 13 (by kernel_rfl)
                  clear hd
                  go_wp2_with fail
                  refine hK _ _ ?_ ?_ ?_ ?_
                  · rfl
                  · exact Below.refl _ _
                  · exact rfl
                  · trivial
                · intro V W hb hd K hK _
                  have h14 : (V 71) = .bool false := hd 14 (by kernel_rfl)
                  clear hd
                  go_wp2_with fail
                  refine hK _ _ ?_ ?_ ?_ ?_
                  · rfl
                  · exact Below.refl _ _
                  · exact rfl
                  · trivial
                · intro V W hb hd K hK _
                  have h14 : (V 71) = .bool false := hd 14 (by kernel_rfl)
                  clear hd
                  go_wp2_with fail
                  refine hK _ _ ?_ ?_ ?_ ?_
                  · rfl
                  · exact Below.refl _ _
                  · exact rfl
                  · trivial
                · intro V W hb hd K hK _
                  have h14 : (V 71) = .bool false := hd 14 (by kernel_rfl)
                  have h15 : (V 72) = (.slice (some ⟨fb, foff, none⟩) nF fc) := hd 15 (by kernel_rfl)
                  have h16 : (V 73) = (.int .i64 a') := hd 16 (by kernel_rfl)
                  clear hd
                  go_wp2_with fail
                  refine hK _ _ ?_ ?_ ?_ ?_
                  · rfl
                  · exact Below.refl _ _
                  · exact rfl
                  · trivial
                · intro V W hb hd K hK _
                  have h14 : (V 71) = .bool false := hd 14 (by kernel_rfl)
                  have h17 : (V 74) = .pointer (some ⟨fb, foff + a' * 11, none⟩) := hd 17 (by kernel_rfl)
                  clear hd
                  go_wp2_with fail
                  refine hK _ _ ?_ ?_ ?_ ?_
                  · rfl
                  · exact Below.refl _ _
                  · exact rfl
                  · trivial
                · intro V W hb hd K hK _
                  have h14 : (V 71) = .bool false := hd 14 (by kernel_rfl)
                  have h18 : (V 75) = .pointer (some ⟨fb, foff + a' * 11 + 1, none⟩) := hd 18 (by kernel_rfl)
                  clear hd
                  obtain ⟨c0, hA⟩ := HFA.out W hb
                  obtain ⟨hbl3, a0, a1, a2, a3, a4, a5, a6, a7, a8, a9⟩ := hA
                  simp only [] at a0 a1 a2 a3 a4 a5 a6 a7 a8 a9
                  go_wp2_with fail
                  refine hK _ _ ?_ ?_ ?_ ?_
                  · rfl
                  · exact Below.refl _ _
                  · exact rfl
                  · trivial
                · intro V W hb hd K hK _
                  have h14 : (V 71) = .bool false := hd 14 (by kernel_rfl)
                  clear hd
                  go_wp2_with fail
                  refine hK _ _ ?_ ?_ ?_ ?_
                  · rfl
                  · exact Below.refl _ _
                  · exact rfl
                  · trivial
                · intro V W hb hd K hK _
                  have h14 : (V 71) = .bool false := hd 14 (by kernel_rfl)
                  clear hd
                  go_wp2_with fail
                  refine hK _ _ ?_ ?_ ?_ ?_
                  · rfl
                  · exact Below.refl _ _
                  · exact rfl
                  · trivial
                · intro V W hb hd K hK _
                  have h14 : (V 71) = .bool false := hd 14 (by kernel_rfl)
                  have h20 : (V 77) = .slice (some ⟨zb, zoff, none⟩) nm mc := hd 20 (by kernel_rfl)
                  have h21 : (V 78) = .int .i64 j := hd 21 (by kernel_rfl)
                  clear hd
                  go_wp2_with fail
                  refine hK _ _ ?_ ?_ ?_ ?_
                  · rfl
                  · exact Below.refl _ _
                  · exact rfl
                  · trivial
                · intro V W hb hd K hK _
                  have h14 : (V 71) = .bool false := hd 14 (by kernel_rfl)
                  have h22 : (V 79) = .pointer (some ⟨zb, zoff + j * 10, none⟩) := hd 22 (by kernel_rfl)
                  clear hd
                  have hA := HZA.out W hb
                  rw [HZZ.out] at hA
                  obtain ⟨hbl3, a0, a1, a2, a3, a4, a5, a6, a7, a8, a9⟩ := hA
                  simp only [] at a0 a1 a2 a3 a4 a5 a6 a7 a8 a9
                  go_wp2_with fail
                  refine hK _ _ ?_ ?_ ?_ ?_
                  · rfl
                  · exact Below.refl _ _
                  · exact rfl
                  · trivial
                · intro V W hb hd K hK _
                  have h14 : (V 71) = .bool false := hd 14 (by kernel_rfl)
                  have h19 : (V 76) = .agg #[.int .i64 at1, .int .i64 ak1, .string akey1, .string afin1, .string aval1, .int .i64 aex1, .int .i64 ap1, .int .i64 al1, .int .i64 aw1, .slice yo zn yc] := hd 19 (by kernel_rfl)
                  have h23 : (V 80) = .agg #[.int .i64 at1, .int .i64 ak1, .string akey1, .string afin1, .string aval1, .int .i64 aex1, .int .i64 ap1, .int .i64 al1, .int .i64 aw1, .slice zo zn zc] := hd 23 (by kernel_rfl)
                  clear hd
                  go_wp2_with fail
                  refine (HCP.out W hb).mono ?_
                  rintro e w1 ⟨rfl, hb1⟩
                  go_wp2_with fail
                  refine hK _ _ ?_ ?_ ?_ ?_
                  · rfl
                  · exact hb1
                  · exact rfl
                  · trivial
                · intro V W hb hd K hK _
                  have h14 : (V 71) = .bool false := hd 14 (by kernel_rfl)
                  have h24 : (V 81) = .int .i64 0 := hd 24 (by kernel_rfl)
                  clear hd
                  go_wp2_with fail
                  refine hK _ _ ?_ ?_ ?_ ?_
                  · rfl
                  · exact Below.refl _ _
                  · exact rfl
                  · trivial
                · intro V W hb hd hap
                  have h14 : (V 71) = .bool false := hd 14 (by decide)
                  have h25 : (V 82) = .bool false := hd 25 (by decide)
                  clear hd hap
                  simp only [List.drop_succ_cons, List.drop_zero]
                  have HBb := Lib.hid (below_then HBa.out (Nat.le_refl _) hb)
                  clear hb
                  go_wp2_with fail
                  go_roundw
                  case rel => exact ⟨j + 1, a' + 1, by omega, by go_num, by go_num, by omega, HS2, HBb⟩
                  case measure => simp [intOf]; omega
          · obtain rfl : j = nm := by omega
            have HE := Lib.hid (show L.drop a' = fixB C (k + 1) (RB.drop (k + 1)) by have h := hput.out; have h2 : RM.drop j = [] := List.drop_of_length_le (by have := HNM.out; omega); rw [h2] at h; rw [h, HP.out]; rfl)
            go_wp2_with fail
            go_roundw
            case rel => exact ⟨k + 1, a', by omega, by go_num, rfl, by omega, HE, Lib.hid (below_then HBr.out (Nat.le_refl _) hl.out)⟩
            case measure => simp [intOf]; omega
    · obtain rfl : k = n := by omega
      have hE : L.drop a' = [] := by have h := hput.out; have h2 : RB.drop k = [] := List.drop_of_length_le (by have := HLB.out; omega); rw [h2] at h; exact h
      have hlen := List.drop_eq_nil_iff.1 hE
      have hLL := HLL.out
      obtain rfl : a' = nF := by omega
      have HAl := Lib.hid (alive29_any wr (HT.out.below (below_then HB5.out (Nat.le_refl _) hl.out)))
      clear hE hlen hLL
      go_wp2_with fail
      refine HAl.out.mono ?_
      rintro e w9 ⟨rfl, hb9⟩
      go_wp2_with fail
      go_ret
      exact ⟨rfl, below_then (below_then HB5.out (Nat.le_refl _) hl.out) (Nat.le_refl _) hb9⟩
end Go.Proofs.YtipoeigehabbmaaGreatDoor.Mut
