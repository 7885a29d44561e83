/- The walks of order.Stamp and of the law OrderMerges (layer 29). PRINTED by wip/genmerges.py. -/
import Derived.Test.YtipoeigehabbmaaGreatDoorRef29
import Derived.Test.YtipoeigehabbmaaGreatDoorFrom
import Derived.Test.YtipoeigehabbmaaGreatDoorGreat25
set_option linter.unusedSimpArgs false
set_option linter.unusedVariables false
namespace Go.Proofs.YtipoeigehabbmaaGreatDoor.Mut
open Go.RowKit Go.Sort Go.Proofs.YtipoeigehabbmaaGreatDoor.Ord Go.Proofs.YtipoeigehabbmaaGreatDoor.RegInv Go.Proofs.YtipoeigehabbmaaGreatDoor.Spare
set_option linter.unusedSectionVars false
variable [Inhabited Lim]

theorem same_floorM : ∀ (T : List Td) (i : Nat) (RA : List Ry) (RB : List Rp), RA.map coreY = coresY i T → RB.map core = T.map coreZ → ∀ s b, (RB.foldl baseStep (s, b)).1 = RA.foldl (fun s x => maxS s x.f) s
  | [], i, RA, RB, h1, h2, s, b => by
    rw [List.map_eq_nil_iff.1 (show RA.map coreY = [] from h1), List.map_eq_nil_iff.1 (show RB.map core = [] from h2)]
    rfl
  | t :: T, i, [], RB, h1, h2, s, b => by cases h1
  | t :: T, i, x :: RA, [], h1, h2, s, b => by cases h2
  | t :: T, i, x :: RA, y :: RB, h1, h2, s, b => by
    rw [List.map_cons, coresY, List.cons.injEq] at h1
    rw [List.map_cons, List.map_cons, List.cons.injEq] at h2
    have e1 : x.f = t.f := congrArg (·.2.2.2) h1.1
    have e2 : y.f = t.f := congrArg (·.2.1) h2.1
    have e3 : y.q = false := congrArg (·.2.2) h2.1
    rw [List.foldl_cons, List.foldl_cons, show baseStep (s, b) y = (maxS s x.f, true) by unfold baseStep; rw [e3, e1, e2]; rfl]
    exact same_floorM T (i + 1) RA RB h1.2 h2.2 _ _
theorem same_countsM (s : Stp) : ∀ (T : List Td) (i : Nat) (RA : List Ry) (RB : List Rp), RA.map coreY = coresY i T → RB.map core = T.map coreZ → RB.map (fun x => countsF x s) = RA.map (countsY s)
  | [], i, RA, RB, h1, h2 => by
    rw [List.map_eq_nil_iff.1 (show RA.map coreY = [] from h1), List.map_eq_nil_iff.1 (show RB.map core = [] from h2)]
    rfl
  | t :: T, i, [], RB, h1, h2 => by cases h1
  | t :: T, i, x :: RA, [], h1, h2 => by cases h2
  | t :: T, i, x :: RA, y :: RB, h1, h2 => by
    rw [List.map_cons, coresY, List.cons.injEq] at h1
    rw [List.map_cons, List.map_cons, List.cons.injEq] at h2
    have e1 : x.f = t.f := congrArg (·.2.2.2) h1.1
    have e2 : y.f = t.f := congrArg (·.2.1) h2.1
    have e3 : y.q = false := congrArg (·.2.2) h2.1
    have e4 : x.c = leftOf (t.l.map (·.1)) := congrArg (·.2.2.1) h1.1
    have e5 : y.c = leftOf (t.l.map (·.1)) := congrArg (·.1) h2.1
    rw [List.map_cons, List.map_cons, same_countsM s T (i + 1) RA RB h1.2 h2.2]
    congr 1
    unfold countsF countsY
    rw [e1, e2, e3, e4, e5]
    rfl
theorem same_mergeM {T : List Td} {RA : List Ry} {RB : List Rp} (h1 : RA.map coreY = coresY 0 T) (h2 : RB.map core = T.map coreZ) : mergeF RA = rmergeF RB := by
  unfold mergeF rmergeF
  rw [same_countsM _ T 0 RA RB h1 h2, show (baseF RB).1 = floorF RA from same_floorM T 0 RA RB h1 h2 zeroS false]
theorem cores_lenM : ∀ (T : List Td) (i : Nat), (coresY i T).length = T.length
  | [], _ => rfl
  | _ :: T, i => by rw [coresY, List.length_cons, cores_lenM T (i + 1), List.length_cons]
theorem cores_conM : ∀ (T : List Td) (i : Nat) (q), q ∈ coresY i T → ∃ y ∈ T, q.2.2.1 = leftOf (y.l.map (·.1))
  | [], _, q, h => by cases h
  | t :: T, i, q, h => by
    rw [coresY, List.mem_cons] at h
    rcases h with rfl | h
    · exact ⟨t, List.mem_cons_self .., rfl⟩
    · obtain ⟨y, hy, e⟩ := cores_conM T (i + 1) q h
      exact ⟨y, List.mem_cons_of_mem _ hy, e⟩

set_option maxHeartbeats 4000000 in
set_option maxRecDepth 100000 in
theorem stamp29_any (c : Stp) (v : Value) (R : List Ry) (w : World) (hv : YRow w v R) (hn : R.length ≤ 1000) :
    Calls Tryz.prog 33 #[vS c, v] w (RetS (maxS c (floorF R)) w) := by
  obtain ⟨W0, hW0⟩ : ∃ W0, W0 = (w.alloc (.cells #[.int .i64 c.p, .int .i64 c.l, .int .i64 c.w] 32)).alloc (.cells #[.int .i64 0, .int .i64 0, .int .i64 0] 32) := ⟨_, rfl⟩
  have HB0 := Lib.hid (show RowKit.Below w.heap.size w W0 by rw [hW0]; exact ((Below.refl _ w).alloc (Nat.le_refl _) _).alloc (by simp) _)
  have HS := Lib.hid (show S3 W0 w.heap.size c by rw [hW0]; exact (S3.new w c).below ((Below.refl _ _).alloc (Nat.le_refl _) _))
  have HZ := Lib.hid (show S3 W0 (w.heap.size + 1) zeroS by
    rw [hW0]
    have := S3.new (w.alloc (.cells #[.int .i64 c.p, .int .i64 c.l, .int .i64 c.w] 32)) zeroS
    rwa [World.size_alloc] at this)
  have HW := Lib.hid hW0
  clear hW0
  have HF := Lib.hid (fun W (h : RowKit.Below W0.heap.size W0 W) => floor_any v R W (hv.below (below_then HB0.out (Nat.le_refl _) h)) hn)
  obtain ⟨fs, hfs⟩ : ∃ s, s = floorF R := ⟨_, rfl⟩
  rw [← hfs] at HF ⊢
  have HM := Lib.hid (fun W => max_any c fs W)
  obtain ⟨M, hM⟩ : ∃ s, s = maxS c fs := ⟨_, rfl⟩
  rw [← hM] at HM ⊢
  clear hfs hM hv
  obtain ⟨fp, fl, fw⟩ := fs
  obtain ⟨mp, ml, mw⟩ := M
  obtain ⟨cp, cl, cw⟩ := c
  unfold RetS vS at HF HM ⊢
  simp only [] at HF HM HW ⊢
  go_enter Tryz.func33, Tryz.ntmps33
  go_upto_region 1 with fail
  rw [← HW.out]
  clear HW
  refine wp_region_told [] 4 [false, false, false, false, false, true, true, true, true]
    [sLit (.agg #[.int .i64 cp, .int .i64 cl, .int .i64 cw]),
    sLit (v),
    sLit (.agg #[.int .i64 fp, .int .i64 fl, .int .i64 fw]),
    sLit (.agg #[.int .i64 mp, .int .i64 ml, .int .i64 mw])] (by kernel_rfl) (by kernel_rfl) (by kernel_rfl) (fun F hF => ?_)
  simp only [over, overL, Nat.reduceAdd] at hF
  obtain rfl := funext hF
  clear hF
  refine ⟨⟨?_, ?_, ?_, ?_, trivial⟩, ?_⟩
  · intro V W hb hd K hK _
    clear hd
    obtain ⟨-, s0, s1, s2, -⟩ := HS.out.below hb
    simp only [] at s0 s1 s2
    go_wp2_with fail
    refine hK _ _ ?_ ?_ ?_ ?_
    · rfl
    · exact Below.refl _ _
    · exact rfl
    · trivial
  · intro V W hb hd K hK _
    clear hd
    go_wp2_with fail
    refine hK _ _ ?_ ?_ ?_ ?_
    · rfl
    · exact Below.refl _ _
    · exact rfl
    · trivial
  · intro V W hb hd K hK _
    have h1 : (V 6) = v := hd 1 (by kernel_rfl)
    clear hd
    go_wp2_with fail
    refine (HF.out W hb).mono ?_
    rintro e w1 ⟨rfl, hb1⟩
    go_wp2_with fail
    refine hK _ _ ?_ ?_ ?_ ?_
    · rfl
    · exact hb1
    · exact rfl
    · trivial
  · intro V W hb hd K hK _
    have h0 : (V 5) = .agg #[.int .i64 cp, .int .i64 cl, .int .i64 cw] := hd 0 (by kernel_rfl)
    have h2 : (V 7) = .agg #[.int .i64 fp, .int .i64 fl, .int .i64 fw] := hd 2 (by kernel_rfl)
    clear hd
    go_wp2_with fail
    refine (HM.out W).mono ?_
    rintro e w1 ⟨rfl, hb1⟩
    go_wp2_with fail
    refine hK _ _ ?_ ?_ ?_ ?_
    · rfl
    · exact hb1
    · exact rfl
    · trivial
  · intro V W hb hd hap
    have h3 : (V 8) = .agg #[.int .i64 mp, .int .i64 ml, .int .i64 mw] := hd 3 (by decide)
    clear hd hap
    simp only [List.drop_succ_cons, List.drop_zero]
    have HBW := Lib.hid (below_then HB0.out (Nat.le_refl _) hb)
    have HZW := Lib.hid (HZ.out.below hb)
    clear hb
    obtain ⟨-, t0, t1, t2, f0, f1, f2⟩ := HZW.out
    go_wp2_with fail
    obtain ⟨-, u0, u1, u2, -⟩ := s3_put HZW.out ⟨mp, ml, mw⟩
    simp only [] at u0 u1 u2
    refine bodyPost_ret (v := .agg #[.int .i64 mp, .int .i64 ml, .int .i64 mw]) (by simp [results, Tryz.f33, go_sem, u0, u1, u2]) rfl ?_
    exact ⟨rfl, s3_put_below HBW.out (by omega) _ _ _⟩

/-! ## The law -/
theorem rowI_get {W : World} {B : Nat} {ao : Option Addr} {n cap : Nat} {l : List Int} (h : RowI W B (.slice ao n cap) l.length (l.map (Value.int .i64 ·))) {k : Nat} (hk : k < l.length) : ∃ g, ao = some ⟨g, 0, none⟩ ∧ g < W.heap.size ∧ W.cell? ⟨g, k, none⟩ = some (.int .i64 l[k]) ∧ n = l.length := by
  rcases h.own.2 with ⟨h1, h2⟩ | ⟨g, cp, cur, h1, -⟩
  · omega
  · simp only [Value.slice.injEq] at h1
    obtain ⟨rfl, rfl, rfl⟩ := h1
    refine ⟨g, rfl, (h.own.lt g rfl).2, ?_, rfl⟩
    have := h.own.cellAt (j := k) (by rw [show zI.length = 1 from rfl]; omega)
    rw [this]
    simp [hk]
theorem rowI_form {W : World} {B : Nat} {v : Value} {n : Nat} {xs : List Value} (h : RowI W B v n xs) : ∃ ao cap, v = .slice ao n cap := by
  rcases h.own.2 with ⟨rfl, rfl⟩ | ⟨g, cp, cur, rfl, -⟩
  · exact ⟨_, _, rfl⟩
  · exact ⟨_, _, rfl⟩
theorem cores_ids : ∀ (T : List Td) (i : Nat) (R : List Ry), R.map coreY = coresY i T → ∀ k, k < T.length → (R.map (·.from_))[k]? = some (((i + k : Nat) : Int) + 3) ∧ (R.map (·.no))[k]? = some (10 * ((i + k : Nat) : Int))
  | [], i, R, h, k, hk => by simp at hk
  | t :: T, i, [], h, k, hk => by cases h
  | t :: T, i, x :: R, h, k, hk => by
    rw [List.map_cons, coresY, List.cons.injEq] at h
    have e0 : x.from_ = (i : Int) + 3 := congrArg (·.1) h.1
    have e1 : x.no = 10 * (i : Int) := congrArg (·.2.1) h.1
    cases k with
    | zero => simp [e0, e1]
    | succ k =>
      have := cores_ids T (i + 1) R h.2 k (by simpa using hk)
      rw [List.map_cons, List.map_cons, List.getElem?_cons_succ, List.getElem?_cons_succ, show i + (k + 1) = i + 1 + k by omega]
      exact this

set_option maxHeartbeats 16000000 in
set_option maxRecDepth 100000 in
theorem omerge_any (v : Value) (T : List Td) (clk : Stp) (w : World) (hT : Tabs w) (hv : TRow w v T) (hz : TSizes T) (hN0 : (default : Lim).n ≤ w.heap.size) :
    Calls Tryz.prog 5 #[v, vS clk] w (RetB true w) := by
  obtain ⟨ao, cap, rfl, -, -⟩ := hv.form
  obtain ⟨n, hN⟩ : ∃ n, n = T.length := ⟨_, rfl⟩
  rw [← hN] at hv ⊢
  have HGR := Lib.hid (fun W (h : RowKit.Below w.heap.size w W) => great25_any (.slice ao n cap) T W (hv.below h) hz)
  obtain ⟨G, hG⟩ : ∃ G, G = great25 T := ⟨_, rfl⟩
  rw [← hG] at HGR
  have HG := Lib.hid hG
  have HV := Lib.hid hv
  have HN := Lib.hid hN
  have HT := Lib.hid hT
  have HN0 := Lib.hid hN0
  clear hv hN hT hN0 hG hz
  obtain ⟨W0, hW0⟩ : ∃ W0, W0 = w.alloc (.cells #[.int .i64 clk.p, .int .i64 clk.l, .int .i64 clk.w] 32) := ⟨_, rfl⟩
  have HS := Lib.hid (show S3 W0 w.heap.size clk by rw [hW0]; exact S3.new w clk)
  have HB0 := Lib.hid (show RowKit.Below w.heap.size w W0 by rw [hW0]; exact (Below.refl _ _).alloc (Nat.le_refl _) _)
  have HW0 := Lib.hid hW0
  clear hW0
  obtain ⟨cp, cl, cw⟩ := clk
  unfold vS
  simp only [] at HW0 ⊢
  obtain ⟨k3, hk3⟩ : ∃ n, n = w.heap.size := ⟨_, rfl⟩
  rw [← hk3] at HS
  have HK3 := Lib.hid hk3
  go_enter Tryz.func5, Tryz.ntmps5
  go_upto_region 1 with fail
  rw [← HW0.out, ← hk3]
  clear HW0 hk3
  go_wp2_with fail
  refine (HGR.out _ HB0.out).mono ?_
  rintro e w1 ⟨rfl, rfl⟩
  cases G
  case true =>
    go_wp2_with fail
    go_ret
    exact ⟨rfl, HB0.out⟩
  obtain ⟨hT6, hTs⟩ := great25_small HG.out.symm
  have hn6 : n ≤ 6 := by have := HN.out; omega
  have hBo := both29_any (.slice ao n cap) T W0 (HT.out.below HB0.out) (HV.out.below HB0.out) (Nat.le_trans HN0.out HB0.out.size) (by omega) (fun x hx => ⟨by have := (hTs x hx).1; omega, (hTs x hx).2⟩)
  have HBO := Lib.hid hBo
  have HTS := Lib.hid hTs
  clear hBo hTs hT6
  go_wp2_with fail
  refine HBO.out.mono ?_
  rintro e w3 ⟨va, vb, RA, RB, rfl, hra, hrb, ea, eb, hb3⟩
  have hlenA : RA.length = n := by have h := congrArg List.length ea; rw [List.length_map, cores_lenM] at h; rw [h]; exact HN.out.symm
  have hlenB : RB.length = n := by have h := congrArg List.length eb; rw [List.length_map, List.length_map] at h; rw [h]; exact HN.out.symm
  obtain ⟨ra, ca, rfl, hca1, hca2⟩ := hra.form
  obtain ⟨rb, cb, rfl, hcb1, hcb2⟩ := hrb.form
  have HGA := Lib.hid (show ∀ x ∈ RA, Good x.c 15 from fun x hx => by
    have h1 : coreY x ∈ coresY 0 T := by rw [← ea]; exact List.mem_map.2 ⟨x, hx, rfl⟩
    obtain ⟨y, hy, e⟩ := cores_conM T 0 _ h1
    have h2 : x.c = leftOf (y.l.map (·.1)) := e
    rw [h2]
    exact (leftOf_good _).more (HTS.out y hy).1)
  have HGB := Lib.hid (show ∀ x ∈ RB, Good x.c 15 from fun x hx => by
    have h1 : core x ∈ T.map coreZ := by rw [← eb]; exact List.mem_map.2 ⟨x, hx, rfl⟩
    obtain ⟨y, hy, e⟩ := List.mem_map.1 h1
    have h2 : x.c = leftOf (y.l.map (·.1)) := (congrArg (·.1) e).symm
    rw [h2]
    exact (leftOf_good _).more (HTS.out y hy).1)
  obtain ⟨C, hC⟩ : ∃ C, C = rmergeF RB := ⟨_, rfl⟩
  have hCA : mergeF RA = C := by rw [hC]; exact same_mergeM ea eb
  have HGC := Lib.hid (show Good C 90 by rw [← hCA]; exact (mergeF_good HGA.out).more (by rw [hlenA]; omega))
  have hfl : floorF RA = (baseF RB).1 := (same_floorM T 0 RA RB ea eb zeroS false).symm
  have HMG := Lib.hid (fun W (h : RowKit.Below w3.heap.size w3 W) => rmerge_any _ RB 15 W (HT.out.below (below_then HB0.out (Nat.le_refl _) (below_then hb3 (Nat.le_refl _) h))) (hrb.below h) HGB.out (by omega) (by omega))
  rw [← hC] at HMG
  have HFR := Lib.hid (fun W (h : RowKit.Below w3.heap.size w3 W) => from_any _ RA W (hra.below h) (by omega))
  have HMA := Lib.hid (fun W (h : RowKit.Below w3.heap.size w3 W) => merge_any _ RA 15 W (HT.out.below (below_then HB0.out (Nat.le_refl _) (below_then hb3 (Nat.le_refl _) h))) (hra.below h) HGA.out (by omega) (by omega))
  have HFA := Lib.hid (fun W (h : RowKit.Below w3.heap.size w3 W) => floor_any _ RA W (hra.below h) (by omega))
  have HSA := Lib.hid (fun W (h : RowKit.Below w3.heap.size w3 W) => stamp29_any ⟨cp, cl, cw⟩ _ RA W (hra.below h) (by omega))
  have HID := Lib.hid (fun (k : Nat) (hk : k < n) => cores_ids T 0 RA ea k (by have := HN.out; omega))
  rw [hCA] at HMA
  rw [hfl] at HFA HSA
  rw [hlenA] at hra hca1 HFR HMA HFA HSA ⊢
  have HLA := Lib.hid hlenA
  rw [hlenB] at hrb hcb1 HMG ⊢
  have HRB := Lib.hid hrb
  have HLB := Lib.hid hlenB
  have HB3 := Lib.hid hb3
  obtain ⟨fs, hfs⟩ : ∃ s, s = (baseF RB).1 := ⟨_, rfl⟩
  rw [← hfs] at HMG HFA HSA
  clear hra hrb ea eb hb3 hlenA hlenB HBO HTS HGR HV hC hCA hfs HG HGA hfl
  unfold RetCS vS at HMG
  unfold RetS vS at HFA HSA
  have HRX := Lib.hid (fun W => refmax_any ⟨cp, cl, cw⟩ fs W)
  obtain ⟨mx, hmx⟩ : ∃ s, s = maxS ⟨cp, cl, cw⟩ fs := ⟨_, rfl⟩
  rw [← hmx] at HSA HRX
  clear hmx
  unfold RetS vS at HRX
  obtain ⟨mp, ml, mw⟩ := mx
  obtain ⟨fp, fl, fw⟩ := fs
  simp only [] at HMG HFA HSA HRX
  go_wp2_with fail
  refine (HMG.out w3 (Below.refl _ _)).mono ?_
  rintro e w4 ⟨v1, rfl, hc, hb4⟩
  obtain ⟨p1, q1, r1, p2, q2, r2, p3, q3, r3, rfl, hl4⟩ := hc.form
  have HL4 := Lib.hid hl4
  have HB4 := Lib.hid hb4
  clear hc hl4 hb4 HMG
  go_upto_region 5 with fail
  obtain ⟨W2, hW2⟩ : ∃ W, W = (w4.alloc (.cells #[.slice p1 q1 r1, .slice p2 q2 r2, .slice p3 q3 r3] 38)).alloc (.cells #[.int .i64 fp, .int .i64 fl, .int .i64 fw] 32) := ⟨_, rfl⟩
  rw [← hW2]
  have hb2 : RowKit.Below w4.heap.size w4 W2 := by rw [hW2]; exact ((Below.refl _ _).alloc (Nat.le_refl _) _).alloc (by simp) _
  have HC2 := Lib.hid (show C3 W2 w4.heap.size (.slice p1 q1 r1) (.slice p2 q2 r2) (.slice p3 q3 r3) by
    rw [hW2]
    exact (C3.newR w4 _ _ _).below ((Below.refl _ _).alloc (Nat.le_refl _) _))
  have HZ2 := Lib.hid (show S3 W2 (w4.heap.size + 1) ⟨fp, fl, fw⟩ by
    rw [hW2]
    have := S3.new (w4.alloc (.cells #[.slice p1 q1 r1, .slice p2 q2 r2, .slice p3 q3 r3] 38)) ⟨fp, fl, fw⟩
    rwa [World.size_alloc] at this)
  have HL2 := Lib.hid (HL4.out.below hb2)
  have HB2 := Lib.hid (below_then HB4.out (Nat.le_refl _) hb2)
  obtain ⟨k5, hk5⟩ : ∃ k, k = w4.heap.size := ⟨_, rfl⟩
  rw [← hk5] at HC2 HZ2 ⊢
  clear hW2 hb2 hk5 HL4 HB4
  go_wp2_with fail
  refine (HFR.out W2 HB2.out).mono ?_
  rintro e w5 ⟨vA, vB, rfl, hA, hB, hb5⟩
  obtain ⟨fo, fc, rfl⟩ := rowI_form hA
  obtain ⟨go, gc, rfl⟩ := rowI_form hB
  have HA5 := Lib.hid (show RowI w5 W2.heap.size (.slice fo n fc) (RA.map (·.from_)).length ((RA.map (·.from_)).map (Value.int .i64 ·)) by rw [List.map_map, List.length_map, HLA.out]; exact hA)
  have HB5 := Lib.hid (show RowI w5 W2.heap.size (.slice go n gc) (RA.map (·.no)).length ((RA.map (·.no)).map (Value.int .i64 ·)) by rw [List.map_map, List.length_map, HLA.out]; exact hB)
  have HC5 := Lib.hid (HC2.out.below hb5)
  have HZ5 := Lib.hid (HZ2.out.below hb5)
  have HL5 := Lib.hid (HL2.out.below hb5)
  have HW5 := Lib.hid (below_then HB2.out (Nat.le_refl _) hb5)
  clear hA hB hb5 HC2 HL2 HZ2 HB2 HFR
  have e0 : ((n : Int) == (n : Int)) = true ∧ ((n : Int) != (n : Int)) = false := by simp
  go_wp2_with fail
  go_loopw [11] (fun iv wr => ∃ (k : Nat), k ≤ n ∧ iv = .int .i64 k ∧ w5 = wr) (fun iv _ => n - (intOf iv).toNat)
  case atStart => exact ⟨0, by omega, rfl, rfl⟩
  case round =>
    obtain ⟨k, hk, rfl, rfl⟩ := hrel
    by_cases hlt : k < n
    · have hkA : k < (RA.map (·.from_)).length := by rw [List.length_map]; have := HLA.out; omega
      have hkB : k < (RA.map (·.no)).length := by rw [List.length_map]; have := HLA.out; omega
      obtain ⟨g, hfo, hgl, c0, -⟩ := rowI_get HA5.out hkA
      obtain ⟨g2, hgo, hgl2, d0, -⟩ := rowI_get HB5.out hkB
      have hid := HID.out k hlt
      rw [List.getElem?_eq_getElem hkA, List.getElem?_eq_getElem hkB] at hid
      rw [Option.some.inj hid.1, Nat.zero_add] at c0
      rw [Option.some.inj hid.2, Nat.zero_add] at d0
      subst hfo hgo
      clear hid hkA hkB
      have j0 : (0 : Int) ≤ (k : Int) := by omega
      have j1 : (k : Int) < (n : Int) := by omega
      have m2 : ((k : Int) + 3 == (k : Int) + 3) = true ∧ ((k : Int) + 3 != (k : Int) + 3) = false := by simp
      have m3 : (10 * (k : Int) == 10 * (k : Int)) = true ∧ (10 * (k : Int) != 10 * (k : Int)) = false := by simp
      go_wp2_with fail
      go_roundw
      case rel => exact ⟨k + 1, by omega, by go_num, (by first | rfl | trivial)⟩
      case measure => simp [intOf]; omega
    · obtain rfl : k = n := by omega
      have HSr := Lib.hid (HS.out.below (below_then HB3.out (Nat.le_refl _) HW5.out))
      have HTr := Lib.hid (HT.out.below (below_then HB0.out (Nat.le_refl _) (below_then HB3.out (Nat.le_refl _) HW5.out)))
      have HIS := Lib.hid (fun v v' W (h1 : IsC C v W) (h2 : IsC C v' W) => c_is true ⟨fun _ => rfl, fun _ => rfl⟩ h1 HGC.out h2 HGC.out)
      have hq2 := guardT_run .eql
      have hq1 := eqlT_run ⟨fp, fl, fw⟩ ⟨fp, fl, fw⟩ true ((eqT_iff _ _).2 rfl)
      have hq3 := eqlT_run ⟨mp, ml, mw⟩ ⟨mp, ml, mw⟩ true ((eqT_iff _ _).2 rfl)
      simp only [] at hq1 hq3
      clear e0
      go_wp2_with fail
      refine wp_region_told [] 22 [false, false, false, false, false, false, false, false, false, false, false, false, false, false, false, false, false, false, false, false, false, false, false, false, false, false, false, false, false, false, false, false, false, false, false, false, false, false, false, false, false, false, false, false, false, false, false, false, false, false, false, false, false, false, false, false, false, false, false, false, false, false, false, true, true, true, true, true, true, true, true, true, true, true, true, true, true, true, true, true, true, true, true, true, true]
        [sLit (.slice ra k ca),
    sOne (IsC (C)) (fun _ _ _ h hb => h.below hb),
    sLit (.agg #[.slice p1 q1 r1, .slice p2 q2 r2, .slice p3 q3 r3]),
    sLit (.bool true),
    sLit (.bool true),
    sLit (.slice ra k ca),
    sLit (.agg #[.int .i64 fp, .int .i64 fl, .int .i64 fw]),
    sLit (.agg #[.int .i64 fp, .int .i64 fl, .int .i64 fw]),
    sLit (.bool true),
    sLit (.bool true),
    sLit (.bool true),
    sLit (.agg #[.int .i64 cp, .int .i64 cl, .int .i64 cw]),
    sLit (.slice ra k ca),
    sLit (.agg #[.int .i64 mp, .int .i64 ml, .int .i64 mw]),
    sLit (.agg #[.int .i64 cp, .int .i64 cl, .int .i64 cw]),
    sLit (.agg #[.int .i64 fp, .int .i64 fl, .int .i64 fw]),
    sLit (.agg #[.int .i64 mp, .int .i64 ml, .int .i64 mw]),
    sLit (.bool true),
    sLit (.bool true),
    sLit (.bool true),
    sLit (.bool true),
    sLit (.bool true)] (by kernel_rfl) (by kernel_rfl) (by kernel_rfl) (fun F hF => ?_)
      simp only [over, overL, Nat.reduceAdd] at hF
      obtain rfl := funext hF
      clear hF
      refine ⟨⟨?_, ?_, ?_, ?_, ?_, ?_, ?_, ?_, ?_, ?_, ?_, ?_, ?_, ?_, ?_, ?_, ?_, ?_, ?_, ?_, ?_, ?_, trivial⟩, ?_⟩
      · intro V W hb hd K hK _
        clear hd
        go_wp2_with fail
        refine hK _ _ ?_ ?_ ?_ ?_
        · rfl
        · exact Below.refl _ _
        · exact rfl
        · trivial
      · intro V W hb hd K hK _
        have h0 : (V 63) = .slice ra k ca := hd 0 (by kernel_rfl)
        clear hd
        go_wp2_with fail
        refine (HMA.out W (below_then HW5.out (Nat.le_refl _) hb)).mono ?_
        rintro e w1 ⟨v1, rfl, hv1, hb1⟩
        go_wp2_with fail
        refine hK _ _ ?_ ?_ ?_ ?_
        · rfl
        · exact hb1
        · exact hv1
        · trivial
      · intro V W hb hd K hK _
        clear hd
        obtain ⟨-, s0, s1, s2, -⟩ := HC5.out.below hb
        go_wp2_with fail
        refine hK _ _ ?_ ?_ ?_ ?_
        · rfl
        · exact Below.refl _ _
        · exact rfl
        · trivial
      · intro V W hb hd K hK _
        have h1 : IsC (C) (V 64) W := hd 1 (by kernel_rfl)
        have h2 : (V 65) = .agg #[.slice p1 q1 r1, .slice p2 q2 r2, .slice p3 q3 r3] := hd 2 (by kernel_rfl)
        clear hd
        go_wp2_with fail
        refine (HIS.out _ _ W h1 (HL5.out.below hb).is).mono ?_
        rintro e w1 ⟨rfl, hb1⟩
        go_wp2_with fail
        refine hK _ _ ?_ ?_ ?_ ?_
        · rfl
        · exact hb1
        · exact rfl
        · trivial
      · intro V W hb hd K hK _
        have h3 : (V 66) = .bool true := hd 3 (by kernel_rfl)
        clear hd
        go_wp2_with fail
        refine hK _ _ ?_ ?_ ?_ ?_
        · rfl
        · exact Below.refl _ _
        · exact rfl
        · trivial
      · intro V W hb hd K hK _
        have h4 : (V 67) = .bool true := hd 4 (by kernel_rfl)
        clear hd
        go_wp2_with fail
        refine hK _ _ ?_ ?_ ?_ ?_
        · rfl
        · exact Below.refl _ _
        · exact rfl
        · trivial
      · intro V W hb hd K hK _
        have h4 : (V 67) = .bool true := hd 4 (by kernel_rfl)
        have h5 : (V 68) = .slice ra k ca := hd 5 (by kernel_rfl)
        clear hd
        go_wp2_with fail
        refine (HFA.out W (below_then HW5.out (Nat.le_refl _) hb)).mono ?_
        rintro e w1 ⟨rfl, hb1⟩
        go_wp2_with fail
        refine hK _ _ ?_ ?_ ?_ ?_
        · rfl
        · exact hb1
        · exact rfl
        · trivial
      · intro V W hb hd K hK _
        have h4 : (V 67) = .bool true := hd 4 (by kernel_rfl)
        clear hd
        obtain ⟨-, s0, s1, s2, -⟩ := HZ5.out.below hb
        simp only [] at s0 s1 s2
        go_wp2_with fail
        refine hK _ _ ?_ ?_ ?_ ?_
        · rfl
        · exact Below.refl _ _
        · exact rfl
        · trivial
      · intro V W hb hd K hK _
        have h4 : (V 67) = .bool true := hd 4 (by kernel_rfl)
        have h6 : (V 69) = .agg #[.int .i64 fp, .int .i64 fl, .int .i64 fw] := hd 6 (by kernel_rfl)
        have h7 : (V 70) = .agg #[.int .i64 fp, .int .i64 fl, .int .i64 fw] := hd 7 (by kernel_rfl)
        clear hd
        go_wp2_with fail
        refine hK _ _ ?_ ?_ ?_ ?_
        · rfl
        · exact Below.refl _ _
        · exact rfl
        · trivial
      · intro V W hb hd K hK _
        have h4 : (V 67) = .bool true := hd 4 (by kernel_rfl)
        have h8 : (V 71) = .bool true := hd 8 (by kernel_rfl)
        clear hd
        go_wp2_with fail
        refine hK _ _ ?_ ?_ ?_ ?_
        · rfl
        · exact Below.refl _ _
        · exact rfl
        · trivial
      · intro V W hb hd K hK _
        have h9 : (V 72) = .bool true := hd 9 (by kernel_rfl)
        clear hd
        go_wp2_with fail
        refine hK _ _ ?_ ?_ ?_ ?_
        · rfl
        · exact Below.refl _ _
        · exact rfl
        · trivial
      · intro V W hb hd K hK _
        have h10 : (V 73) = .bool true := hd 10 (by kernel_rfl)
        clear hd
        obtain ⟨-, s0, s1, s2, -⟩ := HSr.out.below hb
        simp only [] at s0 s1 s2
        go_wp2_with fail
        refine hK _ _ ?_ ?_ ?_ ?_
        · rfl
        · exact Below.refl _ _
        · exact rfl
        · trivial
      · intro V W hb hd K hK _
        have h10 : (V 73) = .bool true := hd 10 (by kernel_rfl)
        clear hd
        go_wp2_with fail
        refine hK _ _ ?_ ?_ ?_ ?_
        · rfl
        · exact Below.refl _ _
        · exact rfl
        · trivial
      · intro V W hb hd K hK _
        have h10 : (V 73) = .bool true := hd 10 (by kernel_rfl)
        have h11 : (V 74) = .agg #[.int .i64 cp, .int .i64 cl, .int .i64 cw] := hd 11 (by kernel_rfl)
        have h12 : (V 75) = .slice ra k ca := hd 12 (by kernel_rfl)
        clear hd
        go_wp2_with fail
        refine (HSA.out W (below_then HW5.out (Nat.le_refl _) hb)).mono ?_
        rintro e w1 ⟨rfl, hb1⟩
        go_wp2_with fail
        refine hK _ _ ?_ ?_ ?_ ?_
        · rfl
        · exact hb1
        · exact rfl
        · trivial
      · intro V W hb hd K hK _
        have h10 : (V 73) = .bool true := hd 10 (by kernel_rfl)
        clear hd
        obtain ⟨-, s0, s1, s2, -⟩ := HSr.out.below hb
        simp only [] at s0 s1 s2
        go_wp2_with fail
        refine hK _ _ ?_ ?_ ?_ ?_
        · rfl
        · exact Below.refl _ _
        · exact rfl
        · trivial
      · intro V W hb hd K hK _
        have h10 : (V 73) = .bool true := hd 10 (by kernel_rfl)
        clear hd
        obtain ⟨-, s0, s1, s2, -⟩ := HZ5.out.below hb
        simp only [] at s0 s1 s2
        go_wp2_with fail
        refine hK _ _ ?_ ?_ ?_ ?_
        · rfl
        · exact Below.refl _ _
        · exact rfl
        · trivial
      · intro V W hb hd K hK _
        have h10 : (V 73) = .bool true := hd 10 (by kernel_rfl)
        have h14 : (V 77) = .agg #[.int .i64 cp, .int .i64 cl, .int .i64 cw] := hd 14 (by kernel_rfl)
        have h15 : (V 78) = .agg #[.int .i64 fp, .int .i64 fl, .int .i64 fw] := hd 15 (by kernel_rfl)
        clear hd
        go_wp2_with fail
        refine (HRX.out W).mono ?_
        rintro e w1 ⟨rfl, hb1⟩
        go_wp2_with fail
        refine hK _ _ ?_ ?_ ?_ ?_
        · rfl
        · exact hb1
        · exact rfl
        · trivial
      · intro V W hb hd K hK _
        have h10 : (V 73) = .bool true := hd 10 (by kernel_rfl)
        have h13 : (V 76) = .agg #[.int .i64 mp, .int .i64 ml, .int .i64 mw] := hd 13 (by kernel_rfl)
        have h16 : (V 79) = .agg #[.int .i64 mp, .int .i64 ml, .int .i64 mw] := hd 16 (by kernel_rfl)
        clear hd
        go_wp2_with fail
        refine hK _ _ ?_ ?_ ?_ ?_
        · rfl
        · exact Below.refl _ _
        · exact rfl
        · trivial
      · intro V W hb hd K hK _
        have h10 : (V 73) = .bool true := hd 10 (by kernel_rfl)
        have h17 : (V 80) = .bool true := hd 17 (by kernel_rfl)
        clear hd
        go_wp2_with fail
        refine hK _ _ ?_ ?_ ?_ ?_
        · rfl
        · exact Below.refl _ _
        · exact rfl
        · trivial
      · intro V W hb hd K hK _
        have h18 : (V 81) = .bool true := hd 18 (by kernel_rfl)
        clear hd
        go_wp2_with fail
        refine hK _ _ ?_ ?_ ?_ ?_
        · rfl
        · exact Below.refl _ _
        · exact rfl
        · trivial
      · intro V W hb hd K hK _
        have h19 : (V 82) = .bool true := hd 19 (by kernel_rfl)
        clear hd
        go_wp2_with fail
        refine (alive29_any W (HTr.out.below hb)).mono ?_
        rintro e w1 ⟨rfl, hb1⟩
        go_wp2_with fail
        refine hK _ _ ?_ ?_ ?_ ?_
        · rfl
        · exact hb1
        · exact rfl
        · trivial
      · intro V W hb hd K hK _
        have h19 : (V 82) = .bool true := hd 19 (by kernel_rfl)
        have h20 : (V 83) = .bool true := hd 20 (by kernel_rfl)
        clear hd
        go_wp2_with fail
        refine hK _ _ ?_ ?_ ?_ ?_
        · rfl
        · exact Below.refl _ _
        · exact rfl
        · trivial
      · intro V W hb hd hap
        have h21 : (V 84) = .bool true := hd 21 (by decide)
        clear hd hap
        simp only [List.drop_succ_cons, List.drop_zero]
        have HBF := Lib.hid (below_then HB0.out (Nat.le_refl _) (below_then HB3.out (Nat.le_refl _) (below_then HW5.out (Nat.le_refl _) hb)))
        clear hb
        go_wp2_with fail
        go_ret
        exact ⟨rfl, HBF.out⟩
end Go.Proofs.YtipoeigehabbmaaGreatDoor.Mut
