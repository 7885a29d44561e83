/- The walk of the law OrderSees (layer 29): nothing rises, whoever answers. PRINTED by wip/gensees.py. -/
import Derived.Test.YtmfhmcegmeinnaaGreatDoorSeesAll
import Derived.Test.YtmfhmcegmeinnaaGreatDoorOldArg
import Derived.Test.YtmfhmcegmeinnaaGreatDoorScan
import Derived.Test.YtmfhmcegmeinnaaGreatDoorRefView2
set_option linter.unusedSimpArgs false
set_option linter.unusedVariables false
namespace Go.Proofs.YtmfhmcegmeinnaaGreatDoor.Mut
open Go.RowKit Go.Sort Go.Proofs.YtmfhmcegmeinnaaGreatDoor.Ord Go.Proofs.YtmfhmcegmeinnaaGreatDoor.RegInv Go.Proofs.YtmfhmcegmeinnaaGreatDoor.Spare
set_option linter.unusedSectionVars false
variable [Inhabited Lim]

theorem see_leftS (RA : List Ro) (l : List Mu) (hl : RA.map (·.1) = l) (t phys : Int) (from_ to_ : ByteArray) : seeW (seeB ((setRo RA).map (·.1)) t from_ to_ phys) [] ((setRo RA).map (·.1)) = scanF (leftOf l) t from_ to_ phys := by
  obtain ⟨h1, h2, -⟩ := setRo_spec RA
  rw [hl] at h2
  exact see_shown l _ h1 h2 t from_ to_ phys
theorem setRo_overS {RA : List Ro} {k : Nat} (h : ∀ x ∈ RA, x.1.over.length ≤ k) : ∀ x ∈ setRo RA, x.1.over.length ≤ k := fun x hx => h x (setRo_mem RA x hx)
theorem scan_lenS {c : Con} {n : Nat} (h : Good c n) (t phys : Int) (from_ to_ : ByteArray) : (scanF c t from_ to_ phys).length ≤ n := by
  unfold scanF shownF liveF
  rw [List.length_map]
  have hl := h.okc.len
  have h0 : c.all.length = c.cells.length + (c.wipes.length + c.sibs.length) := by unfold Con.all; simp
  refine Nat.le_trans (List.length_filter_le _ _) (Nat.le_trans (List.length_filter_le _ _) ?_)
  split
  · exact Nat.le_trans (List.length_filter_le _ _) (by omega)
  · exact Nat.le_trans (List.length_filter_le _ _) (by omega)
def SzM (y : Ro) : Prop := y.1.key.size ≤ maxLen ∧ y.1.fin.size ≤ maxLen ∧ y.1.val.size ≤ maxLen
/-- What all have taken by the first k replicas. -/
def allR (B : List Ro) (T : List Qa) (k : Nat) : List Ro := B ++ (T.take k).flatMap (·.l)
theorem allR_step {B : List Ro} {T : List Qa} {k : Nat} {x : Qa} (h : T[k]? = some x) : allR B T (k + 1) = allR B T k ++ x.l := by
  unfold allR
  rw [List.take_add_one, h, Option.toList_some, List.flatMap_append, List.flatMap_singleton, List.append_assoc]
def qrOf (x : Qa) : Qr := ⟨x.s, x.l.map (·.1)⟩

set_option maxHeartbeats 32000000 in
set_option maxRecDepth 100000 in
theorem sees_any (u v2 : Value) (B : List Ro) (f g : Stp) (phys : Int) (T : List Qa) (w : World) (hT : Tabs w) (hB : MRow w u B) (hQ : QRow w v2 T) (zB : ∀ x ∈ B, SzM x) (zT : ∀ x ∈ T, ∀ y ∈ x.l, SzM y) (hN0 : (default : Lim).n ≤ w.heap.size) :
    Calls Tryz.prog 5 #[.agg #[u, .int .i64 f.p, .int .i64 f.l, .int .i64 f.w, .int .i64 g.p, .int .i64 g.l, .int .i64 g.w, .int .i64 phys], v2] w (RetB true w) := by
  have HGb := Lib.hid (fun (W : World) (hW : RowKit.Below w.heap.size w W) => great_any u B 20 W (hB.below hW) (by decide) zB)
  obtain ⟨gb, hgb⟩ : ∃ q, q = greatF (B.map (·.1)) 20 := ⟨_, rfl⟩
  rw [← hgb] at HGb
  have HLS := Lib.hid (fun W => refless_any g f W)
  obtain ⟨E, hE⟩ : ∃ E, E = decide (stC g f < 0) := ⟨_, rfl⟩
  rw [← hE] at HLS
  have HE := Lib.hid hE
  have HVB := Lib.hid hB
  have HVQ := Lib.hid hQ
  obtain ⟨bo, bc, rfl, -, -⟩ := hB.form
  obtain ⟨qo, qc, rfl, -, -⟩ := hQ.form
  obtain ⟨nb, hnb⟩ : ∃ k, k = B.length := ⟨_, rfl⟩
  obtain ⟨n, hn⟩ : ∃ k, k = T.length := ⟨_, rfl⟩
  rw [← hnb] at HGb HVB ⊢
  rw [← hn] at HVQ ⊢
  have HNB := Lib.hid hnb
  have HN := Lib.hid hn
  have HT := Lib.hid hT
  have HGG := Lib.hid hgb
  have HZT := Lib.hid zT
  have HL0 := Lib.hid hN0
  clear hT hB hQ zB zT hgb hnb hn hE hN0
  obtain ⟨fp, fl, fw⟩ := f
  obtain ⟨gp, gl, gw⟩ := g
  unfold vS at HLS
  simp only [] at HLS ⊢
  obtain ⟨W0, hW0⟩ : ∃ W0, W0 = w.alloc (.cells #[.slice bo nb bc, .int .i64 fp, .int .i64 fl, .int .i64 fw, .int .i64 gp, .int .i64 gl, .int .i64 gw, .int .i64 phys] 55) := ⟨_, rfl⟩
  have z0 : W0.cell? ⟨w.heap.size, 0, none⟩ = some (.slice bo nb bc) := by rw [hW0]; go_simp
  have z1 : W0.cell? ⟨w.heap.size, 1, none⟩ = some (.int .i64 fp) := by rw [hW0]; go_simp
  have z2 : W0.cell? ⟨w.heap.size, 2, none⟩ = some (.int .i64 fl) := by rw [hW0]; go_simp
  have z3 : W0.cell? ⟨w.heap.size, 3, none⟩ = some (.int .i64 fw) := by rw [hW0]; go_simp
  have z4 : W0.cell? ⟨w.heap.size, 4, none⟩ = some (.int .i64 gp) := by rw [hW0]; go_simp
  have z5 : W0.cell? ⟨w.heap.size, 5, none⟩ = some (.int .i64 gl) := by rw [hW0]; go_simp
  have z6 : W0.cell? ⟨w.heap.size, 6, none⟩ = some (.int .i64 gw) := by rw [hW0]; go_simp
  have z7 : W0.cell? ⟨w.heap.size, 7, none⟩ = some (.int .i64 phys) := by rw [hW0]; go_simp
  have hs0 : w.heap.size < W0.heap.size := by rw [hW0]; simp
  have HB0 := Lib.hid (show RowKit.Below w.heap.size w W0 by rw [hW0]; exact (Below.refl _ _).alloc (Nat.le_refl _) _)
  obtain ⟨n0, hn0⟩ : ∃ n, n = w.heap.size := ⟨_, rfl⟩
  have HZ := Lib.hid (fun W (h : RowKit.Below W0.heap.size W0 W) => show W.cell? ⟨n0, 0, none⟩ = some (.slice bo nb bc) ∧ W.cell? ⟨n0, 1, none⟩ = some (.int .i64 fp) ∧ W.cell? ⟨n0, 2, none⟩ = some (.int .i64 fl) ∧ W.cell? ⟨n0, 3, none⟩ = some (.int .i64 fw) ∧ W.cell? ⟨n0, 4, none⟩ = some (.int .i64 gp) ∧ W.cell? ⟨n0, 5, none⟩ = some (.int .i64 gl) ∧ W.cell? ⟨n0, 6, none⟩ = some (.int .i64 gw) ∧ W.cell? ⟨n0, 7, none⟩ = some (.int .i64 phys) from by
    rw [hn0]
    exact ⟨(h.cell (p := ⟨w.heap.size, 0, none⟩) hs0).trans z0, (h.cell (p := ⟨w.heap.size, 1, none⟩) hs0).trans z1, (h.cell (p := ⟨w.heap.size, 2, none⟩) hs0).trans z2, (h.cell (p := ⟨w.heap.size, 3, none⟩) hs0).trans z3, (h.cell (p := ⟨w.heap.size, 4, none⟩) hs0).trans z4, (h.cell (p := ⟨w.heap.size, 5, none⟩) hs0).trans z5, (h.cell (p := ⟨w.heap.size, 6, none⟩) hs0).trans z6, (h.cell (p := ⟨w.heap.size, 7, none⟩) hs0).trans z7⟩)
  have HW0 := Lib.hid hW0
  have HN0 := Lib.hid (And.intro hn0 hs0)
  clear hW0 z0 z1 z2 z3 z4 z5 z6 z7 hn0 hs0
  go_enter Tryz.func5, Tryz.ntmps5
  go_upto_region 1 with fail
  rw [← HW0.out, ← HN0.out.1]
  clear HW0
  obtain ⟨z0, z1, z2, z3, z4, z5, z6, z7⟩ := HZ.out W0 (Below.refl _ _)
  go_wp2_with fail
  refine (HGb.out _ HB0.out).mono ?_
  rintro e w1 ⟨rfl, rfl⟩
  cases gb
  case true =>
    go_wp2_with fail
    go_ret
    exact ⟨rfl, HB0.out⟩
  by_cases hn5 : (5 : Int) < (n : Int)
  · have hd : decide ((5 : Int) < (n : Int)) = true := decide_eq_true hn5
    go_wp2_with fail
    go_ret
    exact ⟨rfl, HB0.out⟩
  have hd : decide ((5 : Int) < (n : Int)) = false := decide_eq_false hn5
  by_cases hp : phys < fp
  · have hd2 : decide (phys < fp) = true := decide_eq_true hp
    go_wp2_with fail
    go_ret
    exact ⟨rfl, HB0.out⟩
  have hd2 : decide (phys < fp) = false := decide_eq_false hp
  go_wp2_with fail
  refine (HLS.out _).mono ?_
  rintro e w1 ⟨rfl, hb1⟩
  have HB1 := Lib.hid hb1
  clear hb1
  cases E
  case false =>
    go_wp2_with fail
    go_ret
    exact ⟨rfl, below_then HB0.out (Nat.le_refl _) HB1.out⟩
  have HP := Lib.hid hp
  have hn5' : n ≤ 5 := by omega
  clear z0 z1 z2 z3 z4 z5 z6 z7 hd hd2 hp HLS HGb hn5
  obtain ⟨lB, sB⟩ := great_small HGG.out.symm
  obtain ⟨lb, hlb⟩ : ∃ l, l = B.map (·.1) := ⟨_, rfl⟩
  rw [← hlb] at lB sB
  have HLB := Lib.hid hlb
  have HSB := Lib.hid (And.intro lB sB)
  have hnb20 : nb ≤ 20 := by rw [hlb, List.length_map, ← HNB.out] at lB; exact lB
  clear lB sB hlb HGG
  obtain ⟨b0, hb0⟩ : ∃ b, b = W0.heap.size := ⟨_, rfl⟩
  have HN2 := Lib.hid (show (default : Lim).n ≤ b0 from by rw [hb0]; exact Nat.le_trans HL0.out HB0.out.size)
  have HNB0 := Lib.hid (show n0 < b0 from by rw [hb0]; exact HN0.out.2 |> fun h => by rw [HN0.out.1]; exact h)
  rw [← hb0] at HB1 HZ
  have HBS := Lib.hid hb0
  clear hb0
  have hsz1 := HB1.out.size
  have hgr : n0 < w1.heap.size := by have := HNB0.out; have := HBS.out; omega
  obtain ⟨z0, z1, z2, z3, z4, z5, z6, z7⟩ := HZ.out w1 HB1.out
  obtain ⟨i0, hi, hz0, hz1, hz2⟩ := info_parts info_M
  have HI := Lib.hid (And.intro hi (And.intro hz0 (And.intro hz1 hz2)))
  clear hi hz0 hz1 hz2
  have hrowB := (HVB.out.below (below_then HB0.out (Nat.le_refl _) (HBS.out ▸ HB1.out)))
  have HRB := Lib.hid hrowB
  clear hrowB
  go_wp2_with (at_builtin; refine wpList_append_spareAny rfl (.tmp 38) (.tmp 40) 22 rfl b0 51 i0 zeroM zM 120 Tryz.underlying22 HI.out.1 HI.out.2.1 rfl HI.out.2.2.1 HI.out.2.2.2 (by decide) _ 0 [] rfl (spare_lit w1 b0 51 zM (by decide) (by have := HBS.out; omega)) bo nb bc (B.flatMap enM) rfl ?qa ?qb ?qc (by unfold maxLen; omega) (by omega) ?qd ?_; (case qa => (rw [flatMap_len enM_len, ← HNB.out]; rfl)); (case qb => exact lst_src enM_len (by decide) (HRB.out.below ((Below.refl _ _).alloc (Nat.le_refl _) _)).row); (case qc => exact flatM_one HRB.out.forms); (case qd => (have := HBS.out; simp; omega)))
  intro v5 w5 hsp hgw hkp hloc
  have HSP5 := Lib.hid (show Spare w5 b0 51 zM v5 nb (B.flatMap enM) from by first | exact hsp | simpa using hsp)
  have HB5 := Lib.hid (show RowKit.Below b0 W0 w5 from (HB1.out.mono (by have := HBS.out; omega) |>.alloc (by have := HBS.out; omega) _).grown hgw (by have := HBS.out; simp; omega) (fun k hk => ((spare_lit w1 b0 51 zM (by decide) (by have := HBS.out; omega)).own.lt k hk).1))
  have hw5 : b0 ≤ w5.heap.size := by have h := HB5.out.size; have := HBS.out; omega
  clear hsp hgw hkp hloc hsz1 hgr z0 z1 z2 z3 z4 z5 z6 z7 HRB HB1
  have HSW := Lib.hid (fun W (h : RowKit.Below b0 W0 W) => show RowKit.Below w.heap.size w W from below_then HB0.out (Nat.le_refl _) (by rw [← HBS.out]; exact h))
  have HTH := Lib.hid (fun W W' (h : RowKit.Below b0 W0 W) (h2 : RowKit.Below W.heap.size W W') => show RowKit.Below b0 W0 W' from below_then h (Nat.le_of_eq HBS.out) h2)
  have HZ5 := Lib.hid (fun W (h : RowKit.Below w5.heap.size w5 W) => HZ.out W (HTH.out _ _ HB5.out h))
  have HW5 := Lib.hid (fun W (h : RowKit.Below w5.heap.size w5 W) => HSW.out W (HTH.out _ _ HB5.out h))
  have hgr5 : n0 < w5.heap.size := by have := HNB0.out; omega
  go_wp2_with fail
  go_loopw [8] (fun iv wr => ∃ k : Nat, k ≤ nb ∧ iv = .int .i64 k ∧ Hid (∀ m ∈ lb.take k, 0 ≤ stC ⟨fp, fl, fw⟩ m.at_) ∧ Hid (RowKit.Below w5.heap.size w5 wr)) (fun iv _ => nb - (intOf iv).toNat)
  case atStart => exact ⟨0, by omega, rfl, Lib.hid (fun m hm => by simp at hm), Lib.hid (Below.refl _ _)⟩
  case round =>
    obtain ⟨k, hk, rfl, hold, hl⟩ := hrel
    have hszl := hl.out.size
    have hgr : n0 < wr.heap.size := by omega
    obtain ⟨z0, z1, z2, z3, z4, z5, z6, z7⟩ := HZ5.out wr hl.out
    by_cases hlt : k < nb
    · have hkr : k < B.length := by have := HNB.out; omega
      obtain ⟨z, hx⟩ : ∃ x, B[k]? = some x := ⟨_, List.getElem?_eq_getElem hkr⟩
      have hvb := HVB.out.below (HW5.out _ hl.out)
      obtain ⟨xb, xoff, hao, hat⟩ := hvb.at_ hx
      cases hao
      have htk : lb.take (k + 1) = lb.take k ++ [z.1] := by rw [List.take_add_one, HLB.out, List.getElem?_map, hx]; rfl
      obtain ⟨D, hD⟩ : ∃ D, D = decide (stC ⟨fp, fl, fw⟩ z.1.at_ < 0) := ⟨_, rfl⟩
      have HLS := Lib.hid (fun W => refless_any ⟨fp, fl, fw⟩ z.1.at_ W)
      rw [← hD] at HLS
      have HDD := Lib.hid hD
      have HTK := Lib.hid htk
      clear htk hx hD hvb
      obtain ⟨⟨at1, ak1, akey1, afin1, aval1, aex1, ⟨ap1, al1, aw1⟩, aov1⟩, av1⟩ := z
      unfold vS at HLS
      simp only [] at HLS
      obtain ⟨hbl, a0, a1, a2, a3, a4, a5, a6, a7, a8, a9⟩ := hat
      simp only [] at a0 a1 a2 a3 a4 a5 a6 a7 a8 a9
      have j0 : (0 : Int) ≤ (k : Int) := by omega
      have j1 : (k : Int) < (nb : Int) := by omega
      go_wp2_with fail
      refine wp_region_calm (by kernel_rfl) (by kernel_rfl) ?_
      repeat (go_big_quiet_step (first | (go_at_call 21; exact calm (HLS.out _))))
      refine wpQuiet_nil ?_
      rintro _ ⟨y, rfl⟩
      obtain ⟨W3, hW3⟩ : ∃ W3, W3 = y.at := ⟨_, rfl⟩
      have hy := y.below
      rw [← hW3] at hy ⊢
      have HY := Lib.hid (below_then hl.out (Nat.le_refl _) hy)
      clear hW3 y hy a0 a1 a2 a3 a4 a5 a6 a7 a8 a9 z0 z1 z2 z3 z4 z5 z6 z7 hbl HLS
      cases D
      case true =>
        go_wp2_with fail
        go_ret
        exact ⟨rfl, HW5.out _ HY.out⟩
      have HLT := Lib.hid (show ∀ m ∈ lb.take (k + 1), 0 ≤ stC ⟨fp, fl, fw⟩ m.at_ from fun m hm => by
        rw [HTK.out] at hm
        rcases List.mem_append.1 hm with h | h
        · exact hold.out m h
        · rw [List.mem_singleton.1 h]
          exact Int.not_lt.1 (of_decide_eq_false HDD.out.symm))
      go_wp2_with fail
      go_roundw
      case rel => exact ⟨k + 1, by omega, by go_num, HLT, HY⟩
      case measure => simp [intOf]; omega
    · obtain rfl : k = nb := by omega
      have HLD := Lib.hid (show ∀ m ∈ lb, ¬ stC ⟨fp, fl, fw⟩ m.at_ < 0 from fun m hm => Int.not_lt.2 (hold.out m (by rw [List.take_of_length_le (by rw [HLB.out, List.length_map, ← HNB.out]; omega)]; exact hm)))
      have HSP6 := Lib.hid (HSP5.out.below hl.out)
      obtain ⟨w6, rfl⟩ : ∃ w6, wr = w6 := ⟨_, rfl⟩
      have HB6 := Lib.hid (HTH.out _ _ HB5.out hl.out)
      clear hold hszl hlt hk hl HSP5 HZ5 HW5 hgr5 HB5
      go_wp2_with fail
      obtain ⟨nb, hnbk⟩ : ∃ m, m = k := ⟨_, rfl⟩
      subst hnbk
      clear z0 z1 z2 z3 z4 z5 z6 z7 hgr
      have HIMP := Lib.hid HN2.out
      go_loopw [5, 6, 7, 9] (fun av yv sv iv wr => ∃ (k na : Nat) (sm : Bool) (R : List Ry), k ≤ n ∧ iv = .int .i64 k ∧ sv = .bool sm ∧ na ≤ 20 + 8 * k ∧ Hid (sm = (T.take k).any (·.s)) ∧ Hid (na = (allR B T k).length) ∧ Hid (Spare wr b0 51 zM av na ((allR B T k).flatMap enM)) ∧ Hid (GrowY wr b0 62 yv k R) ∧ Hid (R.map (fun x => (x.c, x.f)) = (T.take k).map fun x => tellQ lb ⟨fp, fl, fw⟩ ⟨gp, gl, gw⟩ (qrOf x)) ∧ Hid (∀ x ∈ R, Good x.c 28) ∧ Hid (∀ x ∈ T.take k, x.l.length ≤ 8 ∧ (∀ m ∈ x.l.map (·.1), Small m) ∧ ∀ m ∈ x.l.map (·.1), stC ⟨fp, fl, fw⟩ m.at_ < 0) ∧ Hid (RowKit.Below b0 W0 wr)) (fun _ _ _ iv _ => n - (intOf iv).toNat)
      case atStart => exact ⟨0, nb, false, [], by omega, rfl, rfl, by omega, Lib.hid rfl, Lib.hid (by simp [allR]; exact HNB.out), Lib.hid (by have e : allR B T 0 = B := (by simp [allR]); rw [e]; exact HSP6.out), Lib.hid (GrowY.nil _ _ _), Lib.hid rfl, Lib.hid (fun x hx => by cases hx), Lib.hid (fun x hx => by simp at hx), HB6⟩
      case round =>
        obtain ⟨k, na, sm, R, hk, rfl, rfl, hna, hsm, hnl, hspa, hgy, hcore, hgood, hchk, hbr⟩ := hrel
        obtain ⟨wo, hwo⟩ : ∃ W, W = wr := ⟨_, rfl⟩
        subst hwo
        have hszr : b0 ≤ wo.heap.size := by have h := hbr.out.size; have := HBS.out; omega
        have hgr : n0 < wo.heap.size := by have := HNB0.out; omega
        obtain ⟨z0, z1, z2, z3, z4, z5, z6, z7⟩ := HZ.out wo hbr.out
        by_cases hlt : k < n
        · have hkt : k < T.length := by have := HN.out; omega
          obtain ⟨x, hx⟩ : ∃ x, T[k]? = some x := ⟨_, List.getElem?_eq_getElem hkt⟩
          have hxm := List.mem_of_getElem? hx
          obtain ⟨qb, qoff, hqo, hqb, -, -⟩ := HVQ.out.get hkt
          cases hqo
          have hke : T[k] = x := (List.getElem?_eq_some_iff.1 hx).2
          have hzx := HZT.out x hxm
          have hro := HVQ.out.ro x hxm
          have hstep := allR_step (B := B) hx
          have htake : T.take (k + 1) = T.take k ++ [x] := by rw [List.take_add_one, hx]; rfl
          obtain ⟨xs, xv, xl⟩ := x
          simp only [] at hro hzx hstep
          obtain ⟨xo, xc, ex, -, -⟩ := hro.form
          subst ex
          have HG8 := Lib.hid (great_any (.slice xo xl.length xc) xl 8 wo (hro.below (HSW.out wo hbr.out)) (by decide) hzx)
          obtain ⟨nx, hnx⟩ : ∃ m, m = xl.length := ⟨_, rfl⟩
          rw [← hnx] at hro HG8 hke
          obtain ⟨g8, hg8⟩ : ∃ q, q = greatF (xl.map (·.1)) 8 := ⟨_, rfl⟩
          rw [← hg8] at HG8
          have HRO := Lib.hid (fun W (h : RowKit.Below w.heap.size w W) => show MRow W (.slice xo nx xc) xl from hro.below h)
          have HNX := Lib.hid hnx
          have HG8Q := Lib.hid hg8
          have HSTEP := Lib.hid hstep
          have HTAKE := Lib.hid htake
          have HCC := Lib.hid (fun W (h : RowKit.Below w.heap.size w W) => show W.cell? ⟨qb, qoff + k * 2, none⟩ = some (.bool xs) ∧ W.cell? ⟨qb, qoff + k * 2 + 1, none⟩ = some (.slice xo nx xc) from by
            obtain ⟨b', off', e', -, d0, d1⟩ := (HVQ.out.below h).get hkt
            rw [hke] at d0 d1
            cases e'
            exact ⟨d0, d1⟩)
          have hqbw := (HSW.out wo hbr.out).size
          have hqbo : qb < wo.heap.size := Nat.lt_of_lt_of_le hqb hqbw
          clear hro hzx hx hxm hstep htake hnx hg8 hke
          obtain ⟨c0, c1⟩ := HCC.out wo (HSW.out wo hbr.out)
          have j0 : (0 : Int) ≤ (k : Int) := by omega
          have j1 : (k : Int) < (n : Int) := by omega
          go_wp2_with fail
          refine HG8.out.mono ?_
          rintro e w1 ⟨rfl, rfl⟩
          cases g8
          case true =>
            go_wp2_with fail
            go_ret
            exact ⟨rfl, HSW.out _ hbr.out⟩
          obtain ⟨lX, sX⟩ := great_small HG8Q.out.symm
          obtain ⟨lx, hlx⟩ : ∃ l, l = xl.map (·.1) := ⟨_, rfl⟩
          rw [← hlx] at lX sX
          have HLX := Lib.hid hlx
          have hnx8 : nx ≤ 8 := by rw [hlx, List.length_map, ← HNX.out] at lX; exact lX
          have HSX := Lib.hid (And.intro lX sX)
          clear lX sX hlx HG8 HG8Q c0 c1 z0 z1 z2 z3 z4 z5 z6 z7
          go_wp2_with fail
          go_loopw [10] (fun jv wr => ∃ j : Nat, j ≤ nx ∧ jv = .int .i64 j ∧ Hid (∀ m ∈ lx.take j, stC ⟨fp, fl, fw⟩ m.at_ < 0) ∧ Hid (RowKit.Below wo.heap.size wo wr)) (fun jv _ => nx - (intOf jv).toNat)
          case atStart => exact ⟨0, by omega, rfl, Lib.hid (fun m hm => by simp at hm), Lib.hid (Below.refl _ _)⟩
          case round =>
            obtain ⟨j, hj, rfl, hab, hl7⟩ := hrel
            obtain ⟨c0, c1⟩ := HCC.out _ (HSW.out _ (HTH.out _ _ hbr.out hl7.out))
            have hs7 := hl7.out.size
            have hqb7 : qb < wr.heap.size := by omega
            have hgr7 : n0 < wr.heap.size := by omega
            obtain ⟨z0, z1, z2, z3, z4, z5, z6, z7⟩ := HZ.out wr (HTH.out _ _ hbr.out hl7.out)
            by_cases hjt : j < nx
            · have hjr : j < xl.length := by have := HNX.out; omega
              obtain ⟨y, hy⟩ : ∃ y, xl[j]? = some y := ⟨_, List.getElem?_eq_getElem hjr⟩
              obtain ⟨yb, yoff, hyo, hat⟩ := (HRO.out _ (HSW.out _ (HTH.out _ _ hbr.out hl7.out))).at_ hy
              cases hyo
              have htk : lx.take (j + 1) = lx.take j ++ [y.1] := by rw [List.take_add_one, HLX.out, List.getElem?_map, hy]; rfl
              obtain ⟨D, hD⟩ : ∃ D, D = decide (stC ⟨fp, fl, fw⟩ y.1.at_ < 0) := ⟨_, rfl⟩
              have HLS := Lib.hid (fun W => refless_any ⟨fp, fl, fw⟩ y.1.at_ W)
              rw [← hD] at HLS
              have HDD := Lib.hid hD
              have HTK := Lib.hid htk
              clear htk hy hD
              obtain ⟨⟨at1, ak1, akey1, afin1, aval1, aex1, ⟨ap1, al1, aw1⟩, aov1⟩, av1⟩ := y
              unfold vS at HLS
              simp only [] at HLS
              obtain ⟨hbl, a0, a1, a2, a3, a4, a5, a6, a7, a8, a9⟩ := hat
              simp only [] at a0 a1 a2 a3 a4 a5 a6 a7 a8 a9
              have i0' : (0 : Int) ≤ (j : Int) := by omega
              have i1' : (j : Int) < (nx : Int) := by omega
              go_wp2_with fail
              refine wp_region_calm (by kernel_rfl) (by kernel_rfl) ?_
              repeat (go_big_quiet_step (first | (go_at_call 21; exact calm (HLS.out _))))
              refine wpQuiet_nil ?_
              rintro _ ⟨y, rfl⟩
              obtain ⟨W3, hW3⟩ : ∃ W3, W3 = y.at := ⟨_, rfl⟩
              have hy := y.below
              rw [← hW3] at hy ⊢
              have HY := Lib.hid (below_then hl7.out (Nat.le_refl _) hy)
              clear hW3 y hy a0 a1 a2 a3 a4 a5 a6 a7 a8 a9 z0 z1 z2 z3 z4 z5 z6 z7 hbl HLS c0 c1
              cases D
              case false =>
                go_wp2_with fail
                go_ret
                exact ⟨rfl, HSW.out _ (HTH.out _ _ hbr.out HY.out)⟩
              have HLT := Lib.hid (show ∀ m ∈ lx.take (j + 1), stC ⟨fp, fl, fw⟩ m.at_ < 0 from fun m hm => by
                rw [HTK.out] at hm
                rcases List.mem_append.1 hm with h | h
                · exact hab.out m h
                · rw [List.mem_singleton.1 h]
                  exact of_decide_eq_true HDD.out.symm)
              go_wp2_with fail
              go_roundw
              case rel => exact ⟨j + 1, by omega, by go_num, HLT, HY⟩
              case measure => simp [intOf]; omega
            · obtain rfl : j = nx := by omega
              obtain ⟨nx, hnxj⟩ : ∃ m, m = j := ⟨_, rfl⟩
              subst hnxj
              obtain ⟨w7, hw7⟩ : ∃ W, W = wr := ⟨_, rfl⟩
              subst hw7
              have HAB := Lib.hid (show ∀ m ∈ lx, stC ⟨fp, fl, fw⟩ m.at_ < 0 from fun m hm => hab.out m (by rw [List.take_of_length_le (by rw [HLX.out, List.length_map, ← HNX.out]; omega)]; exact hm))
              have HSP7 := Lib.hid (hspa.out.below hl7.out)
              have HGY7 := Lib.hid (hgy.out.below hl7.out)
              have HB7 := Lib.hid (HTH.out _ _ hbr.out hl7.out)
              have HRO7 := Lib.hid (HRO.out w7 (HSW.out _ HB7.out))
              have hsz7 : b0 ≤ w7.heap.size := by omega
              clear hab hspa hgy hbr hl7 hjt hj c0 c1
              have HRT := Lib.hid (show ∀ x ∈ R, ∀ m ∈ x.c.all, rightF m = true from fun x hx => (hgood.out x hx).okc.right)
              obtain ⟨c0, c1⟩ := HCC.out w7 (HSW.out _ HB7.out)
              go_wp2_with (at_builtin; refine wpList_append_spareAny rfl (.tmp 93) (.tmp 98) 22 rfl b0 51 i0 zeroM zM 120 Tryz.underlying22 HI.out.1 HI.out.2.1 rfl HI.out.2.2.1 HI.out.2.2.2 (by decide) u5 na ((allR B T k).flatMap enM) rfl HSP7.out xo nx xc (xl.flatMap enM) rfl ?qa ?qb ?qc (by unfold maxLen; omega) (by omega) hsz7 ?_; (case qa => (rw [flatMap_len enM_len, ← HNX.out]; rfl)); (case qb => exact lst_src enM_len (by decide) HRO7.out.row); (case qc => exact flatM_one HRO7.out.forms))
              intro v8 w8 hsp hgw hkp hloc
              have HSP8 := Lib.hid (show Spare w8 b0 51 zM v8 (na + nx) ((allR B T (k + 1)).flatMap enM) from by rw [HSTEP.out, List.flatMap_append]; exact hsp)
              have HGY8 := Lib.hid (HGY7.out.besideM HSP7.out HN2.out hnl.out HRT.out (by decide) hgw hkp)
              have HB8 := Lib.hid (show RowKit.Below b0 W0 w8 from HB7.out.grown hgw hsz7 (fun k hk => (HSP7.out.own.lt k hk).1))
              have HNL8 := Lib.hid (show na + nx = (allR B T (k + 1)).length from by rw [HSTEP.out, List.length_append, ← hnl.out, ← HNX.out])
              have hna8 : na + nx ≤ 20 + 8 * (k + 1) := by omega
              have hsz8 : b0 ≤ w8.heap.size := Nat.le_trans hsz7 hgw.size
              have HZ8 := Lib.hid (fun W (h : RowKit.Below w8.heap.size w8 W) => HZ.out W (HTH.out _ _ HB8.out h))
              have HW8 := Lib.hid (fun W (h : RowKit.Below w8.heap.size w8 W) => HSW.out W (HTH.out _ _ HB8.out h))
              have HQ8 := Lib.hid (fun W (h : RowKit.Below w8.heap.size w8 W) => HCC.out W (HW8.out W h))
              have HRX8 := Lib.hid (fun W (h : RowKit.Below w8.heap.size w8 W) => HRO.out W (HW8.out W h))
              have HLN := Lib.hid (show lx.length ≤ 8 from HSX.out.1)
              have HLB20 := Lib.hid HSB.out.1
              clear hsp hgw hkp hloc c0 c1 HSP7 HGY7 HB7 HRO7 hsz7 z0 z1 z2 z3 z4 z5 z6 z7 hqb7 hgr7 hs7 hszr hgr
              go_wp2_with fail
              refine wp_region_told [10] 11 [false, false, false, false, false, false, false, false, false, false, false, true, false, false, false, false, false, false, false, false, false, false, false, false, false, false, false, false, false, false, false, false, false, false, false, false, false, false, false, false, false, false, false, false, false, false, false, false, false, false, false, false, false, false, false, false, false, false, false, false, false, false, false, false, false, false, false, false, false, false, false, false, false, false, false, false, false, false, false, false, false, false, false, false, false, false, false, false, false, false, false, false, false, false, false, false, false, false, false, false, true, true, true, true, true, true, true, true, true, true, false, false, false, false, false, false, false, false, false, false, false, false, false, false, false, false, false, false, false, false, false, false, false, false, false, false, false, false, false, false, false, false, false, false, false, false, false, false, false, false, false, false]
                [sLit (.pointer (some ⟨n0, 0, none⟩)),
    sLit (.slice bo nb bc),
    sOne (IsC (leftOf lb)) (fun _ _ _ h hb => h.below hb),
    sLit (.slice (some ⟨qb, qoff, none⟩) n qc),
    sLit (.int .i64 k),
    sLit (.pointer (some ⟨qb, qoff + k * 2, none⟩)),
    sLit (.pointer (some ⟨qb, qoff + k * 2 + 1, none⟩)),
    sLit (.slice xo nx xc),
    sOne (IsC (leftOf lx)) (fun _ _ _ h hb => h.below hb),
    sOne (IsC (leftOf (lb ++ lx))) (fun _ _ _ h hb => h.below hb),
    sOne (fun v W => ∃ k, v = .pointer (some ⟨k, 0, none⟩) ∧ C3 W k (.slice none 0 0) (.slice none 0 0) (.slice none 0 0) ∧ w8.heap.size ≤ k) (fun _ _ _ h hb => h.elim fun k h => ⟨k, h.1, h.2.1.below hb, h.2.2⟩)] (by kernel_rfl) (by kernel_rfl) (by kernel_rfl) (fun F hF => ?_)
              simp only [over, overL, Nat.reduceAdd] at hF
              obtain rfl := funext hF
              clear hF
              refine ⟨⟨?_, ?_, ?_, ?_, ?_, ?_, ?_, ?_, ?_, ?_, ?_, trivial⟩, ?_⟩
              · intro V W hb hd K hK _
                clear hd
                go_wp2_with fail
                refine hK _ _ ?_ ?_ ?_ ?_
                · rfl
                · exact Below.refl _ _
                · exact rfl
                · trivial
              · intro V W hb hd K hK _
                have h0 : (V 100) = .pointer (some ⟨n0, 0, none⟩) := hd 0 (by kernel_rfl)
                clear hd
                obtain ⟨z0, z1, z2, z3, z4, z5, z6, z7⟩ := HZ8.out W hb
                go_wp2_with fail
                refine hK _ _ ?_ ?_ ?_ ?_
                · rfl
                · exact Below.refl _ _
                · exact rfl
                · trivial
              · intro V W hb hd K hK _
                have h1 : (V 101) = .slice bo nb bc := hd 1 (by kernel_rfl)
                clear hd
                go_wp2_with fail
                refine (c_of (HT.out.below (HW8.out W hb)) ⟨B, HLB.out.symm, HVB.out.below (HW8.out W hb)⟩ (by have := HLB20.out; omega) HSB.out.2).mono ?_
                rintro e w1 ⟨v1, rfl, hv1, hb1⟩
                go_wp2_with fail
                refine hK _ _ ?_ ?_ ?_ ?_
                · rfl
                · exact hb1
                · exact hv1
                · trivial
              · intro V W hb hd K hK _
                clear hd
                go_wp2_with fail
                refine hK _ _ ?_ ?_ ?_ ?_
                · rfl
                · exact Below.refl _ _
                · exact rfl
                · trivial
              · intro V W hb hd K hK _
                clear hd
                go_wp2_with fail
                refine hK _ _ ?_ ?_ ?_ ?_
                · rfl
                · exact Below.refl _ _
                · exact rfl
                · trivial
              · intro V W hb hd K hK _
                have h3 : (V 103) = .slice (some ⟨qb, qoff, none⟩) n qc := hd 3 (by kernel_rfl)
                have h4 : (V 104) = .int .i64 k := hd 4 (by kernel_rfl)
                clear hd
                go_wp2_with fail
                refine hK _ _ ?_ ?_ ?_ ?_
                · rfl
                · exact Below.refl _ _
                · exact rfl
                · trivial
              · intro V W hb hd K hK _
                have h5 : (V 105) = .pointer (some ⟨qb, qoff + k * 2, none⟩) := hd 5 (by kernel_rfl)
                clear hd
                go_wp2_with fail
                refine hK _ _ ?_ ?_ ?_ ?_
                · rfl
                · exact Below.refl _ _
                · exact rfl
                · trivial
              · intro V W hb hd K hK _
                have h6 : (V 106) = .pointer (some ⟨qb, qoff + k * 2 + 1, none⟩) := hd 6 (by kernel_rfl)
                clear hd
                obtain ⟨c0, c1⟩ := HQ8.out W hb
                go_wp2_with fail
                refine hK _ _ ?_ ?_ ?_ ?_
                · rfl
                · exact Below.refl _ _
                · exact rfl
                · trivial
              · intro V W hb hd K hK _
                have h7 : (V 107) = .slice xo nx xc := hd 7 (by kernel_rfl)
                clear hd
                go_wp2_with fail
                refine (c_of (HT.out.below (HW8.out W hb)) ⟨xl, HLX.out.symm, HRX8.out W hb⟩ (by have := HLN.out; omega) HSX.out.2).mono ?_
                rintro e w1 ⟨v1, rfl, hv1, hb1⟩
                go_wp2_with fail
                refine hK _ _ ?_ ?_ ?_ ?_
                · rfl
                · exact hb1
                · exact hv1
                · trivial
              · intro V W hb hd K hK _
                have h2 : IsC (leftOf lb) (V 102) W := hd 2 (by kernel_rfl)
                have h8 : IsC (leftOf lx) (V 108) W := hd 8 (by kernel_rfl)
                clear hd
                go_wp2_with fail
                refine ((by have h := c_join (HT.out.below (HW8.out W hb)) h2 (leftOf_good lb) h8 (leftOf_good lx) (by have := HLN.out; have := HLB20.out; omega); rw [joinC_left] at h; exact h : Calls _ _ _ W (RetC (leftOf (lb ++ lx)) W))).mono ?_
                rintro e w1 ⟨v1, rfl, hv1, hb1⟩
                go_wp2_with fail
                refine hK _ _ ?_ ?_ ?_ ?_
                · rfl
                · exact hb1
                · exact hv1
                · trivial
              · intro V W hb hd K hK _
                clear hd
                go_wp2_with fail
                refine hK _ _ ?_ ?_ ?_ ?_
                · rfl
                · exact (Below.refl _ _).alloc (Nat.le_refl _) _
                · exact ⟨_, rfl, C3.new W _ _ _, hb.size⟩
                · exact ⟨rfl, by simp⟩
              · intro V W hb hd hap
                have h9 : IsC (leftOf (lb ++ lx)) (V 109) W := hd 9 (by decide)
                have h10 : ∃ k, (V 11) = .pointer (some ⟨k, 0, none⟩) ∧ C3 W k (.slice none 0 0) (.slice none 0 0) (.slice none 0 0) ∧ w8.heap.size ≤ k := hd 10 (by decide)
                clear hd
                simp only [List.drop_succ_cons, List.drop_zero]
                obtain ⟨p1, q1, r1, p2, q2, r2, p3, q3, r3, e9, hl9⟩ := h9.form
                obtain ⟨k11, e11, c11, g11⟩ := h10
                have HL9 := Lib.hid hl9
                have HBw := Lib.hid hb
                have HC11 := Lib.hid c11
                have hwr : W.heap.size ≤ W.heap.size := Nat.le_refl _
                clear hl9 h9 hb hap hwr
                obtain ⟨-, s0, s1, s2, f0, f1, f2⟩ := c11
                go_upto_region 23 with fail
                obtain ⟨W2, hW2⟩ : ∃ W2, W2 = (((W.setCell ⟨k11, 0, none⟩ (.slice p1 q1 r1)).setCell ⟨k11, 1, none⟩ (.slice p2 q2 r2)).setCell ⟨k11, 2, none⟩ (.slice p3 q3 r3)) := ⟨_, rfl⟩
                rw [← hW2]
                have HCb := Lib.hid (show C3 W2 k11 (.slice p1 q1 r1) (.slice p2 q2 r2) (.slice p3 q3 r3) by rw [hW2]; exact c3_put HC11.out _ _ _)
                have HLb := Lib.hid (show Lies W2 (.slice p1 q1 r1) (.slice p2 q2 r2) (.slice p3 q3 r3) (leftOf (lb ++ lx)) by rw [hW2]; exact HL9.out.plain3 (plain3 HC11.out _ _ _))
                have HB2 := Lib.hid (show RowKit.Below w8.heap.size w8 W2 by rw [hW2]; exact c3_put_below HBw.out g11 _ _ _)
                have hk11 : k11 < W2.heap.size := HCb.out.lt
                clear hW2 s0 s1 s2 f0 f1 f2 e9 e11 HC11 HL9 HBw
                obtain ⟨z0, z1, z2, z3, z4, z5, z6, z7⟩ := HZ8.out W2 HB2.out
                have hw2s := HB2.out.size
                have hgr : n0 < W2.heap.size := by have := HNB0.out; omega
                go_upto_region 24 with fail
                obtain ⟨W9, hW9⟩ : ∃ W9, W9 = W2.alloc (.cells #[.int .i64 gp, .int .i64 gl, .int .i64 gw] 43) := ⟨_, rfl⟩
                rw [← hW9]
                have hb9 : RowKit.Below W2.heap.size W2 W9 := by rw [hW9]; exact (Below.refl _ _).alloc (Nat.le_refl _) _
                obtain ⟨k12, hk12⟩ : ∃ m, m = W2.heap.size := ⟨_, rfl⟩
                have HS9 := Lib.hid (show S3 W9 k12 ⟨gp, gl, gw⟩ by rw [hW9, hk12]; exact S3.new W2 ⟨gp, gl, gw⟩)
                rw [← hk12]
                have HC9 := Lib.hid (HCb.out.below hb9)
                have HL9 := Lib.hid (HLb.out.below hb9)
                have HB9 := Lib.hid (below_then HB2.out (Nat.le_refl _) hb9)
                have h1112 : k11 ≠ k12 := by omega
                have h11lt : k11 < k12 := by omega
                have hs9 : k12 < W9.heap.size := HS9.out.lt
                clear hW9 hb9 z0 z1 z2 z3 z4 z5 z6 z7 HCb HLb HB2 hgr hk12 hk11 hw2s
                have HSP9 := Lib.hid (HSP8.out.below HB9.out)
                have HGY9 := Lib.hid (HGY8.out.below HB9.out)
                have HBA9 := Lib.hid (HTH.out _ _ HB8.out HB9.out)
                have hv8 : ∀ m, v8.ownBlock = some m → m < k11 := fun m hm => Nat.lt_of_lt_of_le (HSP8.out.own.lt m hm).2 g11
                have hu6 : ∀ m, u6.ownBlock = some m → m < k11 := fun m hm => Nat.lt_of_lt_of_le (HGY8.out.row.own.lt m hm).2 g11
                obtain ⟨c0, c1⟩ := HCC.out W9 (HSW.out _ HBA9.out)
                have hqb9 : qb < W9.heap.size := Nat.lt_of_lt_of_le hqb (HSW.out _ HBA9.out).size
                have HVV := Lib.hid (And.intro hv8 hu6)
                clear hv8 hu6
                cases xs
                case false =>
                  have HCt := HC9
                  have HSt := HS9
                  have HLt := HL9
                  have HSPt := HSP9
                  have HGYt := HGY9
                  have HBt := HBA9
                  obtain ⟨-, s0, s1, s2, f0, f1, f2⟩ := HCt.out
                  obtain ⟨-, t0, t1, t2, -⟩ := HSt.out
                  simp only [] at t0 t1 t2
                  have HON := Lib.hid (one_reply (t := 62) (x := ⟨(k : Int), 0, .slice p1 q1 r1, .slice p2 q2 r2, .slice p3 q3 r3, leftOf (lb ++ lx), ⟨gp, gl, gw⟩⟩) HLt.out)
                  have hba := (Below.refl W9.heap.size W9).alloc (Nat.le_refl _) (.cells ⟨enY ⟨(k : Int), 0, .slice p1 q1 r1, .slice p2 q2 r2, .slice p3 q3 r3, leftOf (lb ++ lx), ⟨gp, gl, gw⟩⟩⟩ 62)
                  have HX := Lib.hid (HLt.out.below hba)
                  have HGa := Lib.hid (HGYt.out.below hba)
                  have HSa := Lib.hid (HSPt.out.below hba)
                  have HBa := Lib.hid (HTH.out _ _ HBt.out hba)
                  have hsza : b0 ≤ (W9.alloc (.cells ⟨enY ⟨(k : Int), 0, .slice p1 q1 r1, .slice p2 q2 r2, .slice p3 q3 r3, leftOf (lb ++ lx), ⟨gp, gl, gw⟩⟩⟩ 62)).heap.size := by have := HBt.out.size; have := HBS.out; simp; omega
                  clear hba
                  go_wp2_with (at_builtin; refine wpList_append_replies rfl (.tmp 123) (.tmp 128) rfl Tryz.underlying57 info_Reply b0 u6 k _ rfl HGa.out.row ⟨_, 0, none⟩ 1 1 [⟨(k : Int), 0, .slice p1 q1 r1, .slice p2 q2 r2, .slice p3 q3 r3, leftOf (lb ++ lx), ⟨gp, gl, gw⟩⟩] rfl HON.out.row (fun x hx => LiesY.forms (HON.out.con x hx)) (Or.inl (by decide)) (by omega) hsza ?_)
                  intro v4 w4 hsp hgr4 hkp hloc
                  have HG4 := Lib.hid (HGa.out.more HN2.out HX.out hsp hgr4)
                  have HS4 := Lib.hid (HSa.out.kept hgr4 (rows_apart HSa.out.own HGa.out.row.own (by decide)))
                  have HB4 := Lib.hid (HGa.out.belowB HBa.out hgr4 hsza)
                  have HR4 := Lib.hid (show (R ++ [(⟨(k : Int), 0, .slice p1 q1 r1, .slice p2 q2 r2, .slice p3 q3 r3, leftOf (lb ++ lx), ⟨gp, gl, gw⟩⟩ : Ry)]).map (fun x => (x.c, x.f)) = (T.take (k + 1)).map fun x => tellQ lb ⟨fp, fl, fw⟩ ⟨gp, gl, gw⟩ (qrOf x) from by
                    rw [HTAKE.out, List.map_append, List.map_append, hcore.out, HLX.out]
                    rfl)
                  have HGd := Lib.hid (show ∀ x ∈ R ++ [(⟨(k : Int), 0, .slice p1 q1 r1, .slice p2 q2 r2, .slice p3 q3 r3, leftOf (lb ++ lx), ⟨gp, gl, gw⟩⟩ : Ry)], Good x.c 28 from fun x hx => by
                    rcases List.mem_append.1 hx with h | h
                    · exact hgood.out x h
                    · rw [List.mem_singleton.1 h]
                      exact (leftOf_good _).more (by rw [List.length_append]; have := HLN.out; have := HLB20.out; omega))
                  have HCK := Lib.hid (show ∀ x ∈ T.take (k + 1), x.l.length ≤ 8 ∧ (∀ m ∈ x.l.map (·.1), Small m) ∧ ∀ m ∈ x.l.map (·.1), stC ⟨fp, fl, fw⟩ m.at_ < 0 from fun x hx => by
                    rw [HTAKE.out] at hx
                    rcases List.mem_append.1 hx with h | h
                    · exact hchk.out x h
                    · rw [List.mem_singleton.1 h]
                      refine ⟨?_, ?_, ?_⟩
                      · show xl.length ≤ 8
                        have h8 := HSX.out.1
                        rw [HLX.out, List.length_map] at h8
                        exact h8
                      · show ∀ m ∈ xl.map (·.1), Small m
                        rw [← HLX.out]; exact HSX.out.2
                      · show ∀ m ∈ xl.map (·.1), stC ⟨fp, fl, fw⟩ m.at_ < 0
                        rw [← HLX.out]; exact HAB.out)
                  have HSM := Lib.hid (show sm = (T.take (k + 1)).any (·.s) from by rw [HTAKE.out, List.any_append, ← hsm.out]; simp)
                  clear hsp hgr4 hkp hloc s0 s1 s2 f0 f1 f2 t0 t1 t2 HON HX HGa HSa HBa c0 c1
                  go_wp2_with fail
                  go_roundw
                  case rel => exact ⟨k + 1, na + nx, sm, R ++ [⟨(k : Int), 0, .slice p1 q1 r1, .slice p2 q2 r2, .slice p3 q3 r3, leftOf (lb ++ lx), ⟨gp, gl, gw⟩⟩], by omega, by go_num, rfl, hna8, HSM, HNL8, HS4, HG4, HR4, HGd, HCK, HB4⟩
                  case measure => simp [intOf]; omega
                case true =>
                  have HBc := Lib.hid (fun W (h : seCom W9 k11 W) => show RowKit.Below b0 W0 W from HBA9.out.grown h.1 (by have := HBA9.out.size; have := HBS.out; omega) (fun m e => by cases e; omega))
                  have HZc := Lib.hid (fun W (h : seCom W9 k11 W) => HZ.out W (HBc.out W h))
                  have HSWP := Lib.hid (fun (W : World) (h : seCom W9 k11 W) => show Calls Tryz.prog 22 #[.agg #[.slice p1 q1 r1, .slice p2 q2 r2, .slice p3 q3 r3], .agg #[.int .i64 fp, .int .i64 fl, .int .i64 fw]] W (RetB2 (sweepC (leftOf (lb ++ lx)) ⟨fp, fl, fw⟩) W) from c_sweepB (n := 28) ⟨fp, fl, fw⟩ (HL9.out.plain3 h.2).is ((leftOf_good (lb ++ lx)).more (by rw [List.length_append]; have := HLN.out; have := HLB20.out; omega)) (by decide))
                  have HS12 := Lib.hid (fun W (h : seCom W9 k11 W) => HS9.out.grown h.1 (by simp; omega))
                  have HC25 := Lib.hid (fun (hp : sePre k11 p1 q1 r1 p2 q2 r2 p3 q3 r3 0 W9) => hp)
                  go_wp2_with fail
                  refine RegSp.wp_region_sp seAw (seSp k11) (seCom W9 k11) (sePre k11 p1 q1 r1 p2 q2 r2 p3 q3 r3) 7 [false, false, false, false, false, false, false, false, false, false, false, false, false, false, false, false, false, false, false, false, false, false, false, false, false, false, false, false, false, false, false, false, false, false, false, false, false, false, false, false, false, false, false, false, false, false, false, false, false, false, false, false, false, false, false, false, false, false, false, false, false, false, false, false, false, false, false, false, false, false, false, false, false, false, false, false, false, false, false, false, false, false, false, false, false, false, false, false, false, false, false, false, false, false, false, false, false, false, false, false, false, false, false, false, false, false, false, false, false, false, false, false, false, false, false, false, false, true, true, true, true, true, true, false, false, false, false, false, false, false, false, false, false, false, false, false, false, false, false, false, false, false, false, false, false, false, false, false, false, false, false, false] (seS n0 k11 (k12 + 1) ⟨fp, fl, fw⟩ (leftOf (lb ++ lx)) p1 q1 r1 p2 q2 r2 p3 q3 r3) (seFits (by omega)) ⟨grown_below (Below.refl _ _).drew _, .of_below (Below.refl _ _).drew⟩ (fun j hj => ?_) (by kernel_rfl) (by kernel_rfl) (by kernel_rfl) (by kernel_rfl) (fun F hF => ?_)
                  · unfold sePre
                    split
                    · exact HC9.out.below (Below.refl _ _).drew
                    · trivial
                  simp only [over, overL, Nat.reduceAdd] at hF
                  obtain rfl := funext hF
                  clear hF
                  refine ⟨⟨?_, ?_, ?_, ?_, ?_, ?_, ?_, trivial⟩, ?_⟩
                  · intro V W hc hp hd K hK _
                    clear hd
                    have hp' : C3 W k11 (.slice p1 q1 r1) (.slice p2 q2 r2) (.slice p3 q3 r3) := by unfold sePre at hp; simpa using hp
                    obtain ⟨-, s0, s1, s2, -⟩ := hp'
                    clear hc hp
                    go_wp2_with fail
                    refine hK _ _ ?_ ?_ ?_
                    · rfl
                    · exact Below.refl _ _
                    · exact rfl
                  · intro V W hc hp hd K hK _
                    clear hd hp
                    go_wp2_with fail
                    refine hK _ _ ?_ ?_ ?_
                    · rfl
                    · exact Below.refl _ _
                    · exact rfl
                  · intro V W hc hp hd K hK _
                    have h1 : (V 118) = .pointer (some ⟨n0, 1, none⟩) := hd 1 (by kernel_rfl)
                    clear hd hp
                    obtain ⟨z0, z1, z2, z3, z4, z5, z6, z7⟩ := HZc.out W hc
                    clear hc
                    go_wp2_with fail
                    refine hK _ _ ?_ ?_ ?_
                    · rfl
                    · exact Below.refl _ _
                    · exact rfl
                  · intro V W hc hp hd K hK _
                    have h0 : (V 117) = .agg #[.slice p1 q1 r1, .slice p2 q2 r2, .slice p3 q3 r3] := hd 0 (by kernel_rfl)
                    have h2 : (V 119) = .agg #[.int .i64 fp, .int .i64 fl, .int .i64 fw] := hd 2 (by kernel_rfl)
                    clear hd hp
                    have HC := Lib.hid hc
                    clear hc
                    go_wp2_with fail
                    refine (HSWP.out W HC.out).mono ?_
                    rintro e w1 ⟨v1, rfl, hv1, hb1⟩
                    have hv2 := hv1.base (b0 := k12 + 1) (by have := HC.out.1.size; omega)
                    go_wp2_with fail
                    refine hK _ _ ?_ ?_ ?_
                    · rfl
                    · exact hb1
                    · exact hv2
                  · intro V W hc hp hd K hK _
                    clear hd hp
                    go_wp2_with fail
                    refine hK _ _ ?_ ?_ ?_
                    · rfl
                    · exact Below.refl _ _
                    · exact rfl
                  · intro V W hc hp hd K hK _
                    have h4 : (V 121) = .pointer (some ⟨n0, 1, none⟩) := hd 4 (by kernel_rfl)
                    clear hd hp
                    obtain ⟨z0, z1, z2, z3, z4, z5, z6, z7⟩ := HZc.out W hc
                    clear hc
                    go_wp2_with fail
                    refine hK _ _ ?_ ?_ ?_
                    · rfl
                    · exact Below.refl _ _
                    · exact rfl
                  · intro V W hc hp hd K hK _
                    have h3 : CpC (sweepC (leftOf (lb ++ lx)) ⟨fp, fl, fw⟩) (V 120) W (k12 + 1) := hd 3 (by kernel_rfl)
                    clear hd
                    have hp' : C3 W k11 (.slice p1 q1 r1) (.slice p2 q2 r2) (.slice p3 q3 r3) := by unfold sePre at hp; simpa using hp
                    have HC := Lib.hid hp'
                    obtain ⟨o1, m1, c1s, o2, m2, c2s, o3, m3, c3s, e3, -⟩ := h3.is.form
                    obtain ⟨-, s0, s1, s2, f0, f1, f2⟩ := hp'
                    clear hp hc h3
                    go_wp2_with fail
                    refine hK _ _ ?_ ?_ ?_
                    · rfl
                    · exact ⟨grown_put3 _ _ _ _ _, plain3 HC.out _ _ _⟩
                    · exact ⟨o1, m1, c1s, o2, m2, c2s, o3, m3, c3s, e3, c3_put HC.out _ _ _⟩
                  · intro V W hc hd
                    have h3 : CpC (sweepC (leftOf (lb ++ lx)) ⟨fp, fl, fw⟩) (V 120) W (k12 + 1) := hd 3 (by decide)
                    have h5 : (V 122) = .agg #[.int .i64 fp, .int .i64 fl, .int .i64 fw] := hd 5 (by decide)
                    have h6 : seNew k11 [V 120] undef W := hd 6 (by decide)
                    clear hd
                    simp only [List.drop_succ_cons, List.drop_zero]
                    obtain ⟨o1, m1, c1s, o2, m2, c2s, o3, m3, c3s, e6, hc11⟩ := h6
                    have e6 : V 120 = .agg #[.slice o1 m1 c1s, .slice o2 m2 c2s, .slice o3 m3 c3s] := e6
                    rw [e6] at h3
                    have HCP := Lib.hid h3
                    have HC11 := Lib.hid hc11
                    have HS12w := Lib.hid (HS12.out W hc)
                    have HCW := Lib.hid hc
                    obtain ⟨-, t0, t1, t2, g0, g1, g2⟩ := HS12w.out
                    simp only [] at t0 t1 t2
                    clear h3 hc11 hc e6
                    go_upto_region 26 with fail
                    obtain ⟨Wt, hWt⟩ : ∃ Wt, Wt = (((W.setCell ⟨k12, 0, none⟩ (.int .i64 fp)).setCell ⟨k12, 1, none⟩ (.int .i64 fl)).setCell ⟨k12, 2, none⟩ (.int .i64 fw)) := ⟨_, rfl⟩
                    rw [← hWt]
                    have hgt : W.grownBy Wt (some k12) := by rw [hWt]; exact grown_put3 _ _ _ _ _
                    have HSt := Lib.hid (show S3 Wt k12 ⟨fp, fl, fw⟩ from by rw [hWt]; exact s3_put HS12w.out ⟨fp, fl, fw⟩)
                    have HCt := Lib.hid (HC11.out.grown hgt (by simp; omega))
                    have HCPt := Lib.hid (HCP.out.grown hgt (by omega))
                    obtain ⟨a', b', d', ee, r1', r2', r3'⟩ := HCPt.out
                    cases ee
                    have HLt := Lib.hid (show Lies Wt (.slice o1 m1 c1s) (.slice o2 m2 c2s) (.slice o3 m3 c3s) (sweepC (leftOf (lb ++ lx)) ⟨fp, fl, fw⟩) from ⟨r1'.reads, r2'.reads, r3'.reads⟩)
                    have HBt := Lib.hid (show RowKit.Below b0 W0 Wt from (HBc.out W HCW.out).grown hgt (by have := (HBc.out W HCW.out).size; have := HBS.out; omega) (fun m e => by cases e; omega))
                    have HB8t := Lib.hid (show RowKit.Below w8.heap.size w8 Wt from (HB9.out.grown HCW.out.1 (by have := HB9.out.size; omega) (fun m e => by cases e; omega)).grown hgt (by have := HCW.out.1.size; have := HB9.out.size; omega) (fun m e => by cases e; omega))
                    have HSPt := Lib.hid (HSP8.out.below HB8t.out)
                    have HGYt := Lib.hid (HGY8.out.below HB8t.out)
                    clear hWt hgt r1' r2' r3' t0 t1 t2 g0 g1 g2 h5
                    obtain ⟨-, s0, s1, s2, f0, f1, f2⟩ := HCt.out
                    obtain ⟨-, t0, t1, t2, -⟩ := HSt.out
                    simp only [] at t0 t1 t2
                    have HON := Lib.hid (one_reply (t := 62) (x := ⟨(k : Int), 0, .slice o1 m1 c1s, .slice o2 m2 c2s, .slice o3 m3 c3s, sweepC (leftOf (lb ++ lx)) ⟨fp, fl, fw⟩, ⟨fp, fl, fw⟩⟩) HLt.out)
                    have hba := (Below.refl Wt.heap.size Wt).alloc (Nat.le_refl _) (.cells ⟨enY ⟨(k : Int), 0, .slice o1 m1 c1s, .slice o2 m2 c2s, .slice o3 m3 c3s, sweepC (leftOf (lb ++ lx)) ⟨fp, fl, fw⟩, ⟨fp, fl, fw⟩⟩⟩ 62)
                    have HX := Lib.hid (HLt.out.below hba)
                    have HGa := Lib.hid (HGYt.out.below hba)
                    have HSa := Lib.hid (HSPt.out.below hba)
                    have HBa := Lib.hid (HTH.out _ _ HBt.out hba)
                    have hsza : b0 ≤ (Wt.alloc (.cells ⟨enY ⟨(k : Int), 0, .slice o1 m1 c1s, .slice o2 m2 c2s, .slice o3 m3 c3s, sweepC (leftOf (lb ++ lx)) ⟨fp, fl, fw⟩, ⟨fp, fl, fw⟩⟩⟩ 62)).heap.size := by have := HBt.out.size; have := HBS.out; simp; omega
                    clear hba
                    go_wp2_with (at_builtin; refine wpList_append_replies rfl (.tmp 123) (.tmp 128) rfl Tryz.underlying57 info_Reply b0 u6 k _ rfl HGa.out.row ⟨_, 0, none⟩ 1 1 [⟨(k : Int), 0, .slice o1 m1 c1s, .slice o2 m2 c2s, .slice o3 m3 c3s, sweepC (leftOf (lb ++ lx)) ⟨fp, fl, fw⟩, ⟨fp, fl, fw⟩⟩] rfl HON.out.row (fun x hx => LiesY.forms (HON.out.con x hx)) (Or.inl (by decide)) (by omega) hsza ?_)
                    intro v4 w4 hsp hgr4 hkp hloc
                    have HG4 := Lib.hid (HGa.out.more HN2.out HX.out hsp hgr4)
                    have HS4 := Lib.hid (HSa.out.kept hgr4 (rows_apart HSa.out.own HGa.out.row.own (by decide)))
                    have HB4 := Lib.hid (HGa.out.belowB HBa.out hgr4 hsza)
                    have HR4 := Lib.hid (show (R ++ [(⟨(k : Int), 0, .slice o1 m1 c1s, .slice o2 m2 c2s, .slice o3 m3 c3s, sweepC (leftOf (lb ++ lx)) ⟨fp, fl, fw⟩, ⟨fp, fl, fw⟩⟩ : Ry)]).map (fun x => (x.c, x.f)) = (T.take (k + 1)).map fun x => tellQ lb ⟨fp, fl, fw⟩ ⟨gp, gl, gw⟩ (qrOf x) from by
                      rw [HTAKE.out, List.map_append, List.map_append, hcore.out, HLX.out]
                      rfl)
                    have HGd := Lib.hid (show ∀ x ∈ R ++ [(⟨(k : Int), 0, .slice o1 m1 c1s, .slice o2 m2 c2s, .slice o3 m3 c3s, sweepC (leftOf (lb ++ lx)) ⟨fp, fl, fw⟩, ⟨fp, fl, fw⟩⟩ : Ry)], Good x.c 28 from fun x hx => by
                      rcases List.mem_append.1 hx with h | h
                      · exact hgood.out x h
                      · rw [List.mem_singleton.1 h]
                        exact ((leftOf_good (lb ++ lx)).more (by rw [List.length_append]; have := HLN.out; have := HLB20.out; omega)).filter _)
                    have HCK := Lib.hid (show ∀ x ∈ T.take (k + 1), x.l.length ≤ 8 ∧ (∀ m ∈ x.l.map (·.1), Small m) ∧ ∀ m ∈ x.l.map (·.1), stC ⟨fp, fl, fw⟩ m.at_ < 0 from fun x hx => by
                      rw [HTAKE.out] at hx
                      rcases List.mem_append.1 hx with h | h
                      · exact hchk.out x h
                      · rw [List.mem_singleton.1 h]
                        refine ⟨?_, ?_, ?_⟩
                        · show xl.length ≤ 8
                          have h8 := HSX.out.1
                          rw [HLX.out, List.length_map] at h8
                          exact h8
                        · show ∀ m ∈ xl.map (·.1), Small m
                          rw [← HLX.out]; exact HSX.out.2
                        · show ∀ m ∈ xl.map (·.1), stC ⟨fp, fl, fw⟩ m.at_ < 0
                          rw [← HLX.out]; exact HAB.out)
                    have HSM := Lib.hid (show true = (T.take (k + 1)).any (·.s) from by rw [HTAKE.out, List.any_append, ← hsm.out]; simp)
                    clear hsp hgr4 hkp hloc s0 s1 s2 f0 f1 f2 t0 t1 t2 HON HX HGa HSa HBa c0 c1
                    go_wp2_with fail
                    go_roundw
                    case rel => exact ⟨k + 1, na + nx, true, R ++ [⟨(k : Int), 0, .slice o1 m1 c1s, .slice o2 m2 c2s, .slice o3 m3 c3s, sweepC (leftOf (lb ++ lx)) ⟨fp, fl, fw⟩, ⟨fp, fl, fw⟩⟩], by omega, by go_num, rfl, hna8, HSM, HNL8, HS4, HG4, HR4, HGd, HCK, HB4⟩
                    case measure => simp [intOf]; omega
        · obtain rfl : k = n := by omega
          obtain ⟨w9, hw9⟩ : ∃ W, W = wo := ⟨_, rfl⟩
          subst hw9
          have htk : T.take k = T := List.take_of_length_le (by have := HN.out; omega)
          rw [htk] at hsm hcore hchk
          obtain ⟨RA, hRA⟩ : ∃ RA, RA = allR B T k := ⟨_, rfl⟩
          rw [← hRA] at hnl hspa
          have hRA2 : RA = B ++ T.flatMap (·.l) := by rw [hRA]; unfold allR; rw [htk]
          obtain ⟨lq, hlq⟩ : ∃ l, l = T.map qrOf := ⟨_, rfl⟩
          have HER := Lib.hid (show RA.map (·.1) = allQ lb lq from by
            rw [hRA2, hlq, HLB.out]
            unfold allQ
            rw [List.map_append, List.map_flatMap, List.flatMap_map]
            rfl)
          have HOV := Lib.hid (show ∀ y ∈ RA, Small y.1 from fun y hy => by
            rw [hRA2] at hy
            rcases List.mem_append.1 hy with h | h
            · exact HSB.out.2 y.1 (by rw [HLB.out]; exact List.mem_map.2 ⟨y, h, rfl⟩)
            · obtain ⟨x, hx, h2⟩ := List.mem_flatMap.1 h
              exact (hchk.out x hx).2.1 y.1 (List.mem_map.2 ⟨y, h2, rfl⟩))
          have hbw := HSW.out _ hbr.out
          have HMA := Lib.hid (show MRow w9 u5 RA from ⟨Lst.owned enM_len (by decide) hnl.out hspa.out.own, fun y hy => by
            rw [hRA2] at hy
            rcases List.mem_append.1 hy with h | h
            · exact (HVB.out.over y h).below hbw
            · obtain ⟨x, hx, h2⟩ := List.mem_flatMap.1 h
              exact ((HVQ.out.ro x hx).over y h2).below hbw⟩)
          have HNA := Lib.hid (show RA.length ≤ 60 from by have := hnl.out; omega)
          have HYR := Lib.hid hgy.out.yrow
          have HRL := Lib.hid (show R.length ≤ 5 from by have := hgy.out.len; omega)
          have HCR := Lib.hid (show R.map (fun x => (x.c, x.f)) = lq.map (tellQ lb ⟨fp, fl, fw⟩ ⟨gp, gl, gw⟩) from by rw [hcore.out, hlq, List.map_map]; rfl)
          have HSQ := Lib.hid (show sm = true → ∃ q ∈ lq, q.swept = true from fun h => by
            rw [hsm.out, List.any_eq_true] at h
            obtain ⟨x, hx, h2⟩ := h
            exact ⟨qrOf x, by rw [hlq]; exact List.mem_map.2 ⟨x, hx, rfl⟩, h2⟩)
          have HAQ := Lib.hid (show ∀ q ∈ lq, ∀ m ∈ q.above, stC ⟨fp, fl, fw⟩ m.at_ < 0 from fun q hq m hm => by
            rw [hlq] at hq
            obtain ⟨x, hx, rfl⟩ := List.mem_map.1 hq
            exact (hchk.out x hx).2.2 m hm)
          have HLQ := Lib.hid (show ∀ q ∈ lq, q.above.length ≤ 8 from fun q hq => by
            rw [hlq] at hq
            obtain ⟨x, hx, rfl⟩ := List.mem_map.1 hq
            show (x.l.map (·.1)).length ≤ 8
            rw [List.length_map]
            exact (hchk.out x hx).1)
          have HLQ5 := Lib.hid (show lq.length ≤ 5 from by rw [hlq, List.length_map, ← HN.out]; omega)
          have hfg : stC ⟨gp, gl, gw⟩ ⟨fp, fl, fw⟩ < 0 := of_decide_eq_true HE.out.symm
          have HPH := Lib.hid (show fp ≤ phys from by have := HP.out; omega)
          have HKP := Lib.hid (show sm = true → ∀ t : Int, scanF (mergeF R) t ⟨#[]⟩ ⟨#[255]⟩ phys = scanF (leftOf (allQ lb lq)) t ⟨#[]⟩ ⟨#[255]⟩ phys from fun h t => by
            have hs := HSQ.out h
            unfold scanF
            rw [sees_merge hfg HCR.out hs, order_sees lb lq ⟨fp, fl, fw⟩ t phys HPH.out (fun m hm => Int.not_lt.2 (HLD.out m hm)) HAQ.out hs])
          have HGM := Lib.hid (show Good (mergeF R) 200 from by
            refine (mergeF_good hgood.out).more ?_
            have := HRL.out
            omega)
          have hnl2 := hnl.out
          have HGD28 := Lib.hid hgood.out
          have HB9 := Lib.hid hbr.out
          clear hRA hRA2 hlq hbw hfg htk hsm hcore hchk hnl hspa hgy hgood hbr hnl2 hlt z0 z1 z2 z3 z4 z5 z6 z7 hna hk
          go_wp2_with fail
          go_loopw [13] (fun iv wr => ∃ j : Nat, 1 ≤ j ∧ j ≤ 3 ∧ iv = .int .i64 j ∧ Hid (RowKit.Below w9.heap.size w9 wr)) (fun iv _ => 3 - (intOf iv).toNat)
          case atStart => exact ⟨1, by omega, by omega, rfl, Lib.hid (Below.refl _ _)⟩
          case round =>
            obtain ⟨j, hj1, hj2, rfl, hl5⟩ := hrel
            have HZ5 := Lib.hid (fun W (h : RowKit.Below wr.heap.size wr W) => HZ.out W (HTH.out _ _ HB9.out (below_then hl5.out (Nat.le_refl _) h)))
            have HT5 := Lib.hid (fun W (h : RowKit.Below wr.heap.size wr W) => HT.out.below (HSW.out W (HTH.out _ _ HB9.out (below_then hl5.out (Nat.le_refl _) h))))
            have HE5 := Lib.hid (fun W (h : RowKit.Below wr.heap.size wr W) => HSW.out W (HTH.out _ _ HB9.out (below_then hl5.out (Nat.le_refl _) h)))
            cases sm
            case false =>
              go_wp2_with fail
              refine (alive29_any _ (HT5.out _ (Below.refl _ _))).mono ?_
              rintro e w9' ⟨rfl, hb9⟩
              have HBz := Lib.hid (HE5.out _ hb9)
              clear hb9
              go_wp2_with fail
              go_ret
              exact ⟨rfl, HBz.out⟩
            by_cases hlt3 : j ≤ 2
            · have hd : decide ((j : Int) ≤ 2) = true := decide_eq_true (by omega)
              obtain ⟨L, hL⟩ : ∃ L, L = scanF (mergeF R) (j : Int) ⟨#[]⟩ ⟨#[255]⟩ phys := ⟨_, rfl⟩
              have HMG := Lib.hid (fun W (h : RowKit.Below wr.heap.size wr W) => merge_any u6 R 28 W (HT5.out W h) (HYR.out.below (below_then hl5.out (Nat.le_refl _) h)) HGD28.out (by have := HRL.out; omega) (by decide))
              have HMR := Lib.hid (fun W (h : RowKit.Below wr.heap.size wr W) => HMA.out.below (below_then hl5.out (Nat.le_refl _) h))
              have HSC := Lib.hid (fun (v : Value) (W : World) (hv : IsC (mergeF R) v W) => show Calls Tryz.prog 14 #[v, .int .i64 j, .string ⟨#[]⟩, .string ⟨#[255]⟩, .int .i64 phys] W (RowW W L) from by rw [hL]; exact scan_any v (mergeF R) 200 (j : Int) phys _ _ W hv HGM.out (by decide))
              have HSEE := Lib.hid (fun (v : Value) (W : World) (hv : MRow W v (setRo RA)) => show Calls Tryz.prog 12 #[v, .int .i64 j, .string ⟨#[]⟩, .string ⟨#[255]⟩, .int .i64 phys] W (RowW W L) from by
                rw [hL, HKP.out rfl, ← see_leftS RA (allQ lb lq) HER.out]
                exact see09_any v (setRo RA) (j : Int) _ _ phys W hv (setRo_overS fun y hy => (HOV.out y hy).over) (by have := (setRo_spec RA).2.2; have := HNA.out; omega))
              have HLL := Lib.hid (show L.length ≤ 200 from by rw [hL]; exact scan_lenS HGM.out _ _ _ _)
              have HEQ := Lib.hid (show eqWs L L = true from (eqWs_iff L L).2 rfl)
              clear hL
              have j0 : (0 : Int) ≤ (j : Int) := by omega
              go_wp2_with fail
              refine wp_region_told [] 13 [false, false, false, false, false, false, false, false, false, false, false, false, false, false, false, false, false, false, false, false, false, false, false, false, false, false, false, false, false, false, false, false, false, false, false, false, false, false, false, false, false, false, false, false, false, false, false, false, false, false, false, false, false, false, false, false, false, false, false, false, false, false, false, false, false, false, false, false, false, false, false, false, false, false, false, false, false, false, false, false, false, false, false, false, false, false, false, false, false, false, false, false, false, false, false, false, false, false, false, false, false, false, false, false, false, false, false, false, false, false, false, false, false, false, false, false, false, false, false, false, false, false, false, false, false, false, false, false, false, false, false, false, false, false, false, false, false, true, true, true, true, true, true, true, true, true, true, true, true, true, false, false]
                [sLit (u6),
    sOne (IsC (mergeF R)) (fun _ _ _ h hb => h.below hb),
    sLit (.int .i64 j),
    sLit (.pointer (some ⟨n0, 7, none⟩)),
    sLit (.int .i64 phys),
    sOne (fun v W => WRow W v L) (fun _ _ _ h hb => h.below hb),
    sLit (u5),
    sOne (fun v W => MRow W v (setRo RA)) (fun _ _ _ h hb => h.below hb),
    sLit (.int .i64 j),
    sLit (.pointer (some ⟨n0, 7, none⟩)),
    sLit (.int .i64 phys),
    sOne (fun v W => WRow W v L) (fun _ _ _ h hb => h.below hb),
    sLit (.bool true)] (by kernel_rfl) (by kernel_rfl) (by kernel_rfl) (fun F hF => ?_)
              simp only [over, overL, Nat.reduceAdd] at hF
              obtain rfl := funext hF
              clear hF
              refine ⟨⟨?_, ?_, ?_, ?_, ?_, ?_, ?_, ?_, ?_, ?_, ?_, ?_, ?_, trivial⟩, ?_⟩
              · intro V W hb hd K hK _
                clear hd
                go_wp2_with fail
                refine hK _ _ ?_ ?_ ?_ ?_
                · rfl
                · exact Below.refl _ _
                · exact rfl
                · trivial
              · intro V W hb hd K hK _
                have h0 : (V 137) = u6 := hd 0 (by kernel_rfl)
                clear hd
                go_wp2_with fail
                refine (HMG.out W hb).mono ?_
                rintro e w1 ⟨v1, rfl, hv1, hb1⟩
                go_wp2_with fail
                refine hK _ _ ?_ ?_ ?_ ?_
                · rfl
                · exact hb1
                · exact hv1
                · trivial
              · intro V W hb hd K hK _
                clear hd
                go_wp2_with fail
                refine hK _ _ ?_ ?_ ?_ ?_
                · rfl
                · exact Below.refl _ _
                · exact rfl
                · trivial
              · intro V W hb hd K hK _
                clear hd
                go_wp2_with fail
                refine hK _ _ ?_ ?_ ?_ ?_
                · rfl
                · exact Below.refl _ _
                · exact rfl
                · trivial
              · intro V W hb hd K hK _
                have h3 : (V 140) = .pointer (some ⟨n0, 7, none⟩) := hd 3 (by kernel_rfl)
                clear hd
                obtain ⟨z0, z1, z2, z3, z4, z5, z6, z7⟩ := HZ5.out W hb
                go_wp2_with fail
                refine hK _ _ ?_ ?_ ?_ ?_
                · rfl
                · exact Below.refl _ _
                · exact rfl
                · trivial
              · intro V W hb hd K hK _
                have h1 : IsC (mergeF R) (V 138) W := hd 1 (by kernel_rfl)
                have h2 : (V 139) = .int .i64 j := hd 2 (by kernel_rfl)
                have h4 : (V 141) = .int .i64 phys := hd 4 (by kernel_rfl)
                clear hd
                go_wp2_with fail
                refine (HSC.out _ W h1).mono ?_
                rintro e w1 ⟨v1, rfl, hv1, hb1⟩
                go_wp2_with fail
                refine hK _ _ ?_ ?_ ?_ ?_
                · rfl
                · exact hb1
                · exact hv1
                · trivial
              · intro V W hb hd K hK _
                clear hd
                go_wp2_with fail
                refine hK _ _ ?_ ?_ ?_ ?_
                · rfl
                · exact Below.refl _ _
                · exact rfl
                · trivial
              · intro V W hb hd K hK _
                have h6 : (V 143) = u5 := hd 6 (by kernel_rfl)
                clear hd
                go_wp2_with fail
                refine (right09_any u5 RA W (HT5.out W hb) (HMR.out W hb) HOV.out (by have := HNA.out; omega)).mono ?_
                rintro e w1 ⟨v1, rfl, hv1, hb1⟩
                go_wp2_with fail
                refine hK _ _ ?_ ?_ ?_ ?_
                · rfl
                · exact hb1
                · exact hv1
                · trivial
              · intro V W hb hd K hK _
                clear hd
                go_wp2_with fail
                refine hK _ _ ?_ ?_ ?_ ?_
                · rfl
                · exact Below.refl _ _
                · exact rfl
                · trivial
              · intro V W hb hd K hK _
                clear hd
                go_wp2_with fail
                refine hK _ _ ?_ ?_ ?_ ?_
                · rfl
                · exact Below.refl _ _
                · exact rfl
                · trivial
              · intro V W hb hd K hK _
                have h9 : (V 146) = .pointer (some ⟨n0, 7, none⟩) := hd 9 (by kernel_rfl)
                clear hd
                obtain ⟨z0, z1, z2, z3, z4, z5, z6, z7⟩ := HZ5.out W hb
                go_wp2_with fail
                refine hK _ _ ?_ ?_ ?_ ?_
                · rfl
                · exact Below.refl _ _
                · exact rfl
                · trivial
              · intro V W hb hd K hK _
                have h7 : MRow W (V 144) (setRo RA) := hd 7 (by kernel_rfl)
                have h8 : (V 145) = .int .i64 j := hd 8 (by kernel_rfl)
                have h10 : (V 147) = .int .i64 phys := hd 10 (by kernel_rfl)
                clear hd
                go_wp2_with fail
                refine (HSEE.out _ W h7).mono ?_
                rintro e w1 ⟨v1, rfl, hv1, hb1⟩
                go_wp2_with fail
                refine hK _ _ ?_ ?_ ?_ ?_
                · rfl
                · exact hb1
                · exact hv1
                · trivial
              · intro V W hb hd K hK _
                have h5 : WRow W (V 142) L := hd 5 (by kernel_rfl)
                have h11 : WRow W (V 148) L := hd 11 (by kernel_rfl)
                clear hd
                go_wp2_with fail
                refine ((by have h := same09_any _ _ L L W h5 h11 (by have := HLL.out; omega) (by have := HLL.out; omega); rw [HEQ.out] at h; exact h : Calls _ _ _ W (RetB true W))).mono ?_
                rintro e w1 ⟨rfl, hb1⟩
                go_wp2_with fail
                refine hK _ _ ?_ ?_ ?_ ?_
                · rfl
                · exact hb1
                · exact rfl
                · trivial
              · intro V W hb hd hap
                have h12 : (V 149) = .bool true := hd 12 (by decide)
                clear hd hap
                simp only [List.drop_succ_cons, List.drop_zero]
                have HBz := Lib.hid (below_then hl5.out (Nat.le_refl _) hb)
                clear hb
                go_wp2_with fail
                go_roundw
                case rel => exact ⟨j + 1, by omega, by omega, by go_num, HBz⟩
                case measure => simp [intOf]; omega
            · have hd : decide ((j : Int) ≤ 2) = false := decide_eq_false (by omega)
              go_wp2_with fail
              refine (alive29_any _ (HT5.out _ (Below.refl _ _))).mono ?_
              rintro e w9' ⟨rfl, hb9⟩
              have HBz := Lib.hid (HE5.out _ hb9)
              clear hb9
              go_wp2_with fail
              go_ret
              exact ⟨rfl, HBz.out⟩
end Go.Proofs.YtmfhmcegmeinnaaGreatDoor.Mut
