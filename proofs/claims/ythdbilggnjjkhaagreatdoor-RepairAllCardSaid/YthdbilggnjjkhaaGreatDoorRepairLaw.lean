/- The walk of RepairAll (layer 26). -/
import Derived.Test.YthdbilggnjjkhaaGreatDoorPkRe
import Derived.Test.YthdbilggnjjkhaaGreatDoorBoth
import Derived.Maps.AppendAt
import Derived.Deep.DeepCutAuto
set_option linter.unusedSimpArgs false
set_option linter.unusedVariables false
namespace Go.Proofs.YthdbilggnjjkhaaGreatDoor.Rpr
open Go.RowKit Go.Maps Go.Sort Go.Proofs.YthdbilggnjjkhaaGreatDoor.Ints Go.Proofs.YthdbilggnjjkhaaGreatDoor.Mut Go.Proofs.YthdbilggnjjkhaaGreatDoor.Trc Go.Proofs.YthdbilggnjjkhaaGreatDoor.Ord Go.Proofs.YthdbilggnjjkhaaGreatDoor.RegInv
set_option linter.unusedSectionVars false
variable [Inhabited Lim]

theorem one_told {w : World} {x : Td} {t : TypeId} (h : MRow w x.v x.l) : TRow (w.alloc (.cells ⟨enT x⟩ t)) (.slice (some ⟨w.heap.size, 0, none⟩) 1 1) [x] := by
  refine ⟨⟨_, 1, rfl, by simp, by decide, Or.inr ⟨_, _, rfl, by simp, fun i y hi j hj => ?_⟩⟩, fun y hy => ?_⟩
  · rw [cells_at (heap_alloc_new w _), Nat.zero_add]
    have := flatMap_get enT_len [x] i y hi j hj
    simpa using this
  · rw [List.mem_singleton.1 hy]
    exact h.below ((Below.refl _ _).alloc (Nat.le_refl _) _)
/-- A call lies at a place. -/
structure AtO (w : World) (b o : Nat) (x : RpOp) : Prop where
  lt : b < w.heap.size
  c0 : w.cell? ⟨b, o, none⟩ = some (.int .i64 x.k)
  c1 : w.cell? ⟨b, o + 1, none⟩ = some (.int .i64 x.n)
  c4 : w.cell? ⟨b, o + 4, none⟩ = some x.r.v
  c5 : w.cell? ⟨b, o + 5, none⟩ = some (.int .i64 x.r.f.p)
  c6 : w.cell? ⟨b, o + 6, none⟩ = some (.int .i64 x.r.f.l)
  c7 : w.cell? ⟨b, o + 7, none⟩ = some (.int .i64 x.r.f.w)
  c8 : w.cell? ⟨b, o + 8, none⟩ = some (.bool x.r.q)
theorem ro_at {w : World} {ao : Option Addr} {n cap : Nat} {T : List RpOp} (h : RORow w (.slice ao n cap) T) {k : Nat} {x : RpOp} (hk : T[k]? = some x) : ∃ b off, ao = some ⟨b, off, none⟩ ∧ AtO w b (off + k * 9) x := by
  obtain ⟨hlt, he⟩ := List.getElem?_eq_some_iff.1 hk
  obtain ⟨b, off, e, hb, hc⟩ := Lst.get h.row hlt
  rw [he] at hc
  exact ⟨b, off, e, hb, hc 0 (by omega), hc 1 (by omega), hc 4 (by omega), hc 5 (by omega), hc 6 (by omega), hc 7 (by omega), hc 8 (by omega)⟩
/-- How far the law's run is. -/
def LawAt (wB : World) (k B B2 : Nat) (nv : Value) (N : List Int) (j : Nat) (rv iv : Value) (wr : World) : Prop :=
  ∃ s E K rep ins, SOk wr k s N E K B ∧ s.nv = nv ∧ Sess.Ok ⟨N, E.map (·.1), K, s.ph⟩ rep ins ∧ OwnI wr B2 rv rep ∧ OwnI wr B2 iv ins ∧ Apart rv iv ∧ rep.length ≤ j ∧ ins.length ≤ j ∧ B2 ≤ wr.heap.size ∧ Below B wB wr

theorem AtO.below {w w' : World} {b o : Nat} {x : RpOp} (h : AtO w b o x) (hb : Below w.heap.size w w') : AtO w' b o x := by
  have e : ∀ k, w'.cell? ⟨b, k, none⟩ = w.cell? ⟨b, k, none⟩ := fun k => hb.cell (p := ⟨b, k, none⟩) h.lt
  obtain ⟨h0, h1, h2, h3, h4, h5, h6, h7⟩ := h
  exact ⟨Nat.lt_of_lt_of_le h0 hb.size, (e _).trans h1, (e _).trans h2, (e _).trans h3, (e _).trans h4, (e _).trans h5, (e _).trans h6, (e _).trans h7⟩
theorem LawAt.below {wB w w' : World} {k B B2 j : Nat} {nv rv iv : Value} {N : List Int} (h : LawAt wB k B B2 nv N j rv iv w) (hb : Below w.heap.size w w') (hB : B ≤ B2) : LawAt wB k B B2 nv N j rv iv w' := by
  obtain ⟨s, E, K, rep, ins, h1, h2, h3, h4, h5, h6, h7, h8, h9, h10⟩ := h
  exact ⟨s, E, K, rep, ins, h1.below hb, h2, h3, row_below h4 hb, row_below h5 hb, h6, h7, h8, Nat.le_trans h9 hb.size, h10.trans (hb.mono (Nat.le_trans hB h9))⟩
theorem LawAt.more {wB w : World} {k B B2 j j' : Nat} {nv rv iv : Value} {N : List Int} (h : LawAt wB k B B2 nv N j rv iv w) (hj : j ≤ j') : LawAt wB k B B2 nv N j' rv iv w := by
  obtain ⟨s, E, K, rep, ins, h1, h2, h3, h4, h5, h6, h7, h8, h9, h10⟩ := h
  exact ⟨s, E, K, rep, ins, h1, h2, h3, h4, h5, h6, Nat.le_trans h7 hj, Nat.le_trans h8 hj, h9, h10⟩

theorem law_grow {w w' : World} {k B B2 : Nat} {s : Sx} {N K rep ins : List Int} {E : List (Int × Rp)} {nv rv rv' iv : Value} {x : Int} (hO : SOk w k s N E K B) (hnv : s.nv = nv) (hlt : ∀ g, nv.ownBlock = some g → g < B2) (hr : OwnI w B2 rv rep)
    (hown : w'.ownsRow B2 3 1 rv' (rep.length + 1) (rep.flatMap enI ++ enI x)) (hg : w.grownBy w' rv.ownBlock) (hat : rv'.ownBlock = rv.ownBlock ∨ rv'.ownBlock = some w.heap.size) (hi : OwnI w B2 iv ins) (hap : Apart rv iv) (hB : B ≤ B2) (hs : B2 ≤ w.heap.size) :
    SOk w' k s N E K B ∧ OwnI w' B2 rv' (rep ++ [x]) ∧ OwnI w' B2 iv ins ∧ Apart rv' iv ∧ Below B w w' ∧ B2 ≤ w'.heap.size := by
  refine ⟨hO.ints hg hr (fun g h1 h2 => ?_), ?_, row_kept hi hg (fun r h1 => hap r h1), ?_, (Below.refl B w).grown hg (Nat.le_trans hB hs) (fun j hj => Nat.le_trans hB (World.ownsRow.lt hr j hj).1), Nat.le_trans hs hg.size⟩
  · rw [hnv] at h1
    have h3 := hlt g h1
    have h4 := (World.ownsRow.lt hr g h2).1
    omega
  · unfold OwnI
    rw [List.length_append, List.flatMap_append]
    simpa using hown
  · intro g h1 h2
    rcases hat with h3 | h3
    · exact hap g (h3 ▸ h1) h2
    · rw [h3] at h1
      injection h1 with h1
      have := (World.ownsRow.lt hi g h2).2
      omega
theorem done_keeps (S : Sess) (n : Int) : (Sess.done S n).nodes = S.nodes ∧ (Sess.done S n).kr = S.kr := by
  unfold Sess.done
  split <;> exact ⟨rfl, rfl⟩
theorem core_one {R : List Rp} {c : Con × Stp × Bool} (h : R.map core = [c]) : ∃ y, R = [y] ∧ core y = c := by
  match R, h with
  | [y], h => exact ⟨y, rfl, by simpa using h⟩

set_option maxHeartbeats 8000000 in
set_option maxRecDepth 100000 in
theorem repairall_any (se : Stp) (now : Int) (no : Option Addr) (nc : Nat) (L : List Int) (vo : Option Addr) (vc : Nat) (T : List RpOp) (w : World) (hT : Tabs w) (hN0 : (default : Lim).n ≤ w.heap.size) (hr : IRow w (.slice no L.length nc) L) (hLD : ∀ x ∈ L, Nd x)
    (hv : RORow w (.slice vo T.length vc) T) (hz : ROSizes T) :
    Calls Tryz.prog 3 #[.agg #[.int .i64 se.p, .int .i64 se.l, .int .i64 se.w, .int .i64 now, .slice no L.length nc], .slice vo T.length vc] w (RetB true w) := by
  obtain ⟨n, hn⟩ : ∃ n, n = L.length := ⟨_, rfl⟩
  obtain ⟨t, ht⟩ : ∃ t, t = T.length := ⟨_, rfl⟩
  obtain ⟨W0, hW0⟩ : ∃ W, W = w.alloc (.cells #[.int .i64 se.p, .int .i64 se.l, .int .i64 se.w, .int .i64 now, .slice no L.length nc] 26) := ⟨_, rfl⟩
  obtain ⟨k2, hk2⟩ : ∃ k, k = w.heap.size := ⟨_, rfl⟩
  have hb0 : Below w.heap.size w W0 := by rw [hW0]; exact (Below.refl _ _).alloc (Nat.le_refl _) _
  have hz0 : W0.heap.size = w.heap.size + 1 := by rw [hW0]; simp
  have hbx : W0.heap[k2]? = some (.cells #[.int .i64 se.p, .int .i64 se.l, .int .i64 se.w, .int .i64 now, .slice no L.length nc] 26 (0, 0)) := by rw [hW0, hk2]; exact heap_alloc_new w _
  have hnew := new_any se now no nc L W0 (Lst.below hr hb0)
  have HROW := Lib.hid (fun (W : World) (hb : Below w.heap.size w W) => Lst.below hr hb)
  rw [← hn] at hnew hbx hW0 HROW ⊢
  rw [← ht] at hv ⊢
  obtain ⟨sp, sl, sw⟩ := se
  unfold vS at hnew
  simp only [] at hnew hbx hW0 ⊢
  have HBX := Lib.hid (fun (W : World) (hb : Below W0.heap.size W0 W) => (show W.cell? ⟨k2, 4, none⟩ = some (.slice no n nc) from by
    rw [cell_of_row W k2 4 _ _ (0, 0) ((hb.block k2 (by rw [hz0, hk2]; omega)).trans hbx)]; rfl))
  have b0 : W0.cell? ⟨k2, 0, none⟩ = some (.int .i64 sp) := by rw [cell_of_row W0 k2 0 _ _ (0, 0) hbx]; rfl
  have b1 : W0.cell? ⟨k2, 1, none⟩ = some (.int .i64 sl) := by rw [cell_of_row W0 k2 1 _ _ (0, 0) hbx]; rfl
  have b2 : W0.cell? ⟨k2, 2, none⟩ = some (.int .i64 sw) := by rw [cell_of_row W0 k2 2 _ _ (0, 0) hbx]; rfl
  have b3 : W0.cell? ⟨k2, 3, none⟩ = some (.int .i64 now) := by rw [cell_of_row W0 k2 3 _ _ (0, 0) hbx]; rfl
  have b4 : W0.cell? ⟨k2, 4, none⟩ = some (.slice no n nc) := by rw [cell_of_row W0 k2 4 _ _ (0, 0) hbx]; rfl
  have HNEW := Lib.hid hnew
  have HW0 := Lib.hid hW0
  have HK2 := Lib.hid hk2
  have HB0 := Lib.hid hb0
  have HZ0 := Lib.hid hz0
  have HT := Lib.hid hT
  have HN0 := Lib.hid hN0
  have HLD := Lib.hid hLD
  have HV := Lib.hid hv
  have HZ := Lib.hid hz
  have HN := Lib.hid (And.intro hn ht)
  clear hnew hW0 hk2 hb0 hz0 hbx hT hN0 hr hLD hv hz hn ht
  go_enter Tryz.func3, Tryz.ntmps3
  go_upto_region 1 with fail
  rw [← HW0.out, ← HK2.out]
  clear HW0
  cases q1 : decide ((20 : Int) < (n : Int))
  case true =>
    go_wp2_with fail
    go_ret
    exact ⟨rfl, HB0.out⟩
  have hn20 : n ≤ 20 := by have := of_decide_eq_false q1; omega
  cases q2 : decide ((40 : Int) < (t : Int))
  case true =>
    go_wp2_with fail
    go_ret
    exact ⟨rfl, HB0.out⟩
  have ht40 : t ≤ 40 := by have := of_decide_eq_false q2; omega
  cases q3 : ((n : Int) == 0)
  case true =>
    go_wp2_with fail
    go_ret
    exact ⟨rfl, HB0.out⟩
  have hn0 : n ≠ 0 := by simp at q3; exact q3
  have HNZ := Lib.hid hn0
  clear hn0
  go_wp2_with fail
  refine (HNEW.out (by have := HN.out.1; omega) (by intro e; have := HN.out.1; rw [e] at this; exact HNZ.out this)).mono ?_
  rintro e w1 ⟨k, s, rfl, hO, hp, hb1⟩
  obtain ⟨B, hB⟩ : ∃ B, B = W0.heap.size := ⟨_, rfl⟩
  obtain ⟨N, hNN⟩ : ∃ N, N = dupI (sortI L) := ⟨_, rfl⟩
  rw [← hB, ← hNN] at hO
  have hLAT : LawAt W0 k B w1.heap.size s.nv N 0 (.slice none 0 0) (.slice none 0 0) w1 := ⟨s, [], [], [], [], hO, rfl, by rw [hp]; exact Sess.new_ok N, World.ownsRow_nil _ _ _ _, World.ownsRow_nil _ _ _ _, (fun g hg => by cases hg), Nat.le_refl _, Nat.le_refl _, Nat.le_refl _, by rw [hB]; exact hb1⟩
  have HLAT := Lib.hid hLAT
  have HB := Lib.hid hB
  have HNN := Lib.hid hNN
  have HNL := Lib.hid (show N.length ≤ 20 by
    have h1 := dupI_len (sortI L)
    rw [sortI_len] at h1
    have := HN.out.1
    rw [hNN]; omega)
  have HNN2 := Lib.hid (show ∀ m ∈ N, Nd m from fun m hm => by rw [hNN] at hm; exact HLD.out m ((sortI_mem L m).1 (mem_dupI _ m hm)))
  have HBL := Lib.hid (show B ≤ w1.heap.size by rw [hB]; exact hb1.size)
  have HLT := Lib.hid (show ∀ g, s.nv.ownBlock = some g → g < w1.heap.size from fun g hg => (World.ownsRow.lt hO.nodes g hg).2)
  obtain ⟨nv, hnv⟩ : ∃ nv, nv = s.nv := ⟨_, rfl⟩
  rw [← hnv] at HLAT HLT
  clear hO hp hb1 hB hNN hLAT hnv HNEW b0 b1 b2 b3 b4 q1 q2 q3
  go_wp2_with fail
  go_loopw [7, 8, 9, 10, 11] (fun rv iv i _ _ wr => ∃ (j : Nat), j ≤ t ∧ i = .int .i64 j ∧ Hid (LawAt W0 k B w1.heap.size nv N j rv iv wr)) (fun _ _ i _ _ _ => t - iNat i)
  case atStart => exact ⟨0, by omega, rfl, HLAT⟩
  case round =>
    obtain ⟨j, hj, rfl, hat⟩ := hrel
    by_cases hlt : j < t
    · obtain ⟨x, hx⟩ : ∃ x, T[j]? = some x := ⟨_, List.getElem?_eq_getElem (by have := HN.out.2; omega)⟩
      have hbr : Below w.heap.size w wr := by
        obtain ⟨_, _, _, _, _, _, _, _, _, _, _, _, _, _, hb⟩ := hat.out
        have := HB.out; have := HZ0.out
        exact HB0.out.trans (hb.mono (by omega))
      have hxm := List.mem_of_getElem? hx
      have hvr := HV.out.below hbr
      obtain ⟨xb, xo, rfl, hao⟩ := ro_at hvr hx
      have hro := hvr.ro x hxm
      obtain ⟨lo, lc, hxv, -, -⟩ := hro.form
      have hnd := (HZ.out x hxm).2
      have hsz := (HZ.out x hxm).1
      obtain ⟨xk, xn, xt, xy, ⟨xv, xl, ⟨fp, fl, fw⟩, xq⟩⟩ := x
      simp only [] at hxv hnd hsz hro
      obtain ⟨ln, hln⟩ : ∃ n, n = xl.length := ⟨_, rfl⟩
      rw [← hln] at hxv
      subst hxv
      have HAO := Lib.hid hao
      obtain ⟨hxl, c0, -, c4, c5, c6, c7, c8⟩ := hao
      simp only [] at c0 c4 c5 c6 c7 c8
      have HRO := Lib.hid hro
      have HBR := Lib.hid hbr
      have HSZ := Lib.hid hsz
      have HND := Lib.hid hnd
      have HLN := Lib.hid hln
      have HX := Lib.hid hx
      clear hx hxm hvr hro hbr hsz hnd hln hxl
      cases hneg : decide (xk < 0)
      case true =>
        go_wp2_with fail
        go_ret
        exact ⟨rfl, HBR.out⟩
      have HONE := Lib.hid (one_told (t := 34) (x := ⟨.slice lo ln lc, xl, ⟨fp, fl, fw⟩, xq⟩) HRO.out)
      have HGR := Lib.hid (great25_any _ _ _ HONE.out (fun y hy => by rw [List.mem_singleton.1 hy]; exact HSZ.out))
      obtain ⟨gq, hgq⟩ : ∃ q, q = great25 [(⟨.slice lo ln lc, xl, ⟨fp, fl, fw⟩, xq⟩ : Td)] := ⟨_, rfl⟩
      rw [← hgq] at HGR
      have HGQ := Lib.hid hgq
      clear hgq
      go_wp2_with fail
      refine HGR.out.mono ?_
      rintro e w2 ⟨rfl, rfl⟩
      cases gq
      case true =>
        go_wp2_with fail
        go_ret
        exact ⟨rfl, HBR.out.alloc HBR.out.size _⟩
      have hal : Below wr.heap.size wr (wr.alloc (.cells ⟨enT ⟨.slice lo ln lc, xl, ⟨fp, fl, fw⟩, xq⟩⟩ 34)) := (Below.refl _ _).alloc (Nat.le_refl _) _
      obtain ⟨wa, hwa⟩ : ∃ W, W = wr.alloc (.cells ⟨enT ⟨.slice lo ln lc, xl, ⟨fp, fl, fw⟩, xq⟩⟩ 34) := ⟨_, rfl⟩
      have HAO2 := Lib.hid (HAO.out.below hal)
      have HLA := Lib.hid (hat.out.below hal HBL.out)
      have HBA := Lib.hid (below_then HBR.out (Nat.le_refl _) hal)
      have HRA := Lib.hid (HRO.out.below hal)
      rw [← hwa] at HAO2 HLA HBA HRA ⊢
      clear hwa hal c0 c4 c5 c6 c7 c8 HGR HONE HAO HRO HBR hat
      obtain ⟨hxl, c0, c1, c4, c5, c6, c7, c8⟩ := HAO2.out
      simp only [] at c0 c1 c4 c5 c6 c7 c8
      clear hxl
      go_upto_if 70 with fail
      go_cut [7, 8, 10, 11] (fun rv iv _ _ wx => LawAt W0 k B w1.heap.size nv N (j + 1) rv iv wx)
      case first =>
        obtain ⟨s, E, K, rep, ins, hO, hnv, hok, hre, hin, hap, hl1, hl2, hsB, hBB⟩ := HLA.out
        obtain ⟨i0, hi, hz0, hz1, hz2⟩ := info_parts info_I
        have HI := Lib.hid (And.intro hi (And.intro hz0 (And.intro hz1 hz2)))
        clear hi hz0 hz1 hz2
        have hkl : K.length ≤ 100 := by
          have h1 := len_le K N hok.kd.1 hok.kd.2.1
          have h2 := HNL.out
          omega
        have hel : E.length ≤ 1000 := by
          have h1 := len_le _ N hok.kr.1 hok.kr.2.1
          have h2 := HNL.out
          simp only [List.length_map] at h1
          omega
        have HO := Lib.hid hO
        have HNV := Lib.hid hnv
        have HOK := Lib.hid hok
        have HRE := Lib.hid hre
        have HIN := Lib.hid hin
        have HAP := Lib.hid hap
        have HLL := Lib.hid (And.intro hl1 hl2)
        have HSB := Lib.hid hsB
        have HBB := Lib.hid hBB
        have HKL := Lib.hid (And.intro hkl hel)
        clear hO hnv hok hre hin hap hl1 hl2 hsB hBB hkl hel HLA
        cases hmd : decide (xk.tmod 7 ≤ 2)
        case true =>
          have hone := one_told (t := 34) (x := ⟨.slice lo ln lc, xl, ⟨fp, fl, fw⟩, xq⟩) HRA.out
          have hsm := (great25_small HGQ.out.symm).2 _ (List.mem_singleton.2 rfl)
          simp only [] at hsm
          have hal : Below wa.heap.size wa (wa.alloc (.cells ⟨enT ⟨.slice lo ln lc, xl, ⟨fp, fl, fw⟩, xq⟩⟩ 34)) := (Below.refl _ _).alloc (Nat.le_refl _) _
          have HBO := Lib.hid (both25_any _ _ _ ((HT.out.below HBA.out).below hal) hone (Nat.le_trans HN0.out (Nat.le_trans HBA.out.size hal.size)) (by simp) (fun z hz => by rw [List.mem_singleton.1 hz]; exact ⟨by have := hsm.1; simp only []; omega, hsm.2⟩))
          have HSM := Lib.hid hsm.1
          have HAL := Lib.hid hal
          clear hone hsm hal
          go_wp2_with fail
          refine HBO.out.mono ?_
          rintro e w3 ⟨va, vb, RA, RB, rfl, hra, hrb, hca, -, hb3⟩
          obtain ⟨y, rfl, hcy⟩ := core_one hca
          obtain ⟨ao, ac, rfl, -, -⟩ := hra.form
          obtain ⟨bo, bc, rfl, -, -⟩ := hrb.form
          have hly := hra.con y (List.mem_singleton.2 rfl)
          obtain ⟨rb, ro, hae, hrl, r0⟩ := Lst.get hra.row (show 0 < [y].length from Nat.zero_lt_one)
          subst hae
          have hbw3 := below_then HAL.out (Nat.le_refl _) hb3
          obtain ⟨⟨ya0, ya1, ya2, ea⟩, ⟨yb0, yb1, yb2, eb⟩, ⟨yd0, yd1, yd2, ed⟩⟩ := hly.forms
          obtain ⟨ya, yb, yd, yc, ⟨yp, yl, yw⟩, yq⟩ := y
          simp only [] at ea eb ed
          subst ea eb ed
          have hyc : yc = Mut.leftOf (xl.map (·.1)) := congrArg (fun z => z.1) hcy
          have HG := Lib.hid (show Mut.Good yc 15 by rw [hyc]; exact (leftOf_good _).more HSM.out)
          have hro3 : ∀ i (hi : i < 7), w3.cell? ⟨rb, ro + i, none⟩ = (enR ⟨.slice ya0 ya1 ya2, .slice yb0 yb1 yb2, .slice yd0 yd1 yd2, yc, ⟨yp, yl, yw⟩, yq⟩)[i]? := fun i hi => by have h := r0 i hi; simpa using h
          have HY := Lib.hid (fun (W : World) (hb : Below w3.heap.size w3 W) => (show W.cell? ⟨rb, ro + 0, none⟩ = some (.slice ya0 ya1 ya2) ∧ W.cell? ⟨rb, ro + 1, none⟩ = some (.slice yb0 yb1 yb2) ∧ W.cell? ⟨rb, ro + 2, none⟩ = some (.slice yd0 yd1 yd2) ∧ W.cell? ⟨rb, ro + 3, none⟩ = some (.int .i64 yp) ∧ W.cell? ⟨rb, ro + 4, none⟩ = some (.int .i64 yl) ∧ W.cell? ⟨rb, ro + 5, none⟩ = some (.int .i64 yw) ∧ W.cell? ⟨rb, ro + 6, none⟩ = some (.bool yq) from
            have e : ∀ i, W.cell? ⟨rb, ro + i, none⟩ = w3.cell? ⟨rb, ro + i, none⟩ := fun i => hb.cell (p := ⟨rb, ro + i, none⟩) hrl
            ⟨(e 0).trans (hro3 0 (by omega)), (e 1).trans (hro3 1 (by omega)), (e 2).trans (hro3 2 (by omega)), (e 3).trans (hro3 3 (by omega)), (e 4).trans (hro3 4 (by omega)), (e 5).trans (hro3 5 (by omega)), (e 6).trans (hro3 6 (by omega))⟩))
          have HX1 := Lib.hid (fun (W : World) (hb : Below w3.heap.size w3 W) => (HAO2.out.below (below_then hbw3 (Nat.le_refl _) hb)).c1)
          have HLY := Lib.hid hly
          have HB3 := Lib.hid hbw3
          clear hra hrb hca hb3 hcy hly r0 hrl hbw3 hyc hro3 HBO HAL c0 c1 c4 c5 c6 c7 c8
          go_wp2_with fail
          refine wp_region_told [] 9 [false, false, false, false, false, false, false, false, false, false, false, false, false, false, false, false, false, false, false, false, false, false, false, false, false, false, false, false, false, false, false, false, false, false, false, false, false, false, false, false, false, false, false, false, false, false, false, false, false, false, false, false, false, false, false, false, false, false, false, false, false, false, false, false, false, false, false, false, false, false, false, false, false, false, false, false, false, false, false, false, false, true, true, true, true, true, true, true, true, true, false, false, false, false, false, false, false, false, false, false, false, false, false, false, false, false, false, false, false, false, false, false, false, false, false, false, false, false, false, false, false, false, false, false, false, false, false, false, false, false, false, false, false, false, false, false, false, false, false, false, false, false, false, false, false]
            [sLit (.pointer (some ⟨k, 0, none⟩)),
    sLit (.slice (some ⟨xb, xo, none⟩) t vc),
    sLit (.int .i64 j),
    sLit (.pointer (some ⟨xb, xo + j * 9, none⟩)),
    sLit (.pointer (some ⟨xb, xo + j * 9 + 1, none⟩)),
    sLit (.int .i64 xn),
    sLit (.slice (some ⟨rb, ro, none⟩) 1 ac),
    sLit (.pointer (some ⟨rb, ro, none⟩)),
    sLit (.agg #[.slice ya0 ya1 ya2, .slice yb0 yb1 yb2, .slice yd0 yd1 yd2, .int .i64 yp, .int .i64 yl, .int .i64 yw, .bool yq])] (by kernel_rfl) (by kernel_rfl) (by kernel_rfl) (fun F hF => ?_)
          simp only [over, overL, Nat.reduceAdd] at hF
          obtain rfl := funext hF
          clear hF
          refine ⟨⟨?_, ?_, ?_, ?_, ?_, ?_, ?_, ?_, ?_, trivial⟩, ?_⟩
          · intro V W hb hd K hK _
            clear hd
            go_wp2_with fail
            refine hK _ _ ?_ ?_ ?_ ?_
            · rfl
            · exact Below.refl _ _
            · exact rfl
            · trivial
          · intro V W hb hd K hK _
            clear hd
            go_wp2_with fail
            refine hK _ _ ?_ ?_ ?_ ?_
            · rfl
            · exact Below.refl _ _
            · exact rfl
            · trivial
          · intro V W hb hd K hK _
            clear hd
            go_wp2_with fail
            refine hK _ _ ?_ ?_ ?_ ?_
            · rfl
            · exact Below.refl _ _
            · exact rfl
            · trivial
          · intro V W hb hd K hK _
            have h1 : (V 82) = .slice (some ⟨xb, xo, none⟩) t vc := hd 1 (by kernel_rfl)
            have h2 : (V 83) = .int .i64 j := hd 2 (by kernel_rfl)
            clear hd
            go_wp2_with fail
            refine hK _ _ ?_ ?_ ?_ ?_
            · rfl
            · exact Below.refl _ _
            · exact rfl
            · trivial
          · intro V W hb hd K hK _
            have h3 : (V 84) = .pointer (some ⟨xb, xo + j * 9, none⟩) := hd 3 (by kernel_rfl)
            clear hd
            go_wp2_with fail
            refine hK _ _ ?_ ?_ ?_ ?_
            · rfl
            · exact Below.refl _ _
            · exact rfl
            · trivial
          · intro V W hb hd K hK _
            have h4 : (V 85) = .pointer (some ⟨xb, xo + j * 9 + 1, none⟩) := hd 4 (by kernel_rfl)
            clear hd
            have hxn := (HX1.out W hb)
            go_wp2_with fail
            refine hK _ _ ?_ ?_ ?_ ?_
            · rfl
            · exact Below.refl _ _
            · exact rfl
            · trivial
          · intro V W hb hd K hK _
            clear hd
            go_wp2_with fail
            refine hK _ _ ?_ ?_ ?_ ?_
            · rfl
            · exact Below.refl _ _
            · exact rfl
            · trivial
          · intro V W hb hd K hK _
            have h6 : (V 87) = .slice (some ⟨rb, ro, none⟩) 1 ac := hd 6 (by kernel_rfl)
            clear hd
            go_wp2_with fail
            refine hK _ _ ?_ ?_ ?_ ?_
            · rfl
            · exact Below.refl _ _
            · exact rfl
            · trivial
          · intro V W hb hd K hK _
            have h7 : (V 88) = .pointer (some ⟨rb, ro, none⟩) := hd 7 (by kernel_rfl)
            clear hd
            obtain ⟨m0, m1, m2, m3, m4, m5, m6⟩ := HY.out W hb
            rw [Nat.add_zero] at m0
            go_wp2_with fail
            refine hK _ _ ?_ ?_ ?_ ?_
            · rfl
            · exact Below.refl _ _
            · exact rfl
            · trivial
          · intro V W hb hd hap
            have h0 : (V 81) = .pointer (some ⟨k, 0, none⟩) := hd 0 (by decide)
            have h5 : (V 86) = .int .i64 xn := hd 5 (by decide)
            have h8 : (V 89) = .agg #[.slice ya0 ya1 ya2, .slice yb0 yb1 yb2, .slice yd0 yd1 yd2, .int .i64 yp, .int .i64 yl, .int .i64 yw, .bool yq] := hd 8 (by decide)
            clear hd hap
            simp only [List.drop_succ_cons, List.drop_zero]
            have hxn := (HX1.out W hb)
            have hO4 := HO.out.below (below_then HB3.out (Nat.le_refl _) hb)
            have hwB := below_then HB3.out (Nat.le_refl _) hb
            have hBwa : B ≤ wa.heap.size := Nat.le_trans HBL.out HSB.out
            have HREP := Lib.hid (report_any k s N E K B xn ⟨.slice ya0 ya1 ya2, .slice yb0 yb1 yb2, .slice yd0 yd1 yd2, yc, ⟨yp, yl, yw⟩, yq⟩ w W HT.out (below_then HBA.out (Nat.le_refl _) hwB) (by rw [HB.out]; exact HB0.out.size) (Nat.le_trans HN0.out (Nat.le_trans HBA.out.size hwB.size)) hO4 (by have := HNL.out; omega) HNN2.out HKL.out.2 ⟨HOK.out.kr.1, HOK.out.kr.2.1⟩ HND.out (HLY.out.below hb) HG.out)
            have HW4 := Lib.hid hwB
            clear hO4 hwB hxn hb
            go_wp2_with fail
            refine HREP.out.mono ?_
            rintro e w5 ⟨ok, s', E', rfl, hO5, hnv5, hS5, hk5, hb5, -⟩
            have hre5 : OwnI w5 w1.heap.size u7 rep := hk5.own (row_below HRE.out HW4.out) (by decide)
            have hin5 : OwnI w5 w1.heap.size u8 ins := hk5.own (row_below HIN.out HW4.out) (by decide)
            have hs5 : w1.heap.size ≤ w5.heap.size := Nat.le_trans HSB.out (Nat.le_trans HW4.out.size hb5.size)
            have hB5 : Below B W0 w5 := (HBB.out.trans (HW4.out.mono hBwa)).trans hb5
            have hok5 := HOK.out.report xn ok
            rw [← hS5] at hok5
            have hA5 : Below w.heap.size w w5 := HB0.out.trans (hB5.mono (by have := HB.out; have := HB0.out.size; omega))
            obtain ⟨xb5, xo5, hao5, hat5⟩ := ro_at (HV.out.below hA5) HX.out
            cases hao5
            have x1 := hat5.c1
            simp only [] at x1
            have hxlt := hat5.lt
            have hal5 : Below w5.heap.size w5 (w5.alloc (.cells ⟨enI xn⟩ 3)) := (Below.refl _ _).alloc (Nat.le_refl _) _
            have HO5 := Lib.hid (hO5.below hal5)
            have HRE5 := Lib.hid (row_below hre5 hal5)
            have HIN5 := Lib.hid (row_below hin5 hal5)
            have HS5 := Lib.hid (Nat.le_trans hs5 hal5.size)
            have HB5 := Lib.hid (hB5.trans (hal5.mono (Nat.le_trans HBL.out hs5)))
            have HNV5 := Lib.hid (hnv5.trans HNV.out)
            have HOK5 := Lib.hid hok5
            clear hO5 hnv5 hS5 hk5 hb5 hre5 hin5 hs5 hB5 hok5 hA5 hat5 hal5 HREP
            go_wp2_with (at_builtin; refine wpList_append_own_at _ rfl (.tmp 91) (.tmp 97) 24 rfl w1.heap.size 3 i0 (.int .i64 0) 1 8 Tryz.underlying24 HI.out.1 HI.out.2.1 HI.out.2.2.1 HI.out.2.2.2 rfl (by decide) u7 _ _ rfl HRE5.out ⟨w5.heap.size, 0, none⟩ 1 1 (enI xn) rfl rfl (new_cells _ (enI xn) _) (enI_one xn) (by unfold maxLen; have := HLL.out.1; omega) (by have := HLL.out.1; omega) HS5.out ?_)
            intro v6 w6 hown6 hgrow6 _ hat6
            obtain ⟨g1, g2, g3, g4, g5, g6⟩ := law_grow HO5.out HNV5.out HLT.out HRE5.out hown6 hgrow6 (by rw [World.size_alloc]; exact hat6) HIN5.out HAP.out HBL.out HS5.out
            have HF := Lib.hid (show LawAt W0 k B w1.heap.size nv N (j + 1) v6 u8 w6 from ⟨s', E', K, rep ++ [xn], ins, g1, HNV5.out, HOK5.out, g2, g3, g4, by rw [List.length_append]; have := HLL.out.1; simp; omega, by have := HLL.out.2; omega, g6, HB5.out.trans g5⟩)
            clear hown6 hgrow6 hat6 g1 g2 g3 g4 g5 g6
            go_wp2_with fail
            go_meet
            exact HF.out
        have HPH := Lib.hid (phase_any k s wa HO.out.var)
        go_wp2_with fail
        refine HPH.out.mono ?_
        rintro e w3 ⟨rfl, rfl⟩
        cases hph : (s.ph == 1)
        case false =>
          have HF := Lib.hid (show LawAt W0 k B w1.heap.size nv N (j + 1) u7 u8 wa from ⟨s, E, K, rep, ins, HO.out, HNV.out, HOK.out, HRE.out, HIN.out, HAP.out, by have := HLL.out.1; omega, by have := HLL.out.2; omega, HSB.out, HBB.out⟩)
          go_wp2_with fail
          go_meet
          exact HF.out
        have HDN := Lib.hid (done_any k s N E K B xn wa HO.out (by have := HNL.out; omega) (by have := HKL.out.1; omega) HND.out)
        go_wp2_with fail
        refine HDN.out.mono ?_
        rintro e w5 ⟨rfl, hO5, hk5, hb5⟩
        have hBwa : B ≤ wa.heap.size := Nat.le_trans HBL.out HSB.out
        have hok5 := HOK.out.done xn
        have hdk := done_keeps ⟨N, E.map (·.1), K, s.ph⟩ xn
        obtain ⟨S, hS⟩ : ∃ S, S = Sess.done ⟨N, E.map (·.1), K, s.ph⟩ xn := ⟨_, rfl⟩
        rw [← hS] at hO5 hok5 hdk ⊢
        obtain ⟨Sn, Sr, Sd, Sp⟩ := S
        simp only [] at hdk hO5
        obtain ⟨hd1, hd2⟩ := hdk
        replace hd1 := hd1.symm
        replace hd2 := hd2.symm
        subst hd1 hd2
        have hre5 : OwnI w5 w1.heap.size u7 rep := hk5.own HRE.out (by decide)
        have hin5 : OwnI w5 w1.heap.size u8 ins := hk5.own HIN.out (by decide)
        have hs5 : w1.heap.size ≤ w5.heap.size := Nat.le_trans HSB.out hb5.size
        have hB5 : Below B W0 w5 := HBB.out.trans hb5
        have hA5 : Below w.heap.size w w5 := HB0.out.trans (hB5.mono (by have := HB.out; have := HB0.out.size; omega))
        obtain ⟨xb5, xo5, hao5, hat5⟩ := ro_at (HV.out.below hA5) HX.out
        cases hao5
        have x1 := hat5.c1
        simp only [] at x1
        have hxlt := hat5.lt
        have hal5 : Below w5.heap.size w5 (w5.alloc (.cells ⟨enI xn⟩ 3)) := (Below.refl _ _).alloc (Nat.le_refl _) _
        have HO5 := Lib.hid (hO5.below hal5)
        have HRE5 := Lib.hid (row_below hre5 hal5)
        have HIN5 := Lib.hid (row_below hin5 hal5)
        have HS5 := Lib.hid (Nat.le_trans hs5 hal5.size)
        have HB5 := Lib.hid (hB5.trans (hal5.mono (Nat.le_trans HBL.out hs5)))
        have HOK5 := Lib.hid hok5
        clear hO5 hS hk5 hb5 hre5 hin5 hs5 hB5 hok5 hA5 hat5 hal5 HDN HPH c0 c1 c4 c5 c6 c7 c8
        go_wp2_with (at_builtin; refine wpList_append_own_at _ rfl (.tmp 109) (.tmp 115) 24 rfl w1.heap.size 3 i0 (.int .i64 0) 1 8 Tryz.underlying24 HI.out.1 HI.out.2.1 HI.out.2.2.1 HI.out.2.2.2 rfl (by decide) u8 _ _ rfl HIN5.out ⟨w5.heap.size, 0, none⟩ 1 1 (enI xn) rfl rfl (new_cells _ (enI xn) _) (enI_one xn) (by unfold maxLen; have := HLL.out.2; omega) (by have := HLL.out.2; omega) HS5.out ?_)
        intro v6 w6 hown6 hgrow6 _ hat6
        obtain ⟨g1, g2, g3, g4, g5, g6⟩ := law_grow HO5.out HNV.out HLT.out HIN5.out hown6 hgrow6 (by rw [World.size_alloc]; exact hat6) HRE5.out HAP.out.symm HBL.out HS5.out
        have HF := Lib.hid (show LawAt W0 k B w1.heap.size nv N (j + 1) u7 v6 w6 from ⟨s.at Sp, E, Sd, rep, ins ++ [xn], g1, HNV.out, HOK5.out, g3, g2, g4.symm, by have := HLL.out.1; omega, by rw [List.length_append]; have := HLL.out.2; simp; omega, g6, HB5.out.trans g5⟩)
        clear hown6 hgrow6 hat6 g1 g2 g3 g4 g5 g6
        go_wp2_with fail
        go_meet
        exact HF.out
      case rest =>
        have HC := Lib.hid hcut
        obtain ⟨s, E, K, rep, ins, hO, hnv, hok, hre, hin, hap, hl1, hl2, hsB, hBB⟩ := hcut
        have HO := Lib.hid hO
        have HOK := Lib.hid hok
        have hbc : Below w.heap.size w wc := HB0.out.trans (hBB.mono (by have := HB.out; have := HB0.out.size; omega))
        obtain ⟨ro, rc, rfl⟩ := row_form hre
        obtain ⟨io, ic, rfl⟩ := row_form hin
        have HRE := Lib.hid (show IRow wc (.slice ro rep.length rc) rep from Lst.owned enI_len (by decide) rfl hre)
        have HIN := Lib.hid (show IRow wc (.slice io ins.length ic) ins from Lst.owned enI_len (by decide) rfl hin)
        have b4 := HBX.out wc (by have := HB.out; rw [← this]; exact hBB)
        have HLR := Lib.hid (HROW.out wc hbc)
        have HPH := Lib.hid (fun p (hp : s.ph = p) => phase_lit p k s wc hp HO.out.var)
        have HLL := Lib.hid (And.intro hl1 hl2)
        have HCR := Lib.hid (show s.ph = 1 ∨ s.ph = 2 → ∀ x ∈ L, x ∈ rep from fun hp x hx => HOK.out.reported hp x (by show x ∈ N; rw [HNN.out]; exact dupI_mem _ x ((sortI_mem L x).2 hx)))
        have HCI := Lib.hid (show s.ph = 2 → ∀ x ∈ L, x ∈ ins from fun hp x hx => HOK.out.installed hp x (by show x ∈ N; rw [HNN.out]; exact dupI_mem _ x ((sortI_mem L x).2 hx)))
        have HC1 := Lib.hid (fun (h : s.ph = 1 ∨ s.ph = 2) => (show Calls Tryz.prog 10 #[.slice ro rep.length rc, .slice no n nc] wc fun e w' => e = .returned (.bool true) ∧ wc = w' from by
          have hc := covers_yes ro no rc nc rep L wc HRE.out (by have h1 := HLR.out; rw [HN.out.1] at h1; exact h1) (by have := HLL.out.1; omega) (by have := HN.out.1; omega) (HCR.out h)
          rw [← HN.out.1] at hc
          exact hc))
        have HC2 := Lib.hid (fun (h : s.ph = 2) => (show Calls Tryz.prog 10 #[.slice io ins.length ic, .slice no n nc] wc fun e w' => e = .returned (.bool true) ∧ wc = w' from by
          have hc := covers_yes io no ic nc ins L wc HIN.out (by have h1 := HLR.out; rw [HN.out.1] at h1; exact h1) (by have := HLL.out.2; omega) (by have := HN.out.1; omega) (HCI.out h)
          rw [← HN.out.1] at hc
          exact hc))
        have hlow := hok.low
        simp only [] at hlow
        clear hO hnv hok hre hin hap hl1 hl2 hsB hBB hbc c0 c1 c4 c5 c6 c7 c8 HCR HCI
        rcases hlow with hp | hp | hp | hp
        all_goals
          have HP := Lib.hid hp
          clear hp
          go_wp2_with fail
          refine (HPH.out _ HP.out).mono ?_
          rintro e w3 ⟨rfl, rfl⟩
          go_wp2_with fail
        · refine (HPH.out _ HP.out).mono ?_
          rintro e w3 ⟨rfl, rfl⟩
          go_wp2_with fail
          go_roundw
          case rel => exact ⟨j + 1, by omega, by go_num, HC⟩
          case measure => simp [iNat]; omega
        · refine (HPH.out _ HP.out).mono ?_
          rintro e w3 ⟨rfl, rfl⟩
          go_wp2_with fail
          refine (HC1.out (Or.inl HP.out)).mono ?_
          rintro e w3 ⟨rfl, rfl⟩
          go_wp2_with fail
          refine (HPH.out _ HP.out).mono ?_
          rintro e w3 ⟨rfl, rfl⟩
          go_wp2_with fail
          go_roundw
          case rel => exact ⟨j + 1, by omega, by go_num, HC⟩
          case measure => simp [iNat]; omega
        · refine (HPH.out _ HP.out).mono ?_
          rintro e w3 ⟨rfl, rfl⟩
          go_wp2_with fail
          refine (HC1.out (Or.inr HP.out)).mono ?_
          rintro e w3 ⟨rfl, rfl⟩
          go_wp2_with fail
          refine (HPH.out _ HP.out).mono ?_
          rintro e w3 ⟨rfl, rfl⟩
          go_wp2_with fail
          refine (HC2.out HP.out).mono ?_
          rintro e w3 ⟨rfl, rfl⟩
          go_wp2_with fail
          go_roundw
          case rel => exact ⟨j + 1, by omega, by go_num, HC⟩
          case measure => simp [iNat]; omega
        · refine (HPH.out _ HP.out).mono ?_
          rintro e w3 ⟨rfl, rfl⟩
          go_wp2_with fail
          refine (HPH.out _ HP.out).mono ?_
          rintro e w3 ⟨rfl, rfl⟩
          go_wp2_with fail
          go_roundw
          case rel => exact ⟨j + 1, by omega, by go_num, HC⟩
          case measure => simp [iNat]; omega
    · obtain rfl : j = t := by omega
      have hbr : Below w.heap.size w wr := by
        obtain ⟨_, _, _, _, _, _, _, _, _, _, _, _, _, _, hb⟩ := hat.out
        have := HB.out; have := HZ0.out
        exact HB0.out.trans (hb.mono (by omega))
      have HAL := Lib.hid (alive26_any wr (HT.out.below hbr) (Nat.le_trans HN0.out hbr.size))
      have HBR := Lib.hid hbr
      clear hat hbr
      go_wp2_with fail
      refine HAL.out.mono ?_
      rintro e w3 ⟨rfl, hb3⟩
      have HF := Lib.hid (below_then HBR.out (Nat.le_refl _) hb3)
      clear hb3
      go_wp2_with fail
      go_ret
      exact ⟨rfl, HF.out⟩
end Go.Proofs.YthdbilggnjjkhaaGreatDoor.Rpr
