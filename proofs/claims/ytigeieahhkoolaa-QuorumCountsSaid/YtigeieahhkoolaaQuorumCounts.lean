/- The walk of the law QuorumCounts. -/
import Derived.Test.YtigeieahhkoolaaCountWalks
import Derived.Test.YtigeieahhkoolaaQuorumWalks
namespace Go.Proofs.Ytigeieahhkoolaa.Quorum
open Go.RowKit

def BRow (w : World) (b : Nat) (f : Nat → Bool) : Prop := w.rowIs b 68 5 (fun i => .bool (f i))
theorem BRow.set {w : World} {b : Nat} {f : Nat → Bool} (h : BRow w b f) (k : Nat) (v : Bool) : BRow (w.setCell ⟨b, k, none⟩ (.bool v)) b (updB f k v) :=
  (World.rowIs.set h k (.bool v)).congr fun j _ => by unfold updB; split <;> rfl

/-- The law's three blocks: the Count, who said something, whose was OK. -/
structure Mem (w0 w : World) (C S : Nat) (need copies : Int) (a b : Ans) : Prop where
  cnt : Cnt w C need copies a
  sd : BRow w S b.sd
  ok : BRow w (S + 1) b.ok
  below : Below w0.heap.size w0 w
  at0 : w0.heap.size ≤ C
  ord : C < S

theorem Mem.start {w w1 : World} {need copies : Int} (hc1 : Cnt w1 w.heap.size need copies ⟨fun _ => false, fun _ => false, 0⟩) (hb1 : Below w.heap.size w w1) :
    Mem w ((w1.alloc (.cells #[.bool false, .bool false, .bool false, .bool false, .bool false] 68)).alloc (.cells #[.bool false, .bool false, .bool false, .bool false, .bool false] 68)) w.heap.size w1.heap.size need copies ⟨fun _ => false, fun _ => false, 0⟩ ⟨fun _ => false, fun _ => false, 0⟩ := by
  have hB := World.rowIs.lt hc1
  have f5 : ∀ i, i < (#[Value.bool false, Value.bool false, Value.bool false, Value.bool false, Value.bool false] : Array Value).size → (#[Value.bool false, Value.bool false, Value.bool false, Value.bool false, Value.bool false] : Array Value)[i]? = some (Value.bool false) := by
    intro i hi
    have hi' : i < 5 := hi
    change (⟨(List.range 5).map fun _ => Value.bool false⟩ : Array Value)[i]? = some _
    simp [hi']
  refine ⟨World.rowIs.alloc (World.rowIs.alloc hc1 _) _, World.rowIs.alloc (World.rowIs_alloc w1 _ _ _ f5) _, ?_, (hb1.alloc hb1.size _).alloc (by have := hb1.size; simp; omega) _, Nat.le_refl _, hB⟩
  have := World.rowIs_alloc (w1.alloc (.cells #[.bool false, .bool false, .bool false, .bool false, .bool false] 68)) #[.bool false, .bool false, .bool false, .bool false, .bool false] 68 _ f5
  rw [World.size_alloc] at this
  exact this
theorem Mem.store {w0 w : World} {C S : Nat} {need copies : Int} {a b : Ans} (h : Mem w0 w C S need copies a b) (k : Nat) (v : Bool) (y : Int) :
    Mem w0 ((w.setCell ⟨S, k, none⟩ (.bool true)).setCell ⟨S + 1, k, none⟩ (.bool v)) C S need copies a ⟨updB b.sd k true, updB b.ok k v, y⟩ := by
  have := h.ord
  have := h.at0
  refine ⟨World.rowIs.setOther (World.rowIs.setOther h.cnt (by simp; omega) _) (by simp; omega) _, World.rowIs.setOther (BRow.set h.sd k true) (by simp) _, BRow.set (World.rowIs.setOther h.ok (by simp) _) k v, (h.below.setCell (by simp; omega) _).setCell (by simp; omega) _, h.at0, h.ord⟩
theorem Mem.drew {w0 w : World} {C S : Nat} {need copies : Int} {a b : Ans} (h : Mem w0 w C S need copies a b) : Mem w0 w.drew C S need copies a b := ⟨h.cnt, h.sd, h.ok, h.below.drew, h.at0, h.ord⟩
theorem Mem.calm {w0 w w' : World} {C S : Nat} {need copies : Int} {a b : Ans} (h : Mem w0 w C S need copies a b) (hb : Below w.heap.size w w') : Mem w0 w' C S need copies a b :=
  ⟨World.rowIs.of_block h.cnt (hb.block C (World.rowIs.lt h.cnt)), World.rowIs.of_block h.sd (hb.block S (World.rowIs.lt h.sd)), World.rowIs.of_block h.ok (hb.block (S + 1) (World.rowIs.lt h.ok)),
    below_then h.below (Nat.le_refl _) hb, h.at0, h.ord⟩
theorem Mem.said {w0 w w' : World} {C S : Nat} {need copies : Int} {a b c : Ans} (h : Mem w0 w C S need copies a b) (hc : Cnt w' C need copies c) (hg : w.grownBy w' (some C)) : Mem w0 w' C S need copies c b := by
  have := h.ord
  have h1 := World.rowIs.lt h.sd
  have h2 := World.rowIs.lt h.ok
  exact ⟨hc, World.rowIs.of_block h.sd (hg.block S h1 (by simp; omega)), World.rowIs.of_block h.ok (hg.block (S + 1) h2 (by simp; omega)), below_row h.below (Nat.le_refl _) h.at0 hg, h.at0, h.ord⟩

set_option maxRecDepth 100000 in
set_option maxHeartbeats 2000000 in
theorem counts_any (need copies : Int) (ao : Option Addr) (len cap : Nat) (N Y : Nat → Int) (w : World) (hao : len = 0 ∨ ∃ b off, ao = some ⟨b, off, none⟩ ∧ b < w.heap.size ∧
      ∀ i, i < len → w.cell? ⟨b, off + i * 2, none⟩ = some (.int .i64 (N i)) ∧ w.cell? ⟨b, off + i * 2 + 1, none⟩ = some (.int .i64 (Y i)))
    (hlen : len ≤ 50) (k1 : -1099511627776 ≤ copies) (k2 : copies ≤ 1099511627776) :
    Calls Try.prog 11 #[.int .i64 need, .int .i64 copies, .slice ao len cap] w fun e w' => e = .returned (.bool true) ∧ Below w.heap.size w w' := by
  have HAO := Lib.hid hao
  clear hao
  go_enter Try.func11, Try.ntmps11
  go_wp2_with fail
  refine (new_any _ _ _).mono ?_
  rintro e w1 ⟨rfl, hc1, hb1⟩
  have hB := World.rowIs.lt hc1
  go_wp2_with fail
  have HM := Lib.hid (Mem.start hc1 hb1)
  clear hc1 hb1
  obtain ⟨S, hS⟩ : ∃ S, S = w1.heap.size := ⟨_, rfl⟩
  rw [← hS] at HM ⊢
  clear hS
  go_loopw [10, 11, 12, 13] (fun yv nv fv iv wr => ∃ (k : Nat) (a : Ans), k ≤ len ∧ iv = .int .i64 k ∧ yv = .int .i64 (cntF a.ok 5) ∧ nv = .int .i64 (cntF a.no 5) ∧ fv = .int .i64 a.why ∧ Hid a.Fit ∧ Hid (Mem w wr w.heap.size S need copies a a)) (fun _ _ _ iv _ => len - (intOf iv).toNat)
  case atStart => exact ⟨0, ⟨fun _ => false, fun _ => false, 0⟩, by omega, rfl, rfl, rfl, rfl, Lib.hid (fun i h => h), HM⟩
  case round =>
    obtain ⟨k, a, hk, rfl, rfl, rfl, rfl, hfit, hm⟩ := hrel
    have y5 := cntF_le a.ok 5
    have n5 := cntF_le a.no 5
    by_cases hlt : k < len
    · rcases HAO.out with h0 | ⟨b, off, rfl, hbs, hc⟩
      · omega
      have d0 := (hm.out.below.cell (p := ⟨b, off + k * 2, none⟩) hbs).trans (hc k hlt).1
      have d1 := (hm.out.below.cell (p := ⟨b, off + k * 2 + 1, none⟩) hbs).trans (hc k hlt).2
      clear hc
      obtain ⟨c, hcc⟩ : ∃ c, c = a.say (N k) (Y k) := ⟨_, rfl⟩
      cases hcnt : a.counts (N k)
      · by_cases hr : 0 ≤ N k ∧ N k < 5
        · obtain ⟨nd, hnd⟩ := Int.eq_ofNat_of_zero_le hr.1
          have hnd5 : nd < 5 := by omega
          have hsy := Ans.say_not a (N k) (Y k) hcnt
          rw [hnd] at d0 hcnt hsy
          have hs : a.sd nd = true := by
            unfold Ans.counts at hcnt
            rw [Int.toNat_natCast] at hcnt
            simp at hcnt
            exact hcnt (by omega)
          have s0 : wr.cell? ⟨S, nd, none⟩ = some (.bool (a.sd nd)) := World.rowIs.cell hm.out.sd (by omega)
          rw [hs] at s0
          have HCN := Lib.hid hcnt
          have HSY := Lib.hid hsy
          clear hcc hcnt hnd hsy hs hr
          go_wp2_with fail
          refine (say_any w.heap.size need copies a (nd : Int) (Y k) _ hm.out.cnt hfit.out).mono ?_
          rintro e w2 ⟨rfl, hc2, hg2⟩
          rw [HCN.out]
          rw [HSY.out] at hc2
          have hm2 := Lib.hid (hm.out.said hc2 hg2)
          clear hc2 hg2
          cases hy : decide (need ≤ (cntF a.ok 5 : Int))
          · have hyi : (cntF a.ok 5 : Int) < need := by simpa using hy
            go_wp2_with fail
            refine (yes_lit w.heap.size need copies a _ hm2.out.cnt _ hy).mono ?_
            rintro e w3 ⟨rfl, hb3⟩
            have hm3 := Lib.hid (hm2.out.calm hb3)
            clear hb3
            go_wp2_with fail
            refine (no_any w.heap.size need copies a _ hm3.out.cnt k1 k2).mono ?_
            rintro e w4 ⟨rfl, hb4⟩
            rw [hy]
            have hm4 := Lib.hid (hm3.out.calm hb4)
            clear hb4
            cases hn : decide (copies - (cntF a.no 5 : Int) < need)
            all_goals
              go_wp2_with fail
              refine (said_any w.heap.size need copies a (nd : Int) _ hm4.out.cnt hfit.out).mono ?_
              rintro e w5 ⟨rfl, hb5⟩
              have e1 : (decide ((0 : Int) ≤ nd) && (decide ((nd : Int) < 5) && a.sd (nd : Int).toNat)) = a.sd nd := by
                rw [Int.toNat_natCast]; simp; omega
              have e2 : (decide ((0 : Int) ≤ nd) && (decide ((nd : Int) < 5) && a.ok (nd : Int).toNat)) = a.ok nd := by
                rw [Int.toNat_natCast]; simp; omega
              rw [e1, e2]
              have hm5 := Lib.hid (hm4.out.calm hb5)
              have z1 : w5.cell? ⟨S, nd, none⟩ = some (.bool (a.sd nd)) := World.rowIs.cell hm5.out.sd hnd5
              have z2 : w5.cell? ⟨S + 1, nd, none⟩ = some (.bool (a.ok nd)) := World.rowIs.cell hm5.out.ok hnd5
              clear hb5 e1 e2
              go_wp2
              go_roundw
              case rel => exact ⟨k + 1, a, by omega, by go_num, rfl, rfl, rfl, hfit, hm5⟩
              case measure => simp [intOf]; omega
          · have hyi : need ≤ (cntF a.ok 5 : Int) := by simpa using hy
            go_wp2_with fail
            refine (yes_lit w.heap.size need copies a _ hm2.out.cnt _ hy).mono ?_
            rintro e w3 ⟨rfl, hb3⟩
            have hm3 := Lib.hid (hm2.out.calm hb3)
            clear hb3
            go_wp2_with fail
            refine (no_any w.heap.size need copies a _ hm3.out.cnt k1 k2).mono ?_
            rintro e w4 ⟨rfl, hb4⟩
            rw [hy]
            have hm4 := Lib.hid (hm3.out.calm hb4)
            clear hb4
            go_wp2_with fail
            refine (said_any w.heap.size need copies a (nd : Int) _ hm4.out.cnt hfit.out).mono ?_
            rintro e w5 ⟨rfl, hb5⟩
            have e1 : (decide ((0 : Int) ≤ nd) && (decide ((nd : Int) < 5) && a.sd (nd : Int).toNat)) = a.sd nd := by
              rw [Int.toNat_natCast]; simp; omega
            have e2 : (decide ((0 : Int) ≤ nd) && (decide ((nd : Int) < 5) && a.ok (nd : Int).toNat)) = a.ok nd := by
              rw [Int.toNat_natCast]; simp; omega
            rw [e1, e2]
            have hm5 := Lib.hid (hm4.out.calm hb5)
            have z1 : w5.cell? ⟨S, nd, none⟩ = some (.bool (a.sd nd)) := World.rowIs.cell hm5.out.sd hnd5
            have z2 : w5.cell? ⟨S + 1, nd, none⟩ = some (.bool (a.ok nd)) := World.rowIs.cell hm5.out.ok hnd5
            clear hb5 e1 e2
            go_wp2
            go_roundw
            case rel => exact ⟨k + 1, a, by omega, by go_num, rfl, rfl, rfl, hfit, hm5⟩
            case measure => simp [intOf]; omega
        · have hsy := Ans.say_not a (N k) (Y k) hcnt
          have HCN := Lib.hid hcnt
          have HSY := Lib.hid hsy
          clear hcc hcnt hsy
          have hr' : N k < 0 ∨ 5 ≤ N k := by omega
          clear hr
          rcases hr' with hr | hr
          all_goals
            go_wp2_with fail
            refine (say_any w.heap.size need copies a (N k) (Y k) _ hm.out.cnt hfit.out).mono ?_
            rintro e w2 ⟨rfl, hc2, hg2⟩
            rw [HCN.out]
            rw [HSY.out] at hc2
            have hm2 := Lib.hid (hm.out.said hc2 hg2)
            clear hc2 hg2
            cases hy : decide (need ≤ (cntF a.ok 5 : Int))
            · have hyi : (cntF a.ok 5 : Int) < need := by simpa using hy
              go_wp2_with fail
              refine (yes_lit w.heap.size need copies a _ hm2.out.cnt _ hy).mono ?_
              rintro e w3 ⟨rfl, hb3⟩
              have hm3 := Lib.hid (hm2.out.calm hb3)
              clear hb3
              go_wp2_with fail
              refine (no_any w.heap.size need copies a _ hm3.out.cnt k1 k2).mono ?_
              rintro e w4 ⟨rfl, hb4⟩
              rw [hy]
              have hm4 := Lib.hid (hm3.out.calm hb4)
              clear hb4
              cases hn : decide (copies - (cntF a.no 5 : Int) < need)
              all_goals
                go_wp2_with fail
                refine (said_any w.heap.size need copies a (N k) _ hm4.out.cnt hfit.out).mono ?_
                rintro e w5 ⟨rfl, hb5⟩
                have e1 : (decide ((0 : Int) ≤ N k) && (decide (N k < 5) && a.sd (N k).toNat)) = false := by
                  rw [Bool.and_eq_false_iff, Bool.and_eq_false_iff]; simp; omega
                have e2 : (decide ((0 : Int) ≤ N k) && (decide (N k < 5) && a.ok (N k).toNat)) = false := by
                  rw [Bool.and_eq_false_iff, Bool.and_eq_false_iff]; simp; omega
                rw [e1, e2]
                have hm5 := Lib.hid (hm4.out.calm hb5)
                clear hb5 e1 e2
                go_wp2
                go_roundw
                case rel => exact ⟨k + 1, a, by omega, by go_num, rfl, rfl, rfl, hfit, hm5⟩
                case measure => simp [intOf]; omega
            · have hyi : need ≤ (cntF a.ok 5 : Int) := by simpa using hy
              go_wp2_with fail
              refine (yes_lit w.heap.size need copies a _ hm2.out.cnt _ hy).mono ?_
              rintro e w3 ⟨rfl, hb3⟩
              have hm3 := Lib.hid (hm2.out.calm hb3)
              clear hb3
              go_wp2_with fail
              refine (no_any w.heap.size need copies a _ hm3.out.cnt k1 k2).mono ?_
              rintro e w4 ⟨rfl, hb4⟩
              rw [hy]
              have hm4 := Lib.hid (hm3.out.calm hb4)
              clear hb4
              go_wp2_with fail
              refine (said_any w.heap.size need copies a (N k) _ hm4.out.cnt hfit.out).mono ?_
              rintro e w5 ⟨rfl, hb5⟩
              have e1 : (decide ((0 : Int) ≤ N k) && (decide (N k < 5) && a.sd (N k).toNat)) = false := by
                rw [Bool.and_eq_false_iff, Bool.and_eq_false_iff]; simp; omega
              have e2 : (decide ((0 : Int) ≤ N k) && (decide (N k < 5) && a.ok (N k).toNat)) = false := by
                rw [Bool.and_eq_false_iff, Bool.and_eq_false_iff]; simp; omega
              rw [e1, e2]
              have hm5 := Lib.hid (hm4.out.calm hb5)
              clear hb5 e1 e2
              go_wp2
              go_roundw
              case rel => exact ⟨k + 1, a, by omega, by go_num, rfl, rfl, rfl, hfit, hm5⟩
              case measure => simp [intOf]; omega
      · have hcnt' := hcnt
        unfold Ans.counts at hcnt'
        simp at hcnt'
        obtain ⟨m0, m5, ms⟩ := hcnt'
        obtain ⟨nd, hnd⟩ := Int.eq_ofNat_of_zero_le m0
        rw [hnd] at ms d0
        simp only [Int.toNat_natCast] at ms
        have s0 : wr.cell? ⟨S, nd, none⟩ = some (.bool (a.sd nd)) := World.rowIs.cell hm.out.sd (by omega)
        have s1 : wr.cell? ⟨S + 1, nd, none⟩ = some (.bool (a.ok nd)) := World.rowIs.cell hm.out.ok (by omega)
        have f0 : wr.frozen? ⟨S, nd, none⟩ = false := World.rowIs.frozen hm.out.sd _
        have f1 : wr.frozen? ⟨S + 1, nd, none⟩ = false := World.rowIs.frozen hm.out.ok _
        rw [ms] at s0
        have hnd5 : nd < 5 := by omega
        have HC := Lib.hid hcc
        have HCN := Lib.hid hcnt
        have HND := Lib.hid hnd
        clear hcc hcnt hnd ms m0 m5
        have hbS : b < S := by have := hm.out.at0; have := hm.out.ord; omega
        have d1' : (wr.setCell ⟨S, nd, none⟩ (.bool true)).cell? ⟨b, off + k * 2 + 1, none⟩ = some (.int .i64 (Y k)) := by
          rw [← d1]; exact World.cell?_setCell_other _ _ _ _ (by intro h; injection h with h1 _; omega)
        go_upto_if 60 with fail
        go_cut [10, 11, 12] (fun yv nv fv wx => yv = .int .i64 (cntF c.ok 5) ∧ nv = .int .i64 (cntF c.no 5) ∧ fv = .int .i64 c.why ∧ Hid (Mem w wx w.heap.size S need copies a c))
        case first =>
          go_wp2_with fail
          cases y0 : (Y k == 0)
          · have HY := Ans.yes_no a (N k) (Y k) hfit.out HCN.out (by simpa using y0)
            rw [← HC.out] at HY
            obtain ⟨g1, g2, g3⟩ := HY
            have hcm : c = ⟨updB a.sd nd true, updB a.ok nd false, if a.why = 0 then Y k else a.why⟩ := by
              rw [HC.out]; unfold Ans.say; rw [if_pos HCN.out, if_neg (by simpa using y0), HND.out]; rfl
            have G := Lib.hid (And.intro g1 (And.intro g2 g3))
            have HCM := Lib.hid hcm
            have dS : ((wr.setCell ⟨S, nd, none⟩ (.bool true)).setCell ⟨S + 1, nd, none⟩ (.bool false)).cell? ⟨b, off + k * 2 + 1, none⟩ = some (.int .i64 (Y k)) := by
              rw [← d1']; exact World.cell?_setCell_other _ _ _ _ (by intro h; injection h with h1 _; omega)
            clear g1 g2 g3 hcm
            cases z0 : (a.why == 0)
            · have hz : a.why ≠ 0 := by simpa using z0
              have HZ := Lib.hid hz
              clear hz
              go_wp2_with fail
              go_region
              go_wp2_with fail
              go_meet
              case rel => exact ⟨by rw [G.out.1], by rw [G.out.2.1]; go_num, by rw [G.out.2.2, if_neg HZ.out], Lib.hid (by rw [HCM.out]; exact (hm.out.store nd false _).drew)⟩
            · have hz : a.why = 0 := by simpa using z0
              have HZ := Lib.hid hz
              clear hz
              go_wp2_with fail
              go_region
              go_wp2_with fail
              go_meet
              case rel => exact ⟨by rw [G.out.1], by rw [G.out.2.1]; go_num, by rw [G.out.2.2, if_pos HZ.out], Lib.hid (by rw [HCM.out]; exact (hm.out.store nd false _).drew)⟩
          · have HY := Ans.yes_ok a (N k) (Y k) hfit.out HCN.out (by simpa using y0)
            rw [← HC.out] at HY
            obtain ⟨g1, g2, g3⟩ := HY
            have hcm : c = ⟨updB a.sd nd true, updB a.ok nd true, a.why⟩ := by
              rw [HC.out]; unfold Ans.say; rw [if_pos HCN.out, if_pos (by simpa using y0), HND.out]; rfl
            have G := Lib.hid (And.intro g1 (And.intro g2 g3))
            have HCM := Lib.hid hcm
            clear g1 g2 g3 hcm
            go_wp2_with fail
            go_region
            go_wp2_with fail
            go_meet
            case rel => exact ⟨by rw [G.out.1]; go_num, by rw [G.out.2.1], by rw [G.out.2.2], Lib.hid (by rw [HCM.out]; exact (hm.out.store nd true a.why).drew)⟩
        case rest =>
          obtain ⟨rfl, rfl, rfl, hmc⟩ := hcut
          have hcfit : c.Fit := by rw [HC.out]; exact Ans.say_fit a _ _ hfit.out
          have HCF := Lib.hid hcfit
          have dc1 := (hmc.out.below.cell (p := ⟨b, off + k * 2 + 1, none⟩) hbs).trans ((hm.out.below.cell (p := ⟨b, off + k * 2 + 1, none⟩) hbs).symm.trans d1)
          have HD1 := Lib.hid d0
          clear hcfit s0 s1 f0 f1 d0 d1 d1'
          have yc5 := cntF_le c.ok 5
          have nc5 := cntF_le c.no 5
          go_wp2_with fail
          refine (say_any w.heap.size need copies a nd (Y k) _ hmc.out.cnt hfit.out).mono ?_
          rintro e w2 ⟨rfl, hc2, hg2⟩
          rw [show a.counts (nd : Int) = true from by rw [← HND.out]; exact HCN.out]
          rw [show a.say (nd : Int) (Y k) = c from by rw [← HND.out]; exact HC.out.symm] at hc2
          have hm2 := Lib.hid (hmc.out.said hc2 hg2)
          clear hc2 hg2
          cases hy : decide (need ≤ (cntF c.ok 5 : Int))
          · have hyi : (cntF c.ok 5 : Int) < need := by simpa using hy
            go_wp2_with fail
            refine (yes_lit w.heap.size need copies c _ hm2.out.cnt _ hy).mono ?_
            rintro e w3 ⟨rfl, hb3⟩
            have hm3 := Lib.hid (hm2.out.calm hb3)
            clear hb3
            go_wp2_with fail
            refine (no_any w.heap.size need copies c _ hm3.out.cnt k1 k2).mono ?_
            rintro e w4 ⟨rfl, hb4⟩
            rw [hy]
            have hm4 := Lib.hid (hm3.out.calm hb4)
            clear hb4
            cases hn : decide (copies - (cntF c.no 5 : Int) < need)
            all_goals
              go_wp2_with fail
              refine (said_any w.heap.size need copies c nd _ hm4.out.cnt HCF.out).mono ?_
              rintro e w5 ⟨rfl, hb5⟩
              have e1 : (decide ((0 : Int) ≤ nd) && (decide ((nd : Int) < 5) && c.sd (nd : Int).toNat)) = c.sd nd := by
                rw [Int.toNat_natCast]; simp; omega
              have e2 : (decide ((0 : Int) ≤ nd) && (decide ((nd : Int) < 5) && c.ok (nd : Int).toNat)) = c.ok nd := by
                rw [Int.toNat_natCast]; simp; omega
              rw [e1, e2]
              have hm5 := Lib.hid (hm4.out.calm hb5)
              have z1 : w5.cell? ⟨S, nd, none⟩ = some (.bool (c.sd nd)) := World.rowIs.cell hm5.out.sd hnd5
              have z2 : w5.cell? ⟨S + 1, nd, none⟩ = some (.bool (c.ok nd)) := World.rowIs.cell hm5.out.ok hnd5
              clear hb5 e1 e2
              go_wp2
              go_roundw
              case rel => exact ⟨k + 1, c, by omega, by go_num, rfl, rfl, rfl, HCF, hm5⟩
              case measure => simp [intOf]; omega
          · have hyi : need ≤ (cntF c.ok 5 : Int) := by simpa using hy
            go_wp2_with fail
            refine (yes_lit w.heap.size need copies c _ hm2.out.cnt _ hy).mono ?_
            rintro e w3 ⟨rfl, hb3⟩
            have hm3 := Lib.hid (hm2.out.calm hb3)
            clear hb3
            go_wp2_with fail
            refine (no_any w.heap.size need copies c _ hm3.out.cnt k1 k2).mono ?_
            rintro e w4 ⟨rfl, hb4⟩
            rw [hy]
            have hm4 := Lib.hid (hm3.out.calm hb4)
            clear hb4
            go_wp2_with fail
            refine (said_any w.heap.size need copies c nd _ hm4.out.cnt HCF.out).mono ?_
            rintro e w5 ⟨rfl, hb5⟩
            have e1 : (decide ((0 : Int) ≤ nd) && (decide ((nd : Int) < 5) && c.sd (nd : Int).toNat)) = c.sd nd := by
              rw [Int.toNat_natCast]; simp; omega
            have e2 : (decide ((0 : Int) ≤ nd) && (decide ((nd : Int) < 5) && c.ok (nd : Int).toNat)) = c.ok nd := by
              rw [Int.toNat_natCast]; simp; omega
            rw [e1, e2]
            have hm5 := Lib.hid (hm4.out.calm hb5)
            have z1 : w5.cell? ⟨S, nd, none⟩ = some (.bool (c.sd nd)) := World.rowIs.cell hm5.out.sd hnd5
            have z2 : w5.cell? ⟨S + 1, nd, none⟩ = some (.bool (c.ok nd)) := World.rowIs.cell hm5.out.ok hnd5
            clear hb5 e1 e2
            go_wp2
            go_roundw
            case rel => exact ⟨k + 1, c, by omega, by go_num, rfl, rfl, rfl, HCF, hm5⟩
            case measure => simp [intOf]; omega
    · obtain rfl : k = len := by omega
      have HB := Lib.hid hm.out.below
      go_wp2_with fail
      refine (alive_any _).mono ?_
      rintro e w2 ⟨rfl, rfl⟩
      go_wp2_with fail
      go_ret
      exact ⟨rfl, HB.out⟩

set_option maxRecDepth 100000 in
theorem quorumCounts_any (need copies : Int) (ao : Option Addr) (len cap : Nat) (N Y : Nat → Int) (w : World) (hao : len = 0 ∨ ∃ b off, ao = some ⟨b, off, none⟩ ∧ b < w.heap.size ∧
      ∀ i, i < len → w.cell? ⟨b, off + i * 2, none⟩ = some (.int .i64 (N i)) ∧ w.cell? ⟨b, off + i * 2 + 1, none⟩ = some (.int .i64 (Y i)))
    (hl : len ≤ 9223372036854775807) :
    Calls Try.prog 11 #[.int .i64 need, .int .i64 copies, .slice ao len cap] w fun e w' => e = .returned (.bool true) ∧ Below w.heap.size w w' := by
  cases hin : (decide (50 < (len : Int)) || decide (1099511627776 < copies) || decide (copies < -1099511627776))
  · simp at hin
    exact counts_any need copies ao len cap N Y w hao (by omega) (by omega) (by omega)
  · clear hao
    go_enter Try.func11, Try.ntmps11
    go_wp2
    all_goals
      go_ret
      exact ⟨rfl, Below.refl _ _⟩
end Go.Proofs.Ytigeieahhkoolaa.Quorum
