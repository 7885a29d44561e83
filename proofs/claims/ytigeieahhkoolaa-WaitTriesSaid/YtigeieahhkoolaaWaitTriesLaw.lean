/- The walk of the law WaitTries (layer 48). -/
import Derived.Test.YtigeieahhkoolaaWaitTries
namespace Go.Proofs.Ytigeieahhkoolaa.Wait
open Go.RowKit

theorem pr_fst (f m s a : Int) (n k : Nat) (h : k < n) : ((pr f m s a n).map fun x => (x.1 : Int))[k]? = some (k : Int) := by
  unfold pr; simp [h]
theorem pr_snd (f m s a : Int) (n k : Nat) (h : k < n) : ((pr f m s a n).map fun x => x.2)[k]? = some (atF f m s a k) := by
  unfold pr; simp [h]

theorem int_at {w : World} {ao : Option Addr} {n cap : Nat} {l : List Int} {k : Nat} {x : Int} (h : Lst 1 enI w (.slice ao n cap) l) (hk : l[k]? = some x) :
    ∃ b off, ao = some ⟨b, off, none⟩ ∧ b < w.heap.size ∧ w.cell? ⟨b, off + k, none⟩ = some (.int .i64 x) := by
  obtain ⟨hlt, he⟩ := List.getElem?_eq_some_iff.1 hk
  obtain ⟨b, off, ha, hb, hc⟩ := Lst.get h hlt
  have := hc 0 (by decide)
  rw [he, Nat.mul_one] at this
  exact ⟨b, off, ha, hb, this⟩

set_option maxRecDepth 100000 in
set_option maxHeartbeats 4000000 in
theorem waitTries_any (f m s a b : Int) (w : World) (_s0 : 0 ≤ s) (_s1 : s ≤ 4294967295) :
    Calls Try.prog 9 #[.agg #[.int .i64 f, .int .i64 m, .int .u32 s], .int .i64 a, .int .i64 b] w fun e w' => e = .returned (.bool true) ∧ Below w.heap.size w w' := by
  obtain ⟨T, hT⟩ := exists_T f m s a b
  have hTb := (hT.bd (Nat.le_refl _)).2.2
  obtain ⟨N, hN⟩ : ∃ N, N = min T 100 := ⟨_, rfl⟩
  have hN1 : N ≤ T := by omega
  have hN2 : N ≤ 100 := by omega
  have HN := Lib.hid hN
  clear hN
  go_enter Try.func9, Try.ntmps9
  go_wp2_with fail
  refine (first_any f m s a b _s0 _s1 T hT _).mono ?_
  rintro e w1 ⟨v1, v2, rfl, l1, l2, hb1⟩
  rw [← HN.out] at l1 l2
  obtain ⟨o1, p1, rfl, -, -⟩ := Lst.form l1
  obtain ⟨o2, p2, rfl, -, -⟩ := Lst.form l2
  simp only [List.length_map, pr_len]
  simp only [List.length_map, pr_len] at l1 l2
  have L1 := Lib.hid (And.intro l1 l2)
  have hs1 := hb1.size
  simp at hs1
  have x0 := (hb1.cell (p := ⟨w.heap.size, 0, none⟩) (by simp)).trans (new_cells w [.int .i64 f, .int .i64 m, .int .u32 s] 46 0 _ rfl)
  have x1 := (hb1.cell (p := ⟨w.heap.size, 1, none⟩) (by simp)).trans (new_cells w [.int .i64 f, .int .i64 m, .int .u32 s] 46 1 _ rfl)
  have x2 := (hb1.cell (p := ⟨w.heap.size, 2, none⟩) (by simp)).trans (new_cells w [.int .i64 f, .int .i64 m, .int .u32 s] 46 2 _ rfl)
  have HB1 := Lib.hid (below_then ((Below.refl _ _).alloc (Nat.le_refl _) _) (Nat.le_refl _) hb1)
  clear l1 l2 hb1
  go_wp2_with fail
  refine (cut_any _ _ _ _).mono ?_
  rintro e w' ⟨rfl, rfl⟩
  go_wp2_with fail
  refine (cut_any _ _ _ _).mono ?_
  rintro e w' ⟨rfl, rfl⟩
  go_wp2_with fail
  have hb0 := below_drewN (Below.refl w1.heap.size w1)
  go_loopw [9, 11] (fun av nv wr => ∃ k : Nat, k ≤ N ∧ nv = .int .i64 k ∧ av = .int .i64 (atF f m s a k) ∧ Below w1.heap.size w1 wr) (fun _ nv _ => N - (intOf nv).toNat)
  case atStart => exact ⟨0, by omega, rfl, rfl, by first | exact Below.refl _ _ | exact hb0 _⟩
  case round =>
    obtain ⟨k, hk, rfl, rfl, hbl⟩ := hrel
    have hsz := hbl.size
    have y0 := (hbl.cell (p := ⟨w.heap.size, 0, none⟩) (by simp; omega)).trans x0
    have y1 := (hbl.cell (p := ⟨w.heap.size, 1, none⟩) (by simp; omega)).trans x1
    have y2 := (hbl.cell (p := ⟨w.heap.size, 2, none⟩) (by simp; omega)).trans x2
    have HBr := Lib.hid (below_then HB1.out (by omega) hbl)
    obtain ⟨hbd1, hbd2, hbd3⟩ := hT.bd (Nat.le_trans hk hN1)
    by_cases hlt : k < N
    · have htk : atF f m s a k < min (max b 0) 1099511627776 := hT.1 k (by omega)
      have HST := Lib.hid (show atF f m s a (k + 1) = atF f m s a k + ofF f m s k from rfl)
      obtain ⟨ab, aoff, rfl, hab, ca⟩ := int_at (Lst.below L1.out.1 hbl) (pr_fst f m s a N k hlt)
      obtain ⟨bb, boff, rfl, hbb, cb⟩ := int_at (Lst.below L1.out.2 hbl) (pr_snd f m s a N k hlt)
      obtain ⟨of1, of2, -⟩ := ofF_bd f m s k
      have of3 := (boundF_bd f m k).2
      have hk100 : (k : Int) < 100 := by omega
      obtain ⟨at0, hat⟩ : ∃ x, x = atF f m s a k := ⟨_, rfl⟩
      rw [← hat] at hbd1 hbd2 htk cb HST ⊢
      clear hat x0 x1 x2
      go_wp2_with fail
      refine (lawof_any f m s _ _ (by omega) (by omega)).mono ?_
      rintro e w4 ⟨rfl, hb4⟩
      go_wp2_with fail
      go_roundw
      case rel => exact ⟨k + 1, by omega, by go_num, by rw [HST.out], below_then hbl (Nat.le_refl _) hb4⟩
      case measure => simp [intOf]; omega
    · obtain rfl : k = N := by omega
      have hend : k < 100 → min (max b 0) 1099511627776 ≤ atF f m s a k := fun h => by have := HN.out; have e : k = T := (by omega); rw [e]; exact hT.2
      generalize atF f m s a k = at0 at *
      have hall : min (T : Int) (max 100 0) = (k : Int) := by have := HN.out; omega
      have hneg : min (T : Int) (max (-3) 0) = 0 := by omega
      have hhalf : min (T : Int) (max ((k : Int) / 2) 0) = (k : Int) / 2 := by omega
      have HALL := Lib.hid hall
      have HNEG := Lib.hid hneg
      have HHALF := Lib.hid hhalf
      clear hall hneg hhalf x0 x1 x2
      by_cases h100 : k < 100
      all_goals
        first | (have he := hend h100) | (have he : (100 : Int) ≤ k := by omega)
        clear hend
        go_wp2_with fail
        refine (tries_any f m s a b _ _s0 _s1 (by omega) (by omega) T hT _).mono ?_
        rintro e w2 ⟨rfl, hb2⟩
        rw [HALL.out]
        have z0 := (hb2.cell (p := ⟨w.heap.size, 0, none⟩) (by simp; omega)).trans y0
        have z1 := (hb2.cell (p := ⟨w.heap.size, 1, none⟩) (by simp; omega)).trans y1
        have z2 := (hb2.cell (p := ⟨w.heap.size, 2, none⟩) (by simp; omega)).trans y2
        have HB2 := Lib.hid (below_then HBr.out (by omega) hb2)
        have hs2 := hb2.size
        clear y0 y1 y2 hb2
        go_wp2_with fail
        refine (tries_any f m s a b _ _s0 _s1 (by omega) (by omega) T hT _).mono ?_
        rintro e w3 ⟨rfl, hb3⟩
        rw [HNEG.out]
        have y0 := (hb3.cell (p := ⟨w.heap.size, 0, none⟩) (by simp; omega)).trans z0
        have y1 := (hb3.cell (p := ⟨w.heap.size, 1, none⟩) (by simp; omega)).trans z1
        have y2 := (hb3.cell (p := ⟨w.heap.size, 2, none⟩) (by simp; omega)).trans z2
        have HB3 := Lib.hid (below_then HB2.out (by omega) hb3)
        clear z0 z1 z2 hb3
        go_wp2_with fail
        refine (tries_any f m s a b _ _s0 _s1 (by omega) (by omega) T hT _).mono ?_
        rintro e w4 ⟨rfl, hb4⟩
        rw [HHALF.out]
        have HB4 := Lib.hid (below_then HB3.out (by omega) hb4)
        clear hb4
        go_wp2_with fail
        refine (alive_any _).mono ?_
        rintro e w5 ⟨rfl, hb5⟩
        have HB5 := Lib.hid (below_then HB4.out (by omega) hb5)
        clear hb5
        go_wp2_with fail
        go_ret
        exact ⟨rfl, HB5.out⟩
end Go.Proofs.Ytigeieahhkoolaa.Wait
