/- The walks of the sum of two sums: merkle.node, the document's Node (layer 24). -/
import Derived.Test.YtkdgbkhnnehedaaGreatDoorMrkRefPut
set_option linter.unusedSimpArgs false
set_option linter.unusedVariables false
namespace Go.Proofs.YtkdgbkhnnehedaaGreatDoor.Mrk
open Go.RowKit

theorem row_of {w : World} {base : Nat} {v : Value} {l : List Nat} (h : w.ownsRow base 5 1 v l.length (l.flatMap enB)) : BRow w v l := Lst.owned enB_len (by decide) rfl h
theorem putF_ten {n : Nat} (h : n < 18446744073709551616) : (putF n).length ≤ 10 := by rw [putF_len]; exact low_ten h

theorem first_any (w : World) : Calls Tryz.prog 74 #[] w fun e w' => e = .returned (.int .u64 14695981039346656037) ∧ w = w' := by
  go_enter Tryz.func74, Tryz.ntmps74
  go_wp2_with fail
  go_ret
  exact ⟨rfl, rfl⟩

theorem or4 : ∀ x : Nat, x < 4 → ∀ y : Nat, y < 4 → x * 4 ||| y = x * 4 + y := by decide

set_option maxHeartbeats 2000000 in
set_option maxRecDepth 100000 in
theorem node_any (a b : Nat) (w : World) (ha : a < 18446744073709551616) (hb : b < 18446744073709551616) :
    Calls Tryz.prog 73 #[.int .u64 a, .int .u64 b] w fun e w' => e = .returned (.int .u64 (nodeF a b : Nat)) ∧ Below w.heap.size w w' := by
  obtain ⟨i0, hi, hz0, hz1, hz2⟩ := info_parts_B
  have HI := Lib.hid hi
  have HZ0 := Lib.hid hz0
  have HZ1 := Lib.hid hz1
  have HZ2 := Lib.hid hz2
  clear hi hz0 hz1 hz2
  have hnode : nodeF a b = sumF (sumF 14695981039346656037 (putF (a / 4))) (putF (b / 4) ++ [a % 4 * 4 + b % 4]) := rfl
  obtain ⟨qa, hqa⟩ : ∃ q, q = a / 4 := ⟨_, rfl⟩
  obtain ⟨qb, hqb⟩ : ∃ q, q = b / 4 := ⟨_, rfl⟩
  obtain ⟨ra, hra⟩ : ∃ q, q = a % 4 := ⟨_, rfl⟩
  obtain ⟨rb, hrb⟩ : ∃ q, q = b % 4 := ⟨_, rfl⟩
  have a1 : (a : Int) / 4 = (qa : Int) := by omega
  have b1 : (b : Int) / 4 = (qb : Int) := by omega
  have a2 : IntKind.i64.wrap (qa : Int) = (qa : Int) := IntWalk.i64_in _ (by omega)
  have b2 : IntKind.i64.wrap (qb : Int) = (qb : Int) := IntWalk.i64_in _ (by omega)
  have a3 : bits .and .u64 (a : Int) 3 = (ra : Int) := by have := u64_and_nat a 3 ha (by decide); rw [nat_mask2] at this; rw [hra, ← this]; rfl
  have b3 : bits .and .u64 (b : Int) 3 = (rb : Int) := by have := u64_and_nat b 3 hb (by decide); rw [nat_mask2] at this; rw [hrb, ← this]; rfl
  obtain ⟨s, hs⟩ : ∃ s, s = ra * 4 := ⟨_, rfl⟩
  have a4 : IntKind.u64.wrap ((ra : Int) * 4) = (s : Int) := by rw [IntKind.wrap_u64]; omega
  obtain ⟨c, hc⟩ : ∃ c, c = ra * 4 + rb := ⟨_, rfl⟩
  have a5 : bits .or .u64 (s : Int) (rb : Int) = (c : Int) := by rw [u64_or_nat _ _ (by omega) (by omega), hs, or4 _ (by omega) _ (by omega), hc]
  have a6 := u8_nat c (by omega)
  rw [← hqa, ← hqb, ← hra, ← hrb, ← hc] at hnode
  obtain ⟨l1, hl1⟩ : ∃ l, l = putF qa := ⟨_, rfl⟩
  obtain ⟨l2, hl2⟩ : ∃ l, l = putF qb := ⟨_, rfl⟩
  have hp1 := fun w => put_any qa w (by omega)
  have hp2 := fun w => put_any qb w (by omega)
  have k1 : l1.length ≤ 10 := by rw [hl1]; exact putF_ten (by omega)
  have k2 : l2.length ≤ 10 := by rw [hl2]; exact putF_ten (by omega)
  have m1 : ∀ c ∈ l1, c < 256 := by rw [hl1]; exact putF_lt _
  have m2 : ∀ c ∈ l2, c < 256 := by rw [hl2]; exact putF_lt _
  rw [← hl1] at hp1
  rw [← hl2] at hp2
  rw [← hl1, ← hl2] at hnode
  have hc256 : c < 256 := by omega
  have HN := Lib.hid hnode
  have HP1 := Lib.hid hp1
  have HP2 := Lib.hid hp2
  have K1 := Lib.hid k1
  have K2 := Lib.hid k2
  have M1 := Lib.hid m1
  have M2 := Lib.hid m2
  obtain ⟨f, hf⟩ : ∃ f : Nat, f = 14695981039346656037 := ⟨_, rfl⟩
  have hfl : f < 18446744073709551616 := by omega
  rw [← hf] at HN
  obtain ⟨x1, hx1⟩ : ∃ x, x = sumF f l1 := ⟨_, rfl⟩
  have hx1l : x1 < 18446744073709551616 := by rw [hx1]; exact sumF_lt hfl _
  have HX := Lib.hid hx1
  have hsum : ∀ (v : Value) (w : World), BRow w v l1 → Calls Tryz.prog 71 #[.int .u64 14695981039346656037, v] w fun e w' => e = .returned (.int .u64 (x1 : Nat)) ∧ w = w' := by
    intro v w h
    rw [hx1, hf]
    exact sum_any 14695981039346656037 l1 v w (by decide) h m1 (by omega)
  have HSUM := Lib.hid hsum
  clear hnode hp1 hp2 k1 k2 m1 m2 hqa hqb hra hrb hs hc hl1 hl2 hf hx1 hsum
  go_enter Tryz.func73, Tryz.ntmps73
  go_wp2_with fail
  refine (HP1.out _).mono ?_
  rintro e w1 ⟨v1, rfl, hown1, hb1⟩
  have HR1 := Lib.hid (row_of hown1)
  clear hown1
  go_wp2_with fail
  refine (HSUM.out _ _ HR1.out).mono ?_
  rintro e w1' ⟨rfl, rfl⟩
  go_wp2_with fail
  refine (HP2.out _).mono ?_
  rintro e w2 ⟨v2, rfl, hown2, hb2⟩
  have hbl := below_then hb1 (Nat.le_refl _) hb2
  have hs1 := hb1.size
  have hs2 := hb2.size
  obtain ⟨k2, hk2⟩ : ∃ k, k = l2.length := ⟨_, rfl⟩
  rw [← hk2] at hown2
  have hk10 : k2 ≤ 10 := by have := K2.out; omega
  have HK := Lib.hid hk2
  clear hk2
  obtain ⟨ao, cap, rfl⟩ := row_form hown2
  have HO := Lib.hid hown2
  clear hown2
  go_wp2_with (at_builtin; refine wpList_append_own _ rfl _ _ 88 rfl w1.heap.size 5 i0 (.int .u8 0) 1 1 Tryz.underlying88 HI.out HZ0.out HZ1.out HZ2.out rfl (by decide) (.slice ao k2 cap) _ _ rfl (HO.out.alloc _) ⟨_, 0, none⟩ 1 1 (enB c) rfl rfl ?c1 ?c2 ?c3 ?c4 ?c5 ?_)
  case c1 => exact new_cells _ (enB c) _
  case c2 => intro u hu; simp at hu; subst hu; rfl
  case c3 => unfold maxLen; omega
  case c4 => omega
  case c5 => simp; omega
  intro v' w3 hown3 hgrow3 _
  have hbl3 : Below w.heap.size w w3 := (hbl.alloc (by omega) _).grown hgrow3 (by simp; omega) (fun k hk => Nat.le_trans hs1 (World.ownsRow.lt HO.out k hk).1)
  have hrow : BRow w3 v' (l2 ++ [c]) := Lst.owned enB_len (by decide) (n := k2 + 1) (by rw [List.length_append, HK.out]; rfl) (by rw [List.flatMap_append, List.flatMap_singleton]; exact hown3)
  have hall : ∀ d ∈ l2 ++ [c], d < 256 := by
    intro d hd
    rcases List.mem_append.1 hd with h | h
    · exact M2.out d h
    · have := List.mem_singleton.1 h; omega
  have hlen : (l2 ++ [c]).length ≤ 1000000000 := by rw [List.length_append]; have := K2.out; simp; omega
  have hs2 := sum_any x1 (l2 ++ [c]) v' w3 hx1l hrow hall hlen
  have he : sumF x1 (l2 ++ [c]) = nodeF a b := by rw [HN.out, HX.out]
  rw [he] at hs2
  have HS2 := Lib.hid hs2
  obtain ⟨ao', cap', rfl⟩ := row_form hown3
  clear hown3 hgrow3 hs2 he hlen hall hrow
  go_wp2_with fail
  refine HS2.out.mono ?_
  rintro e w4 ⟨rfl, rfl⟩
  go_wp2_with fail
  go_ret
  exact ⟨rfl, hbl3⟩

set_option maxHeartbeats 2000000 in
set_option maxRecDepth 100000 in
theorem refnode_any (a b : Nat) (w : World) (ha : a < 18446744073709551616) (hb : b < 18446744073709551616) :
    Calls Tryz.prog 77 #[.int .u64 a, .int .u64 b] w fun e w' => e = .returned (.int .u64 (nodeF a b : Nat)) ∧ Below w.heap.size w w' := by
  obtain ⟨i0, hi, hz0, hz1, hz2⟩ := info_parts_B
  have HI := Lib.hid hi
  have HZ0 := Lib.hid hz0
  have HZ1 := Lib.hid hz1
  have HZ2 := Lib.hid hz2
  clear hi hz0 hz1 hz2
  have hnode : nodeF a b = sumF (sumF 14695981039346656037 (putF (a / 4))) (putF (b / 4) ++ [a % 4 * 4 + b % 4]) := rfl
  obtain ⟨qa, hqa⟩ : ∃ q, q = a / 4 := ⟨_, rfl⟩
  obtain ⟨qb, hqb⟩ : ∃ q, q = b / 4 := ⟨_, rfl⟩
  obtain ⟨ra, hra⟩ : ∃ q, q = a % 4 := ⟨_, rfl⟩
  obtain ⟨rb, hrb⟩ : ∃ q, q = b % 4 := ⟨_, rfl⟩
  have a1 : (a : Int) / 4 = (qa : Int) := by omega
  have b1 : (b : Int) / 4 = (qb : Int) := by omega
  have a2 : IntKind.i64.wrap (qa : Int) = (qa : Int) := IntWalk.i64_in _ (by omega)
  have b2 : IntKind.i64.wrap (qb : Int) = (qb : Int) := IntWalk.i64_in _ (by omega)
  have a3 : (a : Int) % 4 = (ra : Int) := by omega
  have b3 : (b : Int) % 4 = (rb : Int) := by omega
  obtain ⟨s, hs⟩ : ∃ s, s = ra * 4 := ⟨_, rfl⟩
  have a4 : IntKind.u64.wrap (4 * (ra : Int)) = (s : Int) := by rw [IntKind.wrap_u64]; omega
  obtain ⟨c, hc⟩ : ∃ c, c = ra * 4 + rb := ⟨_, rfl⟩
  have a5 : IntKind.u64.wrap ((s : Int) + (rb : Int)) = (c : Int) := by rw [IntKind.wrap_u64]; omega
  have a6 := u8_nat c (by omega)
  rw [← hqa, ← hqb, ← hra, ← hrb, ← hc] at hnode
  obtain ⟨l1, hl1⟩ : ∃ l, l = putF qa := ⟨_, rfl⟩
  obtain ⟨l2, hl2⟩ : ∃ l, l = putF qb := ⟨_, rfl⟩
  have hp1 := fun w => refput_any qa w (by omega)
  have hp2 := fun w => refput_any qb w (by omega)
  have k1 : l1.length ≤ 10 := by rw [hl1]; exact putF_ten (by omega)
  have k2 : l2.length ≤ 10 := by rw [hl2]; exact putF_ten (by omega)
  have m1 : ∀ c ∈ l1, c < 256 := by rw [hl1]; exact putF_lt _
  have m2 : ∀ c ∈ l2, c < 256 := by rw [hl2]; exact putF_lt _
  rw [← hl1] at hp1
  rw [← hl2] at hp2
  rw [← hl1, ← hl2] at hnode
  have hc256 : c < 256 := by omega
  have HN := Lib.hid hnode
  have HP1 := Lib.hid hp1
  have HP2 := Lib.hid hp2
  have K1 := Lib.hid k1
  have K2 := Lib.hid k2
  have M1 := Lib.hid m1
  have M2 := Lib.hid m2
  obtain ⟨f, hf⟩ : ∃ f : Nat, f = 14695981039346656037 := ⟨_, rfl⟩
  have hfl : f < 18446744073709551616 := by omega
  rw [← hf] at HN
  obtain ⟨x1, hx1⟩ : ∃ x, x = sumF f l1 := ⟨_, rfl⟩
  have hx1l : x1 < 18446744073709551616 := by rw [hx1]; exact sumF_lt hfl _
  have HX := Lib.hid hx1
  have hsum : ∀ (v : Value) (w : World), BRow w v l1 → Calls Tryz.prog 75 #[.int .u64 14695981039346656037, v] w fun e w' => e = .returned (.int .u64 (x1 : Nat)) ∧ w = w' := by
    intro v w h
    rw [hx1, hf]
    exact on_any 14695981039346656037 l1 v w (by decide) h m1 (by omega)
  have HSUM := Lib.hid hsum
  clear hnode hp1 hp2 k1 k2 m1 m2 hqa hqb hra hrb hs hc hl1 hl2 hf hx1 hsum
  go_enter Tryz.func77, Tryz.ntmps77
  go_wp2_with (first | (go_at_call 74; refine (first_any _).mono ?_; rintro e w' ⟨rfl, rfl⟩))
  refine (HP1.out _).mono ?_
  rintro e w1 ⟨v1, rfl, hown1, hb1⟩
  have HR1 := Lib.hid (row_of hown1)
  clear hown1
  go_wp2_with fail
  refine (HSUM.out _ _ HR1.out).mono ?_
  rintro e w1' ⟨rfl, rfl⟩
  go_wp2_with fail
  refine (HP2.out _).mono ?_
  rintro e w2 ⟨v2, rfl, hown2, hb2⟩
  have hbl := below_then hb1 (Nat.le_refl _) hb2
  have hs1 := hb1.size
  have hs2 := hb2.size
  obtain ⟨k2, hk2⟩ : ∃ k, k = l2.length := ⟨_, rfl⟩
  rw [← hk2] at hown2
  have hk10 : k2 ≤ 10 := by have := K2.out; omega
  have HK := Lib.hid hk2
  clear hk2
  obtain ⟨ao, cap, rfl⟩ := row_form hown2
  have HO := Lib.hid hown2
  clear hown2
  go_wp2_with (at_builtin; refine wpList_append_own _ rfl _ _ 88 rfl w1.heap.size 5 i0 (.int .u8 0) 1 1 Tryz.underlying88 HI.out HZ0.out HZ1.out HZ2.out rfl (by decide) (.slice ao k2 cap) _ _ rfl (HO.out.alloc _) ⟨_, 0, none⟩ 1 1 (enB c) rfl rfl ?c1 ?c2 ?c3 ?c4 ?c5 ?_)
  case c1 => exact new_cells _ (enB c) _
  case c2 => intro u hu; simp at hu; subst hu; rfl
  case c3 => unfold maxLen; omega
  case c4 => omega
  case c5 => simp; omega
  intro v' w3 hown3 hgrow3 _
  have hbl3 : Below w.heap.size w w3 := (hbl.alloc (by omega) _).grown hgrow3 (by simp; omega) (fun k hk => Nat.le_trans hs1 (World.ownsRow.lt HO.out k hk).1)
  have hrow : BRow w3 v' (l2 ++ [c]) := Lst.owned enB_len (by decide) (n := k2 + 1) (by rw [List.length_append, HK.out]; rfl) (by rw [List.flatMap_append, List.flatMap_singleton]; exact hown3)
  have hall : ∀ d ∈ l2 ++ [c], d < 256 := by
    intro d hd
    rcases List.mem_append.1 hd with h | h
    · exact M2.out d h
    · have := List.mem_singleton.1 h; omega
  have hlen : (l2 ++ [c]).length ≤ 1000000000 := by rw [List.length_append]; have := K2.out; simp; omega
  have hs2 := on_any x1 (l2 ++ [c]) v' w3 hx1l hrow hall hlen
  have he : sumF x1 (l2 ++ [c]) = nodeF a b := by rw [HN.out, HX.out]
  rw [he] at hs2
  have HS2 := Lib.hid hs2
  obtain ⟨ao', cap', rfl⟩ := row_form hown3
  clear hown3 hgrow3 hs2 he hlen hall hrow
  go_wp2_with fail
  refine HS2.out.mono ?_
  rintro e w4 ⟨rfl, rfl⟩
  go_wp2_with fail
  go_ret
  exact ⟨rfl, hbl3⟩
end Go.Proofs.YtkdgbkhnnehedaaGreatDoor.Mrk
