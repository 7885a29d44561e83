/- The walks of the comparisons (layers 4, 7): cmp.Compare, cmp.Or, stamp.Compare, slices.CompareFunc at stamps, mut.Compare. -/
import Derived.Test.YtgcfhlleaekgfaaGreatDoorMuts
import Derived.Test.YtgcfhlleaekgfaaGreatDoorLays
import Derived.Test.YtgcfhlleaekgfaaGreatDoorLst
namespace Go.Proofs.YtgcfhlleaekgfaaGreatDoor.Mut
open Go.RowKit Go.Sort Go.Proofs.YtgcfhlleaekgfaaGreatDoor.Ord

abbrev enS (s : Stp) : List Value := [.int .i64 s.p, .int .i64 s.l, .int .i64 s.w]
theorem enS_len (s : Stp) : (enS s).length = 3 := rfl
abbrev vS (s : Stp) : Value := .agg #[.int .i64 s.p, .int .i64 s.l, .int .i64 s.w]
abbrev SRow (w : World) (v : Value) (l : List Stp) : Prop := Lst 3 enS w v l
theorem stamp_at {w : World} {ao : Option Addr} {n cap : Nat} {l : List Stp} {k : Nat} {x : Stp} (h : SRow w (.slice ao n cap) l) (hk : l[k]? = some x) :
    ∃ b off, ao = some ⟨b, off, none⟩ ∧ b < w.heap.size ∧ w.cell? ⟨b, off + k * 3, none⟩ = some (.int .i64 x.p) ∧ w.cell? ⟨b, off + k * 3 + 1, none⟩ = some (.int .i64 x.l) ∧ w.cell? ⟨b, off + k * 3 + 2, none⟩ = some (.int .i64 x.w) := by
  obtain ⟨hlt, he⟩ := List.getElem?_eq_some_iff.1 hk
  obtain ⟨b, off, ha, hb, hc⟩ := Lst.get h hlt
  rw [he] at hc
  exact ⟨b, off, ha, hb, hc 0 (by decide), hc 1 (by decide), hc 2 (by decide)⟩

theorem cmpI_any (a b : Int) (w : World) : Calls Tryz.prog 111 #[.int .i64 a, .int .i64 b] w fun e w' => e = .returned (.int .i64 (cmpI a b)) ∧ w = w' := by
  by_cases h : a < b
  · go_enter Tryz.func111, Tryz.ntmps111
    go_wp2
    go_ret
    exact ⟨ret_int (by unfold cmpI; repeat' split; all_goals omega), rfl⟩
  · by_cases h2 : b < a
    · go_enter Tryz.func111, Tryz.ntmps111
      go_wp2
      go_ret
      exact ⟨ret_int (by unfold cmpI; repeat' split; all_goals omega), rfl⟩
    · go_enter Tryz.func111, Tryz.ntmps111
      go_wp2
      go_ret
      exact ⟨ret_int (by unfold cmpI; repeat' split; all_goals omega), rfl⟩

theorem cmpT_any (a b : Int) (w : World) : Calls Tryz.prog 108 #[.int .i64 a, .int .i64 b] w fun e w' => e = .returned (.int .i64 (cmpI a b)) ∧ w = w' := by
  by_cases h : a < b
  · go_enter Tryz.func108, Tryz.ntmps108
    go_wp2
    go_ret
    exact ⟨ret_int (by unfold cmpI; repeat' split; all_goals omega), rfl⟩
  · by_cases h2 : b < a
    · go_enter Tryz.func108, Tryz.ntmps108
      go_wp2
      go_ret
      exact ⟨ret_int (by unfold cmpI; repeat' split; all_goals omega), rfl⟩
    · go_enter Tryz.func108, Tryz.ntmps108
      go_wp2
      go_ret
      exact ⟨ret_int (by unfold cmpI; repeat' split; all_goals omega), rfl⟩

theorem cmpK_any (a b : Int) (w : World) : Calls Tryz.prog 109 #[.int .i64 a, .int .i64 b] w fun e w' => e = .returned (.int .i64 (cmpI a b)) ∧ w = w' := by
  by_cases h : a < b
  · go_enter Tryz.func109, Tryz.ntmps109
    go_wp2
    go_ret
    exact ⟨ret_int (by unfold cmpI; repeat' split; all_goals omega), rfl⟩
  · by_cases h2 : b < a
    · go_enter Tryz.func109, Tryz.ntmps109
      go_wp2
      go_ret
      exact ⟨ret_int (by unfold cmpI; repeat' split; all_goals omega), rfl⟩
    · go_enter Tryz.func109, Tryz.ntmps109
      go_wp2
      go_ret
      exact ⟨ret_int (by unfold cmpI; repeat' split; all_goals omega), rfl⟩

theorem cmpS_any (a b : ByteArray) (w : World) : Calls Tryz.prog 110 #[.string a, .string b] w fun e w' => e = .returned (.int .i64 (cmpS a b)) ∧ w = w' := by
  cases h : Op.bytesLess a.toList b.toList
  · cases h2 : (a.toList == b.toList)
    all_goals
      go_enter Tryz.func110, Tryz.ntmps110
      go_wp2
      go_ret
      exact ⟨ret_int (by unfold cmpS lessS; rw [h, h2]; rfl), rfl⟩
  · go_enter Tryz.func110, Tryz.ntmps110
    go_wp2
    go_ret
    exact ⟨ret_int (by unfold cmpS lessS; rw [h]; rfl), rfl⟩

/-- A slice of ints that is read: cell i is (l[i]). -/
theorem or_any (b off cap : Nat) (l : List Int) (w : World) (hc : ∀ i (h : i < l.length), w.cell? ⟨b, off + i, none⟩ = some (.int .i64 l[i])) (hl : l.length ≤ 1000) :
    Calls Tryz.prog 107 #[.slice (some ⟨b, off, none⟩) l.length cap] w fun e w' => e = .returned (.int .i64 (orL l)) ∧ w = w' := by
  have HC := Lib.hid hc
  clear hc
  go_enter Tryz.func107, Tryz.ntmps107
  go_wp2
  go_loop [8] (fun iv => ∃ k : Nat, k ≤ l.length ∧ iv = .int .i64 k ∧ Hid (orL (l.drop k) = orL l)) (fun iv => l.length - (intOf iv).toNat)
  case atStart => exact ⟨0, by omega, rfl, Lib.hid (by rw [List.drop_zero])⟩
  case round =>
    obtain ⟨k, hk, rfl, hd⟩ := hrel
    by_cases hlt : k < l.length
    · have c0 := HC.out k hlt
      have hdr := List.drop_eq_getElem_cons hlt
      obtain ⟨x, hx⟩ : ∃ x, x = l[k] := ⟨_, rfl⟩
      rw [← hx] at c0 hdr
      have HD := Lib.hid hdr
      clear hdr hx
      cases h0 : (x != 0)
      · go_wp2
        go_round
        case rel => exact ⟨k + 1, by omega, by go_num, Lib.hid (by rw [← hd.out, HD.out]; show _ = if x = 0 then orL (l.drop (k + 1)) else x; rw [if_pos (by simpa using h0)])⟩
        case measure => simp [intOf]; omega
      · go_wp2
        go_ret
        exact ⟨ret_int (by rw [← hd.out, HD.out]; show _ = if x = 0 then orL (l.drop (k + 1)) else x; rw [if_neg (by simpa using h0)]), rfl⟩
    · obtain rfl : k = l.length := by omega
      go_wp2
      go_ret
      exact ⟨ret_int (by rw [← hd.out, List.drop_length]; rfl), rfl⟩

theorem ints_new (w : World) (t : TypeId) (l : List Int) : ∀ i (h : i < l.length), (w.alloc (.cells ⟨l.map (Value.int .i64)⟩ t)).cell? ⟨w.heap.size, 0 + i, none⟩ = some (.int .i64 l[i]) := by
  intro i h
  have := new_cells w (l.map (Value.int .i64)) t i (.int .i64 l[i]) (by simp [h])
  rw [← this, Nat.zero_add]
  unfold Addr.add
  split
  · rename_i h0; rw [h0]
  · simp

set_option maxHeartbeats 400000 in
theorem stamp_any (a b : Stp) (w : World) : Calls Tryz.prog 99 #[vS a, vS b] w fun e w' => e = .returned (.int .i64 (stC a b)) ∧ Lays w w' := by
  obtain ⟨p, l, h⟩ := a
  obtain ⟨p', l', h'⟩ := b
  go_enter Tryz.func99, Tryz.ntmps99
  go_wp2_with fail
  refine wp_region_lays_tail 15 (by kernel_rfl) (by kernel_rfl) ?_
  simp only [List.take_succ_cons, List.take_zero, List.drop_succ_cons, List.drop_zero]
  repeat (go_big_quiet_step (first | (go_at_call 111; exact laid_same (cmpI_any _ _ _))))
  refine wpQuiet_nil ?_
  rintro _ ⟨y, rfl⟩
  go_wp2_with fail
  refine (or_any y.at.heap.size 0 3 [cmpI p p', cmpI l l', cmpI h h'] _ (ints_new _ _ [cmpI p p', cmpI l l', cmpI h h']) (by simp)).mono ?_
  rintro e w2 ⟨rfl, rfl⟩
  go_wp2_with fail
  go_ret
  exact ⟨rfl, (((Lays.refl _).alloc _).alloc _).trans (y.lays.alloc _)⟩

theorem stless_any (a b : Stp) (w : World) : Calls Tryz.prog 54 #[vS a, vS b] w fun e w' => e = .returned (.bool (decide (stC a b < 0))) ∧ Lays w w' := by
  have H := Lib.hid (fun w => stamp_any a b w)
  obtain ⟨c, hc⟩ : ∃ c, c = stC a b := ⟨_, rfl⟩
  rw [← hc] at H ⊢
  obtain ⟨p, l, h⟩ := a
  obtain ⟨p', l', h'⟩ := b
  clear hc
  go_enter Tryz.func54, Tryz.ntmps54
  go_wp2_with fail
  refine (H.out _).mono ?_
  rintro e w1 ⟨rfl, hb⟩
  go_wp2_with fail
  go_ret
  exact ⟨rfl, (((Lays.refl _).alloc _).alloc _).trans hb⟩
end Go.Proofs.YtgcfhlleaekgfaaGreatDoor.Mut
