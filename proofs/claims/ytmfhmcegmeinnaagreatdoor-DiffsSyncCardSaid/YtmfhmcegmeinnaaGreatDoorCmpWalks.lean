/- The walks of cmp.Compare (int, string), cmp.Or, stamp.Compare, and the document's answers for them. -/
import Derived.Test.YtmfhmcegmeinnaaGreatDoorCalmTail
set_option linter.unusedSimpArgs false
set_option linter.unusedVariables false
namespace Go.Proofs.YtmfhmcegmeinnaaGreatDoor.Cmp
open Go.RowKit

def cmpI (a b : Int) : Int := if a < b then -1 else if b < a then 1 else 0
def lessS (a b : ByteArray) : Bool := Op.bytesLess a.toList b.toList
def cmpS (a b : ByteArray) : Int := if lessS a b then -1 else if !lessS a b && !(a.toList == b.toList) then 1 else 0
/-- the first that is not 0 -/
def orL : List Int → Int
  | [] => 0
  | x :: l => if x = 0 then orL l else x
def or2 (a b : Int) : Int := if a = 0 then b else a
theorem cmpI_bd (a b : Int) : -1 ≤ cmpI a b ∧ cmpI a b ≤ 1 := by unfold cmpI; repeat' split; all_goals omega
theorem cmpS_bd (a b : ByteArray) : -1 ≤ cmpS a b ∧ cmpS a b ≤ 1 := by unfold cmpS; repeat' split; all_goals omega

theorem cmpI_any (a b : Int) (w : World) : Calls Tryz.prog 171 #[.int .i64 a, .int .i64 b] w fun e w' => e = .returned (.int .i64 (cmpI a b)) ∧ w = w' := by
  by_cases h : a < b
  · go_enter Tryz.func171, Tryz.ntmps171
    go_wp2
    go_ret
    exact ⟨ret_int (by unfold cmpI; repeat' split; all_goals omega), rfl⟩
  · by_cases h2 : b < a
    · go_enter Tryz.func171, Tryz.ntmps171
      go_wp2
      go_ret
      exact ⟨ret_int (by unfold cmpI; repeat' split; all_goals omega), rfl⟩
    · go_enter Tryz.func171, Tryz.ntmps171
      go_wp2
      go_ret
      exact ⟨ret_int (by unfold cmpI; repeat' split; all_goals omega), rfl⟩

theorem cmpS_any (a b : ByteArray) (w : World) : Calls Tryz.prog 142 #[.string a, .string b] w fun e w' => e = .returned (.int .i64 (cmpS a b)) ∧ w = w' := by
  cases h : Op.bytesLess a.toList b.toList
  · cases h2 : (a.toList == b.toList)
    all_goals
      go_enter Tryz.func142, Tryz.ntmps142
      go_wp2
      go_ret
      exact ⟨ret_int (by unfold cmpS lessS; rw [h, h2]; rfl), rfl⟩
  · go_enter Tryz.func142, Tryz.ntmps142
    go_wp2
    go_ret
    exact ⟨ret_int (by unfold cmpS lessS; rw [h]; rfl), rfl⟩

/-- A slice of ints that is read: cell i is (l[i]). -/
theorem or_any (b off cap : Nat) (l : List Int) (w : World) (hc : ∀ i (h : i < l.length), w.cell? ⟨b, off + i, none⟩ = some (.int .i64 l[i])) (hl : l.length ≤ 1000) :
    Calls Tryz.prog 141 #[.slice (some ⟨b, off, none⟩) l.length cap] w fun e w' => e = .returned (.int .i64 (orL l)) ∧ w = w' := by
  have HC := Lib.hid hc
  clear hc
  go_enter Tryz.func141, Tryz.ntmps141
  go_wp2
  go_loop [8] (fun iv => ∃ k : Nat, k ≤ l.length ∧ iv = .int .i64 k ∧ Hid (orL (l.drop k) = orL l)) (fun iv => l.length - (intOf iv).toNat)
  case atStart => exact ⟨0, by omega, rfl, Lib.hid (by rw [List.drop_zero])⟩
  case round =>
    obtain ⟨k, hk, rfl, hd⟩ := hrel
    by_cases hlt : k < l.length
    · have c0 := HC.out k hlt
      have hdr := List.drop_eq_getElem_cons hlt
      obtain ⟨x, hx⟩ : ∃ x, x = l[k] := ⟨_, rfl⟩
      rw [← hx] at c0 hdr
      have HD := Lib.hid hdr
      clear hdr hx
      cases h0 : (x != 0)
      · go_wp2
        go_round
        case rel => exact ⟨k + 1, by omega, by go_num, Lib.hid (by rw [← hd.out, HD.out]; show _ = if x = 0 then orL (l.drop (k + 1)) else x; rw [if_pos (by simpa using h0)])⟩
        case measure => simp [intOf]; omega
      · go_wp2
        go_ret
        exact ⟨ret_int (by rw [← hd.out, HD.out]; show _ = if x = 0 then orL (l.drop (k + 1)) else x; rw [if_neg (by simpa using h0)]), rfl⟩
    · obtain rfl : k = l.length := by omega
      go_wp2
      go_ret
      exact ⟨ret_int (by rw [← hd.out, List.drop_length]; rfl), rfl⟩

theorem ints_new (w : World) (t : TypeId) (l : List Int) : ∀ i (h : i < l.length), (w.alloc (.cells ⟨l.map (Value.int .i64)⟩ t)).cell? ⟨w.heap.size, 0 + i, none⟩ = some (.int .i64 l[i]) := by
  intro i h
  have := new_cells w (l.map (Value.int .i64)) t i (.int .i64 l[i]) (by simp [h])
  rw [← this, Nat.zero_add]
  unfold Addr.add
  split
  · rename_i h0; rw [h0]
  · simp

def stC (p l h p' l' h' : Int) : Int := orL [cmpI p p', cmpI l l', cmpI h h']
set_option maxHeartbeats 400000 in
theorem stamp_any (p l h p' l' h' : Int) (w : World) :
    Calls Tryz.prog 143 #[.agg #[.int .i64 p, .int .i64 l, .int .i64 h], .agg #[.int .i64 p', .int .i64 l', .int .i64 h']] w fun e w' => e = .returned (.int .i64 (stC p l h p' l' h')) ∧ Below w.heap.size w w' := by
  go_enter Tryz.func143, Tryz.ntmps143
  go_wp2_with fail
  refine wp_region_calm_tail 15 (by kernel_rfl) (by kernel_rfl) ?_
  simp only [List.take_succ_cons, List.take_zero, List.drop_succ_cons, List.drop_zero]
  repeat (go_big_quiet_step (first | (go_at_call 171; exact calm_same (cmpI_any _ _ _))))
  refine wpQuiet_nil ?_
  rintro _ ⟨y, rfl⟩
  go_wp2_with fail
  refine (or_any y.at.heap.size 0 3 [cmpI p p', cmpI l l', cmpI h h'] _ (ints_new _ _ [cmpI p p', cmpI l l', cmpI h h']) (by simp)).mono ?_
  rintro e w2 ⟨rfl, rfl⟩
  go_wp2_with fail
  go_ret
  exact ⟨rfl, (((Below.refl _ _).alloc (Nat.le_refl _) _).alloc (by simp) _).trans (((y.below.alloc y.below.size _)).mono (by simp; omega))⟩

theorem textS_any (a b : ByteArray) (w : World) : Calls Tryz.prog 145 #[.string a, .string b] w fun e w' => e = .returned (.int .i64 (cmpS a b)) ∧ w = w' := by
  cases h : Op.bytesLess a.toList b.toList
  · cases h2 : (a.toList == b.toList)
    all_goals
      go_enter Tryz.func145, Tryz.ntmps145
      go_wp2
      go_ret
      exact ⟨ret_int (by unfold cmpS lessS; rw [h, h2]; rfl), rfl⟩
  · go_enter Tryz.func145, Tryz.ntmps145
    go_wp2
    go_ret
    exact ⟨ret_int (by unfold cmpS lessS; rw [h]; rfl), rfl⟩

/-- Three numbers by their place. -/
def at3 (a b c : Int) (i : Nat) : Int := if i = 0 then a else if i = 1 then b else c
set_option maxHeartbeats 400000 in
theorem refstamp_any (p l h p' l' h' : Int) (w : World) :
    Calls Tryz.prog 57 #[.agg #[.int .i64 p, .int .i64 l, .int .i64 h], .agg #[.int .i64 p', .int .i64 l', .int .i64 h']] w fun e w' => e = .returned (.int .i64 (stC p l h p' l' h')) ∧ Below w.heap.size w w' := by
  have hfin : stC p l h p' l' h' = if p < p' then -1 else if p' < p then 1 else if l < l' then -1 else if l' < l then 1 else if h < h' then -1 else if h' < h then 1 else 0 := by
    unfold stC orL orL orL orL cmpI
    repeat' split
    all_goals first | rfl | omega
  have HF := Lib.hid hfin
  clear hfin
  go_enter Tryz.func57, Tryz.ntmps57
  go_wp2_with fail
  obtain ⟨W0, hW0⟩ : ∃ W0, W0 = (((w.alloc (Obj.cells #[Value.int IntKind.i64 p, Value.int IntKind.i64 l, Value.int IntKind.i64 h] 43)).alloc (Obj.cells #[Value.int IntKind.i64 p', Value.int IntKind.i64 l', Value.int IntKind.i64 h'] 43)).alloc
      (Obj.cells #[Value.int IntKind.i64 p, Value.int IntKind.i64 l, Value.int IntKind.i64 h] 143)).alloc (Obj.cells #[Value.int IntKind.i64 p', Value.int IntKind.i64 l', Value.int IntKind.i64 h'] 143) := ⟨_, rfl⟩
  have hb0 : Below w.heap.size w W0 := by
    rw [hW0]
    exact ((((Below.refl _ _).alloc (Nat.le_refl _) _).alloc (by simp) _).alloc (by simp; omega) _).alloc (by simp; omega) _
  have a0 : W0.cell? ⟨w.heap.size + 1 + 1, 0, none⟩ = some (.int .i64 p) := by rw [hW0]; go_simp
  have a1 : W0.cell? ⟨w.heap.size + 1 + 1, 1, none⟩ = some (.int .i64 l) := by rw [hW0]; go_simp
  have a2 : W0.cell? ⟨w.heap.size + 1 + 1, 2, none⟩ = some (.int .i64 h) := by rw [hW0]; go_simp
  have b0 : W0.cell? ⟨w.heap.size + 1 + 1 + 1, 0, none⟩ = some (.int .i64 p') := by rw [hW0]; go_simp
  have b1 : W0.cell? ⟨w.heap.size + 1 + 1 + 1, 1, none⟩ = some (.int .i64 l') := by rw [hW0]; go_simp
  have b2 : W0.cell? ⟨w.heap.size + 1 + 1 + 1, 2, none⟩ = some (.int .i64 h') := by rw [hW0]; go_simp
  rw [← hW0]
  have HB0 := Lib.hid hb0
  clear hW0 hb0
  go_loopw [7] (fun iv wr => ∃ (k nq : Nat), k ≤ 3 ∧ iv = .int .i64 k ∧ wr = W0.drewN nq ∧ Hid ((1 ≤ k → p = p') ∧ (2 ≤ k → l = l') ∧ (3 ≤ k → h = h'))) (fun iv _ => 3 - (intOf iv).toNat)
  case atStart => exact ⟨0, 0, by omega, rfl, rfl, Lib.hid ⟨by omega, by omega, by omega⟩⟩
  case round =>
    obtain ⟨k, nq0, hk, rfl, rfl, he⟩ := hrel
    have h4 : k = 0 ∨ k = 1 ∨ k = 2 ∨ k = 3 := by omega
    rcases h4 with rfl | rfl | rfl | rfl
    · by_cases c1 : p < p'
      · go_wp2_with fail
        go_quiet (fail)
        go_wp2
        go_ret
        exact ⟨ret_int (by rw [HF.out]; repeat' split; all_goals omega), by repeat (first | exact HB0.out | apply below_drewN)⟩
      · by_cases c2 : p' < p
        · go_wp2_with fail
          go_quiet (fail)
          go_wp2_with fail
          go_quiet (fail)
          go_wp2
          go_ret
          exact ⟨ret_int (by rw [HF.out]; repeat' split; all_goals omega), by repeat (first | exact HB0.out | apply below_drewN)⟩
        · go_wp2_with fail
          go_quiet (fail)
          go_wp2_with fail
          go_quiet (fail)
          go_wp2
          go_roundw
          case rel => exact ⟨1, _, by omega, rfl, rfl, Lib.hid ⟨by omega, by omega, by omega⟩⟩
          case measure => simp [intOf]
    · by_cases c1 : l < l'
      · go_wp2_with fail
        go_quiet (fail)
        go_wp2
        go_ret
        exact ⟨ret_int (by have := he.out; rw [HF.out]; repeat' split; all_goals omega), by repeat (first | exact HB0.out | apply below_drewN)⟩
      · by_cases c2 : l' < l
        · go_wp2_with fail
          go_quiet (fail)
          go_wp2_with fail
          go_quiet (fail)
          go_wp2
          go_ret
          exact ⟨ret_int (by have := he.out; rw [HF.out]; repeat' split; all_goals omega), by repeat (first | exact HB0.out | apply below_drewN)⟩
        · go_wp2_with fail
          go_quiet (fail)
          go_wp2_with fail
          go_quiet (fail)
          go_wp2
          go_roundw
          case rel => exact ⟨2, _, by omega, rfl, rfl, Lib.hid ⟨by have := he.out; omega, by omega, by omega⟩⟩
          case measure => simp [intOf]
    · by_cases c1 : h < h'
      · go_wp2_with fail
        go_quiet (fail)
        go_wp2
        go_ret
        exact ⟨ret_int (by have := he.out; rw [HF.out]; repeat' split; all_goals omega), by repeat (first | exact HB0.out | apply below_drewN)⟩
      · by_cases c2 : h' < h
        · go_wp2_with fail
          go_quiet (fail)
          go_wp2_with fail
          go_quiet (fail)
          go_wp2
          go_ret
          exact ⟨ret_int (by have := he.out; rw [HF.out]; repeat' split; all_goals omega), by repeat (first | exact HB0.out | apply below_drewN)⟩
        · go_wp2_with fail
          go_quiet (fail)
          go_wp2_with fail
          go_quiet (fail)
          go_wp2
          go_roundw
          case rel => exact ⟨3, _, by omega, rfl, rfl, Lib.hid ⟨by have := he.out; omega, by have := he.out; omega, by omega⟩⟩
          case measure => simp [intOf]
    · go_wp2_with fail
      go_ret
      exact ⟨ret_int (by have := he.out; rw [HF.out]; repeat' split; all_goals omega), by repeat (first | exact HB0.out | apply below_drewN)⟩
end Go.Proofs.YtmfhmcegmeinnaaGreatDoor.Cmp
