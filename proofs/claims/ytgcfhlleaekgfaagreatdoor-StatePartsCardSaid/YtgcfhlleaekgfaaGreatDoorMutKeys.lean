/- The walks of runes.bad, Val, Key (layer 1). -/
import Derived.Test.YtgcfhlleaekgfaaGreatDoorMutDec
import Derived.Laws.Closers25
namespace Go.Proofs.YtgcfhlleaekgfaaGreatDoor.Mut
open Go.RowKit Go.Sort Go.Proofs.YtgcfhlleaekgfaaGreatDoor.Ord

/-- Is a rune that was told at a place one of a byte that begins none? -/
def badF (s : ByteArray) (i : Nat) (r : Int) : Bool := decide (r = 65533) && decide (((Lib.decodeGo (s.extract i s.size)).2 : Int) < 2)
def valFrom (s : ByteArray) : Nat → Nat → Bool
  | 0, _ => true
  | f + 1, pos => if pos < s.size then (if badF s pos (Utf8.decode s pos).1 then false else valFrom s f (pos + (Utf8.decode s pos).2)) else true
def valF (s : ByteArray) : Bool := decide (s.size ≤ 64) && valFrom s s.size 0
def keyFrom (s : ByteArray) : Nat → Nat → Bool
  | 0, _ => true
  | f + 1, pos => if pos < s.size then (if badF s pos (Utf8.decode s pos).1 || !partF (Utf8.decode s pos).1 (decide ((pos : Int) = 0)) then false else keyFrom s f (pos + (Utf8.decode s pos).2)) else true
def keyF (s : ByteArray) : Bool := decide (0 < s.size) && decide (s.size ≤ 24) && keyFrom s s.size 0

set_option maxHeartbeats 2000000 in
set_option maxRecDepth 100000 in
theorem bad_any (s : ByteArray) (i : Nat) (r : Int) (w : World) (hT : Tabs w) (hi : i ≤ s.size) (hs : s.size ≤ 1000000) : Calls Tryz.prog 119 #[.string s, .int .i64 i, .int .i32 r] w fun e w' => e = .returned (.bool (badF s i r)) ∧ RowKit.Below w.heap.size w w' := by
  have hd := decode_any (s.extract i s.size) w hT
  unfold badF
  obtain ⟨a, ha⟩ : ∃ a, a = (Lib.decodeGo (s.extract i s.size)).1 := ⟨_, rfl⟩
  obtain ⟨b, hb⟩ : ∃ b, b = (Lib.decodeGo (s.extract i s.size)).2 := ⟨_, rfl⟩
  rw [← ha, ← hb] at hd
  rw [← hb]
  obtain ⟨t, ht⟩ : ∃ t, t = s.extract i s.size := ⟨_, rfl⟩
  rw [← ht] at hd
  have HT := Lib.hid ht
  have HD := Lib.hid hd
  clear ha hb hd ht hT
  by_cases h : r = 65533
  · subst h
    go_enter Tryz.func119, Tryz.ntmps119
    go_wp2_with fail
    rw [← HT.out]
    refine HD.out.mono ?_
    rintro e w1 ⟨rfl, hb⟩
    go_wp2_with fail
    go_ret
    exact ⟨ret_bool (by simp), hb⟩
  · go_enter Tryz.func119, Tryz.ntmps119
    go_wp2_with fail
    go_ret
    exact ⟨ret_bool (by simp [h]), Below.refl _ _⟩

theorem valFrom_step (s : ByteArray) (f : Nat) {pos : Nat} (h : pos < s.size) : valFrom s (f + 1) pos = (if badF s pos (Utf8.decode s pos).1 then false else valFrom s f (pos + (Utf8.decode s pos).2)) := by simp [valFrom, h]
theorem valFrom_end (s : ByteArray) (f : Nat) {pos : Nat} (h : ¬ pos < s.size) : valFrom s f pos = true := by
  cases f with
  | zero => rfl
  | succ f => simp [valFrom, h]
theorem keyFrom_step (s : ByteArray) (f : Nat) {pos : Nat} (h : pos < s.size) : keyFrom s (f + 1) pos = (if badF s pos (Utf8.decode s pos).1 || !partF (Utf8.decode s pos).1 (decide ((pos : Int) = 0)) then false else keyFrom s f (pos + (Utf8.decode s pos).2)) := by simp [keyFrom, h]
theorem keyFrom_end (s : ByteArray) (f : Nat) {pos : Nat} (h : ¬ pos < s.size) : keyFrom s f pos = true := by
  cases f with
  | zero => rfl
  | succ f => simp [keyFrom, h]

set_option maxHeartbeats 8000000 in
set_option maxRecDepth 100000 in
theorem val_any (s : ByteArray) (w : World) (hT : Tabs w) (hs : s.size ≤ 1000000) : Calls Tryz.prog 86 #[.string s] w fun e w' => e = .returned (.bool (valF s)) ∧ RowKit.Below w.heap.size w w' := by
  have HT := Lib.hid hT
  clear hT
  by_cases h64 : 64 < s.size
  · have hv : valF s = false := by unfold valF; rw [decide_eq_false (by omega)]; rfl
    rw [hv]
    clear hv
    go_enter Tryz.func86, Tryz.ntmps86
    go_wp2_with fail
    go_ret
    exact ⟨rfl, Below.refl _ _⟩
  have hv : valF s = valFrom s s.size 0 := by unfold valF; rw [decide_eq_true (by omega)]; rfl
  rw [hv]
  have HV := Lib.hid hv
  clear hv
  go_enter Tryz.func86, Tryz.ntmps86
  go_wp2_with fail
  go_loopw [] (fun wr => ∃ (pos fuel : Nat), wr.heap[w.heap.size]? = some (.stringIter s pos) ∧ Hid (Below w.heap.size w wr) ∧
    Hid (valFrom s fuel pos = valFrom s s.size 0) ∧ s.size ≤ pos + fuel) (fun wr => s.size - wr.iterPos w.heap.size)
  case atStart => exact ⟨0, s.size, World.iter_heap w s 0, Lib.hid ((Below.refl _ _).alloc (Nat.le_refl _) _), Lib.hid rfl, by omega⟩
  case round =>
    obtain ⟨pos, fuel, hit, hB, hL, hf⟩ := hrel
    have hpos0 := iter_pos hit
    by_cases hp : pos < s.size
    · have hnx : ∀ ty, (Instr.next (.pointer (some ⟨w.heap.size, 0, none⟩)) true ty).run Tryz.prog wr = _ := fun ty => Lib.run_next_any_at wr w.heap.size s pos ty hit hp
      have hwd := width_pos s pos hp
      obtain ⟨fuel, rfl⟩ : ∃ f', fuel = f' + 1 := ⟨fuel - 1, by omega⟩
      have hst := valFrom_step s fuel hp
      obtain ⟨W1, hW1⟩ : ∃ W1, W1 = wr.iterAt w.heap.size s (pos + (Utf8.decode s pos).2) := ⟨_, rfl⟩
      have hit2 : W1.heap[w.heap.size]? = some (.stringIter s (pos + (Utf8.decode s pos).2)) := by rw [hW1]; exact Lib.iterAt_heap wr w.heap.size s pos _ hit
      have hB1 : Below w.heap.size w W1 := by rw [hW1]; exact Lib.below_iterAt hB.out (Nat.le_refl _) s _
      rw [← hW1] at hnx
      rw [hst] at hL
      have hlt2 : pos < pos + (Utf8.decode s pos).2 := by omega
      generalize (Utf8.decode s pos).1 = r at *
      generalize pos + (Utf8.decode s pos).2 = pos2 at *
      have HI2 := Lib.hid hit2
      have HB1 := Lib.hid hB1
      have HP0 := Lib.hid hpos0
      have HL := Lib.hid hL.out
      have BC := Lib.hid (bad_any s pos r W1 (HT.out.below hB1) (by omega) hs)
      cases hb : badF s pos r
      · rw [hb] at BC
        have HL2 := Lib.hid (show valFrom s fuel pos2 = valFrom s s.size 0 by
          have h := HL.out
          rw [hb] at h
          simpa using h)
        clear hW1 hit hB hL hit2 hB1 hst hwd hpos0 hb
        go_wp2_with fail
        refine BC.out.mono ?_
        rintro en w2 ⟨rfl, hb2⟩
        have HI3 := Lib.hid (show w2.heap[w.heap.size]? = some (.stringIter s pos2) from by
          rw [← HI2.out]; exact hb2.block _ (Array.getElem?_eq_some_iff.1 HI2.out).1)
        have HB3 := Lib.hid (below_then HB1.out (Nat.le_refl _) hb2)
        clear hb2
        go_wp2_with fail
        go_roundw
        case rel => exact ⟨pos2, fuel, HI3.out, HB3, HL2, by omega⟩
        case measure => rw [iter_pos HI3.out, HP0.out]; omega
      · rw [hb] at BC
        have HL2 := Lib.hid (show false = valFrom s s.size 0 by
          have h := HL.out
          rw [hb] at h
          simpa using h)
        clear hW1 hit hB hL hit2 hB1 hst hwd hpos0 hb
        go_wp2_with fail
        refine BC.out.mono ?_
        rintro en w2 ⟨rfl, hb2⟩
        have HB3 := Lib.hid (below_then HB1.out (Nat.le_refl _) hb2)
        clear hb2
        go_wp2_with fail
        go_ret
        exact ⟨by rw [← HL2.out]; rfl, HB3.out⟩
    · have hnx : ∀ ty, (Instr.next (.pointer (some ⟨w.heap.size, 0, none⟩)) true ty).run Tryz.prog wr = _ := fun ty => Lib.run_next_end_at wr w.heap.size s pos ty hit hp
      rw [valFrom_end s fuel hp] at hL
      have HL2 := Lib.hid (show true = valFrom s s.size 0 from hL.out)
      clear hit hL hpos0
      go_wp2_with fail
      go_ret
      exact ⟨by rw [← HL2.out]; rfl, hB.out⟩

set_option maxHeartbeats 8000000 in
set_option maxRecDepth 100000 in
theorem key_any (s : ByteArray) (w : World) (hT : Tabs w) (hs : s.size ≤ 1000000) : Calls Tryz.prog 84 #[.string s] w fun e w' => e = .returned (.bool (keyF s)) ∧ RowKit.Below w.heap.size w w' := by
  have HT := Lib.hid hT
  clear hT
  by_cases h0 : s.size = 0
  · have hv : keyF s = false := by unfold keyF; rw [decide_eq_false (by omega)]; rfl
    rw [hv]
    have he : s = ByteArray.empty := ByteArray.ext (Array.eq_empty_of_size_eq_zero (by simpa using h0))
    subst he
    clear hv
    go_enter Tryz.func84, Tryz.ntmps84
    go_wp2_with fail
    go_ret
    exact ⟨rfl, Below.refl _ _⟩
  have hne : s.toList.isEmpty = false := by
    rw [← decide_eq_emptyBytes]
    exact decide_eq_false (fun h => h0 (by rw [h]; rfl))
  by_cases h24 : 24 < s.size
  · have hv : keyF s = false := by unfold keyF; rw [decide_eq_false (p := s.size ≤ 24) (by omega)]; simp
    rw [hv]
    clear hv
    go_enter Tryz.func84, Tryz.ntmps84
    go_wp2_with fail
    go_ret
    exact ⟨rfl, Below.refl _ _⟩
  have hv : keyF s = keyFrom s s.size 0 := by unfold keyF; rw [decide_eq_true (p := s.size ≤ 24) (by omega), decide_eq_true (p := 0 < s.size) (by omega)]; simp
  rw [hv]
  have HV := Lib.hid hv
  clear hv
  go_enter Tryz.func84, Tryz.ntmps84
  go_wp2_with fail
  go_loopw [] (fun wr => ∃ (pos fuel : Nat), wr.heap[w.heap.size]? = some (.stringIter s pos) ∧ Hid (Below w.heap.size w wr) ∧
    Hid (keyFrom s fuel pos = keyFrom s s.size 0) ∧ s.size ≤ pos + fuel) (fun wr => s.size - wr.iterPos w.heap.size)
  case atStart => exact ⟨0, s.size, World.iter_heap w s 0, Lib.hid ((Below.refl _ _).alloc (Nat.le_refl _) _), Lib.hid rfl, by omega⟩
  case round =>
    obtain ⟨pos, fuel, hit, hB, hL, hf⟩ := hrel
    have hpos0 := iter_pos hit
    by_cases hp : pos < s.size
    · have hnx : ∀ ty, (Instr.next (.pointer (some ⟨w.heap.size, 0, none⟩)) true ty).run Tryz.prog wr = _ := fun ty => Lib.run_next_any_at wr w.heap.size s pos ty hit hp
      have hwd := width_pos s pos hp
      obtain ⟨fuel, rfl⟩ : ∃ f', fuel = f' + 1 := ⟨fuel - 1, by omega⟩
      have hst := keyFrom_step s fuel hp
      obtain ⟨W1, hW1⟩ : ∃ W1, W1 = wr.iterAt w.heap.size s (pos + (Utf8.decode s pos).2) := ⟨_, rfl⟩
      have hit2 : W1.heap[w.heap.size]? = some (.stringIter s (pos + (Utf8.decode s pos).2)) := by rw [hW1]; exact Lib.iterAt_heap wr w.heap.size s pos _ hit
      have hB1 : Below w.heap.size w W1 := by rw [hW1]; exact Lib.below_iterAt hB.out (Nat.le_refl _) s _
      rw [← hW1] at hnx
      rw [hst] at hL
      have hlt2 : pos < pos + (Utf8.decode s pos).2 := by omega
      generalize (Utf8.decode s pos).1 = r at *
      generalize pos + (Utf8.decode s pos).2 = pos2 at *
      have HI2 := Lib.hid hit2
      have HB1 := Lib.hid hB1
      have HP0 := Lib.hid hpos0
      have HL := Lib.hid hL.out
      have BC := Lib.hid (bad_any s pos r W1 (HT.out.below hB1) (by omega) hs)
      cases hb : badF s pos r
      · rw [hb] at BC
        have PC := fun (W : World) => Lib.hid (part_any r (decide ((pos : Int) = 0)) W)
        cases hq : partF r (decide ((pos : Int) = 0))
        · have HL2 := Lib.hid (show false = keyFrom s s.size 0 by
            have h := HL.out
            rw [hb, hq] at h
            simpa using h)
          rw [hq] at PC
          clear hW1 hit hB hL hit2 hB1 hst hwd hpos0 hb hq
          go_wp2_with fail
          refine BC.out.mono ?_
          rintro en w2 ⟨rfl, hb2⟩
          have HB3 := Lib.hid (below_then HB1.out (Nat.le_refl _) hb2)
          clear hb2
          go_wp2_with fail
          refine (PC _).out.mono ?_
          rintro en w3 ⟨rfl, rfl⟩
          go_wp2_with fail
          go_ret
          exact ⟨by rw [← HL2.out]; rfl, HB3.out⟩
        · have HL2 := Lib.hid (show keyFrom s fuel pos2 = keyFrom s s.size 0 by
            have h := HL.out
            rw [hb, hq] at h
            simpa using h)
          rw [hq] at PC
          clear hW1 hit hB hL hit2 hB1 hst hwd hpos0 hb hq
          go_wp2_with fail
          refine BC.out.mono ?_
          rintro en w2 ⟨rfl, hb2⟩
          have HI3 := Lib.hid (show w2.heap[w.heap.size]? = some (.stringIter s pos2) from by
            rw [← HI2.out]; exact hb2.block _ (Array.getElem?_eq_some_iff.1 HI2.out).1)
          have HB3 := Lib.hid (below_then HB1.out (Nat.le_refl _) hb2)
          clear hb2
          go_wp2_with fail
          refine (PC _).out.mono ?_
          rintro en w3 ⟨rfl, rfl⟩
          go_wp2_with fail
          go_roundw
          case rel => exact ⟨pos2, fuel, HI3.out, HB3, HL2, by omega⟩
          case measure => rw [iter_pos HI3.out, HP0.out]; omega
      · rw [hb] at BC
        have HL2 := Lib.hid (show false = keyFrom s s.size 0 by
          have h := HL.out
          rw [hb] at h
          simpa using h)
        clear hW1 hit hB hL hit2 hB1 hst hwd hpos0 hb
        go_wp2_with fail
        refine BC.out.mono ?_
        rintro en w2 ⟨rfl, hb2⟩
        have HB3 := Lib.hid (below_then HB1.out (Nat.le_refl _) hb2)
        clear hb2
        go_wp2_with fail
        go_ret
        exact ⟨by rw [← HL2.out]; rfl, HB3.out⟩
    · have hnx : ∀ ty, (Instr.next (.pointer (some ⟨w.heap.size, 0, none⟩)) true ty).run Tryz.prog wr = _ := fun ty => Lib.run_next_end_at wr w.heap.size s pos ty hit hp
      rw [keyFrom_end s fuel hp] at hL
      have HL2 := Lib.hid (show true = keyFrom s s.size 0 from hL.out)
      clear hit hL hpos0
      go_wp2_with fail
      go_ret
      exact ⟨by rw [← HL2.out]; rfl, hB.out⟩
end Go.Proofs.YtgcfhlleaekgfaaGreatDoor.Mut
