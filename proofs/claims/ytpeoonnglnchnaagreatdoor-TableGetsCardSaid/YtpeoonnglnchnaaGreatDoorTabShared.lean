/- PRINTED by wip/gentabshared.py. How many bytes two keys share: page.shared and cenotaphref15.shared (layer 15). -/
import Derived.Test.YtpeoonnglnchnaaGreatDoorTabUtf
import Derived.Test.YtpeoonnglnchnaaGreatDoorRegApp
set_option linter.unusedSimpArgs false
set_option linter.unusedVariables false
namespace Go.Proofs.YtpeoonnglnchnaaGreatDoor.Tab
open Go.RowKit Go.Lib Go.Proofs.YtpeoonnglnchnaaGreatDoor.RegInv

def encS (r : Int) : ByteArray := Utf8.encode r
theorem run_encS (r : Int) (W : World) : (convert 21 9 (.int .i32 r)).run Tryz.prog W = .ok (.string (encS r)) W := by
  go_simp
  rfl
theorem encS_size (r : Nat) (h : r ≤ 1114111) (hv : r < 55296 ∨ 57344 ≤ r) : (encS (r : Int)).size = encLen r := encode_size r h hv
attribute [irreducible] encS

/-- What is left to be compared, at a place. -/
theorem shared_stop {a b : ByteArray} {f g pos : Nat} (ha : pos < a.size) (fa : Fine a pos) (wb : wellFrom b g pos) (hg : b.size ≤ pos + g) (h : ¬ (pos + (Utf8.decode a pos).2 ≤ b.size ∧ a.extract pos (pos + (Utf8.decode a pos).2) = b.extract pos (pos + (Utf8.decode a pos).2))) :
    sharedR (runesFrom a (f + 1) pos) (runesFrom b g pos) = 0 := by
  rw [runesFrom_step a f ha]
  by_cases hb : pos < b.size
  · obtain ⟨g, rfl⟩ : ∃ g', g = g' + 1 := ⟨g - 1, by omega⟩
    rw [runesFrom_step b g hb]
    unfold sharedR
    rw [if_neg fun e => h ((same_rune ha hb fa (well_step wb hb).1).2 (by omega))]
  · rw [runesFrom_end b g hb]
    rfl
theorem shared_go {a b : ByteArray} {f g pos : Nat} (ha : pos < a.size) (fa : Fine a pos) (wb : wellFrom b g pos) (hg : b.size ≤ pos + g) (h1 : pos + (Utf8.decode a pos).2 ≤ b.size) (h2 : a.extract pos (pos + (Utf8.decode a pos).2) = b.extract pos (pos + (Utf8.decode a pos).2)) :
    ∃ g', g = g' + 1 ∧ wellFrom b g' (pos + (Utf8.decode a pos).2) ∧ sharedR (runesFrom a (f + 1) pos) (runesFrom b g pos) = (Utf8.decode a pos).2 + sharedR (runesFrom a f (pos + (Utf8.decode a pos).2)) (runesFrom b g' (pos + (Utf8.decode a pos).2)) := by
  have hl := fine_len ha fa
  have hb : pos < b.size := by omega
  obtain ⟨g, rfl⟩ : ∃ g', g = g' + 1 := ⟨g - 1, by omega⟩
  have hr := (same_rune ha hb fa (well_step wb hb).1).1 ⟨h1, h2⟩
  have hlb := fine_len hb (well_step wb hb).1
  have hw : (Utf8.decode b pos).2 = (Utf8.decode a pos).2 := by rw [hlb.1, hl.1, hr]
  refine ⟨g, rfl, by rw [← hw]; exact (well_step wb hb).2, ?_⟩
  rw [runesFrom_step a f ha, runesFrom_step b g hb, hw]
  conv => lhs; unfold sharedR
  rw [if_pos (by omega), Int.toNat_natCast, ← hl.1]

theorem ne_toList {x y : ByteArray} (h : x ≠ y) : (x.toList == y.toList) = false := by
  rw [beq_eq_false_iff_ne]
  intro e
  apply h
  apply ByteArray.ext
  rw [ByteArray.toList_eq, ByteArray.toList_eq] at e
  exact Array.toList_inj.1 e
theorem has_size {w : World} {k : Nat} {o : Obj} (h : w.heap[k]? = some o) : k < w.heap.size := (Array.getElem?_eq_some_iff.1 h).1
theorem lt_size {w : World} {k : Nat} {o : Obj} (h : w.heap[k]? = some o) : k ≤ w.heap.size := Nat.le_of_lt (has_size h)

set_option maxHeartbeats 4000000 in
set_option maxRecDepth 100000 in
theorem shared_any (a b : ByteArray) (w : World) (sa : a.size ≤ 1000000) (sb : b.size ≤ 1000000) (wa : Well a) (wb : Well b) :
    Calls Tryz.prog 81 #[.string a, .string b] w fun e w' => e = .returned (.int .i64 (sharedF a b : Nat)) ∧ Below w.heap.size w w' := by
  obtain ⟨T, hT⟩ : ∃ T, T = sharedF a b := ⟨_, rfl⟩
  rw [← hT]
  have HT := Lib.hid hT
  have HW := Lib.hid (And.intro wa wb)
  clear hT wa wb
  go_enter Tryz.func81, Tryz.ntmps81
  go_wp2_with fail
  go_loopw [5] (fun nv wr => ∃ (pos f g : Nat), wr.heap[w.heap.size]? = some (.stringIter a pos) ∧ Hid (Below w.heap.size w wr) ∧ nv = .int .i64 pos ∧ pos ≤ a.size ∧ pos ≤ b.size ∧
    Hid (wellFrom a f pos ∧ wellFrom b g pos ∧ T = pos + sharedR (runesFrom a f pos) (runesFrom b g pos)) ∧ a.size ≤ pos + f ∧ b.size ≤ pos + g) (fun _ wr => a.size - wr.iterPos w.heap.size)
  case atStart => exact ⟨0, a.size, b.size, World.iter_heap w a 0, Lib.hid ((Below.refl _ _).alloc (Nat.le_refl _) _), rfl, Nat.zero_le _, Nat.zero_le _, Lib.hid ⟨HW.out.1, HW.out.2, by rw [HT.out]; unfold sharedF runesOf; omega⟩, by omega, by omega⟩
  case round =>
    obtain ⟨pos, f, g, hit, hB, rfl, hpa, hpb, hin, hf, hg⟩ := hrel
    have hpos0 := iter_pos hit
    by_cases hp : pos < a.size
    · have hnx : ∀ ty, (Instr.next (.pointer (some ⟨w.heap.size, 0, none⟩)) true ty).run Tryz.prog wr = _ := fun ty => Lib.run_next_any_at wr w.heap.size a pos ty hit hp
      obtain ⟨f, rfl⟩ : ∃ f', f = f' + 1 := ⟨f - 1, by omega⟩
      obtain ⟨w1, w2, hTT⟩ := hin.out
      obtain ⟨fa, w3⟩ := well_step w1 hp
      have hl := fine_len hp fa
      obtain ⟨W1, hW1⟩ : ∃ W1, W1 = wr.iterAt w.heap.size a (pos + (Utf8.decode a pos).2) := ⟨_, rfl⟩
      have hit2 : W1.heap[w.heap.size]? = some (.stringIter a (pos + (Utf8.decode a pos).2)) := by rw [hW1]; exact Lib.iterAt_heap wr w.heap.size a pos _ hit
      have hB1 : Below w.heap.size w W1 := by rw [hW1]; exact Lib.below_iterAt hB.out (Nat.le_refl _) a _
      rw [← hW1] at hnx
      have hes := encS_size (Utf8.decode a pos).1 hl.2.2.2.1 hl.2.2.2.2
      rw [← hl.1] at hes
      have hst := shared_stop (f := f) hp fa w2 hg
      have hgo := shared_go (f := f) hp fa w2 hg
      obtain ⟨z, hz⟩ : ∃ z, z = (Utf8.decode a pos).2 := ⟨_, rfl⟩
      obtain ⟨r, hr⟩ : ∃ r, r = (Utf8.decode a pos).1 := ⟨_, rfl⟩
      have hz1 : 1 ≤ z := by rw [hz]; exact hl.2.2.1
      have hz2 : pos + z ≤ a.size := by rw [hz]; exact hl.2.1
      rw [← hz] at hit2 hes hst hgo w3
      rw [← hr] at hnx hes
      have hcv := fun W => run_encS (r : Int) W
      obtain ⟨E, hE⟩ : ∃ E, E = encS (r : Int) := ⟨_, rfl⟩
      rw [← hE] at hcv hes
      have HI2 := Lib.hid hit2
      have HB1 := Lib.hid hB1
      have HP0 := Lib.hid hpos0
      have HTT := Lib.hid hTT
      have HST := Lib.hid hst
      have HGO := Lib.hid hgo
      have HW3 := Lib.hid w3
      clear hW1 hit hB hit2 hB1 hpos0 hin hl hTT hst hgo w1 w2 w3 fa hE hz hr
      by_cases h1 : b.size < pos + z
      · have hT0 : T = pos := by rw [HTT.out, HST.out (fun h => by omega)]; rfl
        clear HST HGO
        have HT0 := Lib.hid hT0
        clear hT0
        go_upto_region 6 with fail
        have q0 : (b.size : Int) < (pos : Int) + (z : Int) := by omega
        refine wp_region_calm (by kernel_rfl) (by kernel_rfl) ?_
        repeat (go_big_quiet_step (fail))
        refine wpQuiet_nil ?_
        rintro _ ⟨z0, rfl⟩
        have hb := z0.below
        obtain ⟨W, hW⟩ : ∃ W, W = z0.at := ⟨_, rfl⟩
        rw [← hW] at hb ⊢
        clear hW
        have HB9 := Lib.hid (below_then HB1.out (Nat.le_refl _) hb)
        clear hb
        go_wp2_with fail
        go_ret
        exact ⟨by rw [HT0.out]; rfl, HB9.out⟩
      · have HBS := Lib.hid h1
        by_cases h2 : a.extract pos (pos + z) = b.extract pos (pos + z)
        · have H2 := Lib.hid h2
          clear h2
          go_upto_region 6 with fail
          have q0 : ¬ ((b.size : Int) < (pos : Int) + (z : Int)) := by have := HBS.out; omega
          have q2 : (0 : Int) ≤ (pos : Int) := by omega
          have hx := H2.out
          refine wp_region_calm (by kernel_rfl) (by kernel_rfl) ?_
          repeat (go_big_quiet_step (fail))
          refine wpQuiet_nil ?_
          rintro _ ⟨z0, rfl⟩
          have hb := z0.below
          obtain ⟨W, hW⟩ : ∃ W, W = z0.at := ⟨_, rfl⟩
          rw [← hW] at hb ⊢
          clear hW
          have HB9 := Lib.hid (below_then HB1.out (Nat.le_refl _) hb)
          have HI9 := Lib.hid ((hb.block w.heap.size (has_size HI2.out)).trans HI2.out)
          clear hb
          go_wp2_with fail
          go_roundw
          case rel =>
            obtain ⟨g', rfl, w9, hs9⟩ := HGO.out (by have := HBS.out; omega) H2.out
            exact ⟨pos + z, f, g', HI9.out, HB9, by go_num, hz2, by have := HBS.out; omega, Lib.hid ⟨HW3.out, w9, by rw [HTT.out, hs9]; omega⟩, by omega, by omega⟩
          case measure => rw [iter_pos HI9.out, HP0.out]; omega
        · have H2 := Lib.hid h2
          have HT0 := Lib.hid (show T = pos by rw [HTT.out, HST.out (fun h => h2 h.2)]; rfl)
          clear h2 HST HGO
          go_upto_region 6 with fail
          have q0 : ¬ ((b.size : Int) < (pos : Int) + (z : Int)) := by have := HBS.out; omega
          have q2 : (0 : Int) ≤ (pos : Int) := by omega
          have hx := ne_toList H2.out
          refine wp_region_calm (by kernel_rfl) (by kernel_rfl) ?_
          repeat (go_big_quiet_step (fail))
          refine wpQuiet_nil ?_
          rintro _ ⟨z0, rfl⟩
          have hb := z0.below
          obtain ⟨W, hW⟩ : ∃ W, W = z0.at := ⟨_, rfl⟩
          rw [← hW] at hb ⊢
          clear hW
          have HB9 := Lib.hid (below_then HB1.out (Nat.le_refl _) hb)
          clear hb
          go_wp2_with fail
          go_ret
          exact ⟨by rw [HT0.out]; rfl, HB9.out⟩
    · have hnx : ∀ ty, (Instr.next (.pointer (some ⟨w.heap.size, 0, none⟩)) true ty).run Tryz.prog wr = _ := fun ty => Lib.run_next_end_at wr w.heap.size a pos ty hit hp
      have hfin : T = pos := by have h := hin.out.2.2; rw [runesFrom_end a f hp] at h; simpa [sharedR] using h
      clear hit hpos0 hin
      go_wp2_with fail
      go_ret
      exact ⟨by rw [hfin]; rfl, hB.out⟩
end Go.Proofs.YtpeoonnglnchnaaGreatDoor.Tab
