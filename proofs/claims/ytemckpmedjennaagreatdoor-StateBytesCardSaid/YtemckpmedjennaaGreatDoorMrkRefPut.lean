/- The walk of the document's bytes of a number (layer 3). -/
import Derived.Test.YtemckpmedjennaaGreatDoorMrkPut
set_option linter.unusedSimpArgs false
set_option linter.unusedVariables false
namespace Go.Proofs.YtemckpmedjennaaGreatDoor.Mrk
open Go.RowKit

set_option maxHeartbeats 1000000 in
set_option maxRecDepth 100000 in
theorem refput_small (n : Nat) (w : World) (h : n < 128) : Calls Tryz.prog 95 #[.int .i64 n] w (BPost w (putF n)) := by
  have e3 := u8_nat n (by omega)
  rw [putF_small h]
  go_enter Tryz.func95, Tryz.ntmps95
  go_wp2_with fail
  go_ret
  exact ⟨_, rfl, World.ownsRow_lit w #[.int .u8 n] 1 (Nat.le_refl _) (by decide) rfl, (Below.refl _ _).alloc (Nat.le_refl _) _⟩

set_option maxHeartbeats 2000000 in
set_option maxRecDepth 100000 in
theorem refput_big (n : Nat) (w : World) (h : 128 ≤ n) (hn : n < 9223372036854775808) (hc : Calls Tryz.prog 95 #[.int .i64 (n / 128 : Nat)] w (BPost w (putF (n / 128)))) :
    Calls Tryz.prog 95 #[.int .i64 n] w (BPost w (putF n)) := by
  obtain ⟨i0, hi, hz0, hz1, hz2⟩ := info_parts_B
  have HI := Lib.hid hi
  have HZ0 := Lib.hid hz0
  have HZ1 := Lib.hid hz1
  have HZ2 := Lib.hid hz2
  obtain ⟨l, x, h1, h2, h3⟩ := putF_big h
  have hlen : l.length ≤ 10 := by
    have := putF_len (n := n / 128)
    rw [h1] at this
    have := low_ten (n := n / 128) (by omega)
    simp at *; omega
  rw [h1] at hc
  obtain ⟨q, hq⟩ : ∃ q, q = n / 128 := ⟨_, rfl⟩
  obtain ⟨c, hcc⟩ : ∃ c, c = n % 128 := ⟨_, rfl⟩
  obtain ⟨p, hp⟩ : ∃ p, p = l.length := ⟨_, rfl⟩
  rw [← hq] at hc
  rw [← hcc] at h2
  have e1 : (n : Int) / 128 = (q : Int) := by omega
  have e2 : (n : Int) % 128 = (c : Int) := by omega
  have e3 := u8_nat c (by omega)
  have e4 : IntKind.u8.wrap ((x : Int) + 128) = ((x + 128 : Nat) : Int) := by have := u8_nat (x + 128) (by omega); rw [← this]; rfl
  obtain ⟨x', hx'⟩ : ∃ x', x' = x + 128 := ⟨_, rfl⟩
  rw [← hx'] at e4 h2
  have hp1 : IntKind.i64.wrap (((p + 1 : Nat) : Int) - 1) = (p : Int) := by rw [IntWalk.i64_in _ (by omega)]; omega
  have hp2 : IntKind.i64.wrap ((p : Int) + 1 - 1) = (p : Int) := by rw [IntWalk.i64_in _ (by omega)]; omega
  rw [h2]
  have HC := Lib.hid hc
  have HP := Lib.hid hp
  have hp10 : p ≤ 10 := by omega
  clear hc hp hq hcc h1 h2 hlen hx' hi hz0 hz1 hz2
  go_enter Tryz.func95, Tryz.ntmps95
  go_wp2_with fail
  refine HC.out.mono ?_
  rintro e w1 ⟨v, rfl, hown0, hb1⟩
  have hown : w1.ownsRow w.heap.size 5 1 v (p + 1) ((l ++ [x]).flatMap enB) := by have h := hown0; rw [List.length_append, ← HP.out] at h; exact h
  obtain ⟨g, cap, rfl, hg1, hg2⟩ := World.ownsRow.form hown (by omega)
  obtain ⟨ho2, hgr⟩ := hown.stored p (.int .u8 x')
  have hcl := hown.cellAt p (by omega)
  have hfz := hown.frozenAt p
  have hat : ((l ++ [x]).flatMap enB)[p]? = some (.int .u8 x) := by
    rw [flat_enB, List.getElem?_map, List.getElem?_append_right (by have := HP.out; omega)]
    have : p - l.length = 0 := by have := HP.out; omega
    rw [this]; rfl
  rw [hat] at hcl
  have hset : ((l ++ [x]).flatMap enB).set p (.int .u8 x') = (l ++ [x']).flatMap enB := by
    rw [flat_enB, flat_enB, List.map_append, List.map_append, List.set_append_right _ _ (by rw [List.length_map, ← HP.out]; omega)]
    have : p - (l.map fun c : Nat => Value.int .u8 c).length = 0 := by rw [List.length_map, ← HP.out]; omega
    rw [this]; rfl
  rw [hset] at ho2
  obtain ⟨w2, hw2⟩ : ∃ w2, w2 = w1.setCell ⟨g, p, none⟩ (.int .u8 x') := ⟨_, rfl⟩
  rw [← hw2] at ho2 hgr
  have hb2 : Below w.heap.size w w2 := below_row hb1 (Nat.le_refl _) hg1 hgr
  have HW2 := Lib.hid hw2
  have HO := Lib.hid ho2
  have hsw := hb2.size
  clear hown hown0 hat hset hgr
  go_upto_region 7 with fail
  rw [← hw2]
  clear hcl hfz hw2
  go_wp2_with (at_builtin; refine wpList_append_own _ rfl _ _ 74 rfl w.heap.size 5 i0 (.int .u8 0) 1 1 Tryz.underlying74 HI.out HZ0.out HZ1.out HZ2.out rfl (by decide) (.slice (some ⟨g, 0, none⟩) (p + 1) cap) _ _ rfl (HO.out.alloc _) ⟨_, 0, none⟩ 1 1 (enB c) rfl rfl ?c1 ?c2 ?c3 ?c4 ?c5 ?_)
  case c1 => exact new_cells _ (enB c) _
  case c2 => intro u hu; simp at hu; subst hu; rfl
  case c3 => unfold maxLen; omega
  case c4 => omega
  case c5 => simp; omega
  intro v' w3 hown3 hgrow3 _
  have hbl3 : Below w.heap.size w w3 := (hb2.alloc hsw _).grown hgrow3 (by simp; omega) (fun k hk => (World.ownsRow.lt HO.out k hk).1)
  rcases hown3.2 with ⟨_, h00⟩ | ⟨gg, gc, cur, rfl, hrest⟩
  · omega
  have R := Lib.hid hown3
  clear hown3 hgrow3 hrest
  go_wp2_with fail
  go_ret
  refine ⟨_, rfl, ?_, hbl3⟩
  have h := R.out
  have e1 : (l ++ [x'] ++ [c]).length = p + 1 + 1 := by simp [HP.out]
  have e2 : (l ++ [x'] ++ [c]).flatMap enB = l.flatMap enB ++ Value.int .u8 x' :: enB c := by simp
  have h' : w3.ownsRow w.heap.size 5 1 (.slice (some ⟨gg, 0, none⟩) (p + 1 + 1) gc) (l ++ [x'] ++ [c]).length ((l ++ [x'] ++ [c]).flatMap enB) := by rw [e1, e2]; exact h
  exact h'

theorem refput_any (n : Nat) : ∀ (w : World), n < 9223372036854775808 → Calls Tryz.prog 95 #[.int .i64 n] w (BPost w (putF n)) := by
  induction n using Nat.strongRecOn with
  | _ n ih =>
    intro w hn
    by_cases h : n < 128
    · exact refput_small n w h
    · exact refput_big n w (by omega) hn (ih (n / 128) (by omega) w (by omega))
end Go.Proofs.YtemckpmedjennaaGreatDoor.Mrk
