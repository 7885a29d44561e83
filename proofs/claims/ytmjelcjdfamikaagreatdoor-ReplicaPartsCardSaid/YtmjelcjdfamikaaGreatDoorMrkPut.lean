/- The walks of a number's bytes: wire.Put onto nothing, the document's Put (layer 3). -/
import Derived.Test.YtmjelcjdfamikaaGreatDoorMrkSum
set_option linter.unusedSimpArgs false
set_option linter.unusedVariables false
namespace Go.Proofs.YtmjelcjdfamikaaGreatDoor.Mrk
open Go.RowKit

/-- A row of bytes comes back, which the call has made. -/
def BPost (w : World) (l : List Nat) (e : Ending) (w' : World) : Prop := ∃ v, e = .returned v ∧ w'.ownsRow w.heap.size 5 1 v l.length (l.flatMap enB) ∧ Below w.heap.size w w'

theorem info_parts_B : ∃ i : TypeInfo, Tryz.prog.info? 5 = some i ∧ i.zero = some (.int .u8 0) ∧ i.size = 1 ∧ i.bytes = 1 := by
  have h := info_B
  cases hq : Tryz.prog.info? 5 with
  | none => simp [hq] at h
  | some i => simp [hq] at h; exact ⟨i, rfl, h.1, h.2.1, h.2.2⟩
theorem u8_nat (c : Nat) (h : c < 256) : IntKind.u8.wrap (c : Int) = c := by rw [IntKind.wrap_u8']; omega
theorem or128 : ∀ c : Nat, c < 128 → c ||| 128 = c + 128 := by decide

set_option maxHeartbeats 4000000 in
set_option maxRecDepth 100000 in
theorem put_any (n : Nat) (w : World) (hn : n < 9223372036854775808) :
    Calls Tryz.prog 136 #[.slice none 0 0, .int .i64 n] w (BPost w (putF n)) := by
  obtain ⟨i0, hi, hz0, hz1, hz2⟩ := info_parts_B
  have HI := Lib.hid hi
  have HZ0 := Lib.hid hz0
  have HZ1 := Lib.hid hz1
  have HZ2 := Lib.hid hz2
  have hten := low_ten (n := n) (by omega)
  obtain ⟨L, hL⟩ : ∃ L, L = low n := ⟨_, rfl⟩
  rw [← hL] at hten
  have HLL := Lib.hid hL
  have HT := Lib.hid hten
  have hm0 : max (n : Int) 0 = n := by omega
  clear hi hz0 hz1 hz2 hL hten
  go_enter Tryz.func136, Tryz.ntmps136
  go_wp2_with fail
  go_loopw [1, 5, 6] (fun nv lv kv wr => ∃ (m k : Nat) (done : List Nat) (ok : Bool) (ao : Option Addr) (cap : Nat), nv = .int .i64 m ∧ lv = .slice ao k cap ∧ kv = .bool ok ∧ m ≤ n ∧ Hid (done.length = k) ∧ Hid (if ok then L = done ++ low m else L = done) ∧
    Hid (wr.ownsRow w.heap.size 5 1 (.slice ao k cap) k (done.flatMap enB)) ∧ Below w.heap.size w wr) (fun nv _ kv _ => 2 * (intOf nv).toNat + (match kv with | .bool true => 1 | _ => 0))
  case atStart => exact ⟨n, 0, [], true, none, 0, rfl, rfl, rfl, by omega, Lib.hid rfl, Lib.hid (by rw [HLL.out]; simp), Lib.hid (World.ownsRow_nil _ _ _ _), Below.refl _ _⟩
  case round =>
    obtain ⟨m, k, done, ok, ao, cap, rfl, rfl, rfl, hmn, hdl, hrest, hown, hbl⟩ := hrel
    have hsz := hbl.size
    cases ok
    · have hLd : L = done := hrest.out
      have hl : BRow wr (.slice ao k cap) L := by rw [hLd]; exact Lst.owned enB_len (by decide) hdl.out.symm hown.out
      have hkl : L.length = k := by rw [hLd]; exact hdl.out
      have hpos : 0 < k := by
        have := List.length_pos_iff.2 (low_ne n)
        rw [← HLL.out] at this; omega
      obtain ⟨p, rfl⟩ : ∃ p, k = p + 1 := ⟨k - 1, by omega⟩
      obtain ⟨W1, rfl⟩ : ∃ W1 : World, W1 = wr := ⟨_, rfl⟩
      have HL := Lib.hid hl
      have HKL := Lib.hid hkl
      have hp10 : p < 10 := by have := HT.out; omega
      have hlow : ∀ c ∈ L, c < 128 := by rw [HLL.out]; exact low_lt n
      have HLOW := Lib.hid hlow
      have hp1 : IntKind.i64.wrap (((p + 1 : Nat) : Int) - 1) = (p : Int) := by rw [IntWalk.i64_in _ (by omega)]; omega
      have hp2 : IntKind.i64.wrap ((p : Int) + 1 - 1) = (p : Int) := by rw [IntWalk.i64_in _ (by omega)]; omega
      clear hl hkl hlow hrest hown hdl hLd
      go_wp2_with fail
      go_loopw [0, 7] (fun bv iv wr => ∃ (i k : Nat) (done : List Nat) (ao : Option Addr) (cap : Nat), iv = .int .i64 i ∧ bv = .slice ao k cap ∧ i ≤ p ∧ k ≤ 10 ∧ Hid (done.length = k ∧ done = hi (L.drop (i + 1)).reverse) ∧
        Hid (wr.ownsRow W1.heap.size 5 1 (.slice ao k cap) k (done.flatMap enB)) ∧ Below W1.heap.size W1 wr) (fun _ iv _ => (intOf iv).toNat)
      case atStart => exact ⟨p, 0, [], none, 0, by first | rfl | rw [hp1] | rw [hp2], rfl, by omega, by omega, Lib.hid ⟨rfl, by rw [List.drop_of_length_le (by have := HKL.out; omega)]; rfl⟩, Lib.hid (World.ownsRow_nil _ _ _ _), Below.refl _ _⟩
      case round =>
        obtain ⟨i, k, done, bo, bc, rfl, rfl, hip, hk10, hd, hown, hb1⟩ := hrel
        have hil : i < L.length := by have := HKL.out; omega
        have hs1 := hb1.size
        obtain ⟨c, hc⟩ : ∃ c, L[i]? = some c := ⟨_, List.getElem?_eq_getElem hil⟩
        have hce : L[i] = c := (List.getElem?_eq_some_iff.1 hc).2
        obtain ⟨bb, boff, rfl, hbb, hcell0⟩ := byte_at HL.out hc
        have hcell : wr.cell? ⟨bb, boff + i, none⟩ = some (.int .u8 c) := (hb1.cell (p := ⟨bb, boff + i, none⟩) hbb).trans hcell0
        have hc128 := HLOW.out c (List.mem_of_getElem? hc)
        by_cases hpos : 0 < i
        · have hor : bits .or .u8 (c : Int) 128 = ((c + 128 : Nat) : Int) := by rw [← or128 c hc128]; exact u8_or_nat c 128 (by omega) (by decide)
          have hd' : (done ++ [c + 128]).length = k + 1 ∧ done ++ [c + 128] = hi (L.drop (i - 1 + 1)).reverse := by
            refine ⟨by rw [List.length_append, hd.out.1]; rfl, ?_⟩
            rw [show i - 1 + 1 = i by omega, List.drop_eq_getElem_cons hil, hce, List.reverse_cons]
            unfold hi
            rw [List.map_append, hd.out.2]
            rfl
          obtain ⟨c', hc'⟩ : ∃ c', c' = c + 128 := ⟨_, rfl⟩
          rw [← hc'] at hor hd'
          have hk1 : k + 1 ≤ 10 := by
            have e : (done ++ [c']).length ≤ L.length := by
              rw [hd'.2]; unfold Mrk.hi; rw [List.length_map, List.length_reverse, List.length_drop]; omega
            rw [hd'.1] at e
            have := HT.out
            omega
          obtain ⟨j, hj⟩ : ∃ j, i = j + 1 := ⟨i - 1, by omega⟩
          subst hj
          rw [Nat.add_sub_cancel] at hd'
          have HD := Lib.hid hd'
          have hw : IntKind.i64.wrap (((j + 1 : Nat) : Int) - 1) = (j : Int) := by rw [IntWalk.i64_in _ (by omega)]; omega
          have hw2 : IntKind.i64.wrap ((j : Int) + 1 - 1) = (j : Int) := by rw [IntWalk.i64_in _ (by omega)]; omega
          clear hcell0 hc hce hil hd hd' hc'
          go_wp2_with (at_builtin; refine wpList_append_own _ rfl _ _ 110 rfl W1.heap.size 5 i0 (.int .u8 0) 1 1 Tryz.underlying110 HI.out HZ0.out HZ1.out HZ2.out rfl (by decide) (.slice bo k bc) _ _ rfl (hown.out.alloc _) ⟨_, 0, none⟩ 1 1 (enB c') rfl rfl ?c1 ?c2 ?c3 ?c4 ?c5 ?_)
          case c1 => exact new_cells _ (enB c') _
          case c2 => intro u hu; simp at hu; subst hu; rfl
          case c3 => unfold maxLen; omega
          case c4 => omega
          case c5 => simp; omega
          intro v' w3 hown3 hgrow3 _
          have hbl3 : Below W1.heap.size W1 w3 := (hb1.alloc hs1 _).grown hgrow3 (by simp; omega) (fun k hk => (World.ownsRow.lt hown.out k hk).1)
          rcases hown3.2 with ⟨_, h00⟩ | ⟨gg, gc, cur, rfl, hrest⟩
          · omega
          have R := Lib.hid hown3
          clear hown3 hgrow3 hrest
          go_wp2_with fail
          go_roundw
          case rel => exact ⟨j, k + 1, done ++ [c'], _, _, rfl, rfl, by omega, hk1, HD, Lib.hid (by rw [List.flatMap_append, List.flatMap_singleton]; exact R.out), hbl3⟩
          case measure => simp [intOf]
        · obtain rfl : i = 0 := by omega
          have hput : putF n = done ++ [c] := by
            unfold putF
            rw [← HLL.out, hd.out.2, show 0 + 1 = 1 from rfl, List.drop_one]
            congr 1
            have h0 := low_head n
            rw [← HLL.out, List.head?_eq_getElem?, hc] at h0
            simpa using h0.symm
          have HPUT := Lib.hid hput
          have hk := hd.out.1
          have HK := Lib.hid hk
          have hcell' : wr.cell? ⟨bb, boff, none⟩ = some (.int .u8 c) := hcell
          clear hcell0 hc hce hil hd hput hk hcell
          go_wp2_with (at_builtin; refine wpList_append_own _ rfl _ _ 110 rfl W1.heap.size 5 i0 (.int .u8 0) 1 1 Tryz.underlying110 HI.out HZ0.out HZ1.out HZ2.out rfl (by decide) (.slice bo k bc) _ _ rfl (hown.out.alloc _) ⟨_, 0, none⟩ 1 1 (enB c) rfl rfl ?c1 ?c2 ?c3 ?c4 ?c5 ?_)
          case c1 => exact new_cells _ (enB c) _
          case c2 => intro u hu; simp at hu; subst hu; rfl
          case c3 => unfold maxLen; omega
          case c4 => omega
          case c5 => simp; omega
          intro v' w3 hown3 hgrow3 _
          have hbl3 : Below W1.heap.size W1 w3 := (hb1.alloc hs1 _).grown hgrow3 (by simp; omega) (fun k hk => (World.ownsRow.lt hown.out k hk).1)
          rcases hown3.2 with ⟨_, h00⟩ | ⟨gg, gc, cur, rfl, hrest⟩
          · omega
          have R := Lib.hid hown3
          clear hown3 hgrow3 hrest
          go_wp2_with fail
          go_ret
          refine ⟨_, rfl, ?_, below_then hbl (Nat.le_refl _) hbl3⟩
          rw [HPUT.out, List.length_append, HK.out, List.flatMap_append, List.flatMap_singleton]
          exact own_base R.out hsz
    · obtain ⟨c, hc⟩ : ∃ c, c = m % 128 := ⟨_, rfl⟩
      obtain ⟨q, hq⟩ : ∃ q, q = m / 128 := ⟨_, rfl⟩
      have hLm : L = done ++ low m := hrest.out
      have hnext : if decide (0 < q) then L = (done ++ [c]) ++ low q else L = done ++ [c] := by
        by_cases hz : q = 0
        · rw [if_neg (by simp; omega), hLm, low_small (by omega), hc, Nat.mod_eq_of_lt (by omega)]
        · rw [if_pos (by simp; omega), hLm, low_big (by omega), hc, hq]; simp
      have HN := Lib.hid hnext
      have hk10 : k ≤ 10 := by have h1 := HT.out; rw [hLm, List.length_append, hdl.out] at h1; omega
      have hc128 : c < 128 := by omega
      have e1 : (m : Int) / 128 = (q : Int) := by omega
      have e2 : bits .and .i64 (m : Int) 127 = (c : Int) := by rw [i64_and127]; omega
      have e3 := u8_nat c (by omega)
      have hqm : q ≤ m ∧ (0 < m → q < m) := by omega
      have HDL : Hid ((done ++ [c]).length = k + 1) := Lib.hid (by rw [List.length_append, hdl.out]; rfl)
      clear hc hq hLm hrest hnext hdl
      go_wp2_with (at_builtin; refine wpList_append_own _ rfl _ _ 110 rfl w.heap.size 5 i0 (.int .u8 0) 1 1 Tryz.underlying110 HI.out HZ0.out HZ1.out HZ2.out rfl (by decide) (.slice ao k cap) _ _ rfl (hown.out.alloc _) ⟨_, 0, none⟩ 1 1 (enB c) rfl rfl ?c1 ?c2 ?c3 ?c4 ?c5 ?_)
      case c1 => exact new_cells _ (enB c) _
      case c2 => intro u hu; simp at hu; subst hu; rfl
      case c3 => unfold maxLen; omega
      case c4 => omega
      case c5 => simp; omega
      intro v' w3 hown3 hgrow3 _
      have hbl3 : Below w.heap.size w w3 := (hbl.alloc hsz _).grown hgrow3 (by simp; omega) (fun k hk => (World.ownsRow.lt hown.out k hk).1)
      rcases hown3.2 with ⟨_, h00⟩ | ⟨gg, gc, cur, rfl, hrest⟩
      · omega
      have R := Lib.hid hown3
      clear hown3 hgrow3 hrest
      go_wp2_with fail
      go_roundw
      case rel => exact ⟨q, k + 1, done ++ [c], decide (0 < q), _, _, rfl, rfl, rfl, by omega, HDL, HN, Lib.hid (by rw [List.flatMap_append, List.flatMap_singleton]; exact R.out), hbl3⟩
      case measure =>
        simp only [intOf]
        by_cases hz : q = 0
        · subst hz; simp
        · have : decide (0 < q) = true := by simp; omega
          rw [this]; simp; omega
end Go.Proofs.YtmjelcjdfamikaaGreatDoor.Mrk
