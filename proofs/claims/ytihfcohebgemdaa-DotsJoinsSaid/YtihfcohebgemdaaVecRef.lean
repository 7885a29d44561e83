/- The walks of layer 5 (vector): the reference's Set, Of, Knows, Join, Meet, Covers. -/
import Derived.Test.YtihfcohebgemdaaVecWalks
namespace Go.Proofs.Ytihfcohebgemdaa.Vec
open Go.RowKit

set_option maxRecDepth 100000 in
set_option maxHeartbeats 4000000 in
theorem set_any (ao : Option Addr) (ac : Nat) (l : List P) (x : P) (w : World) (ha : DRow w (.slice ao l.length ac) l) (h1 : l.length ≤ 1000) :
    Calls Try.prog 72 #[.slice ao l.length ac, .agg #[.int .i64 x.who, .int .i64 x.n]] w (RowPost w (setF l x)) := by
  have HA := Lib.hid ha
  clear ha
  obtain ⟨i0, hi, hz0, hz1, hz2⟩ := info_parts info_R
  have HI := Lib.hid hi
  have HZ0 := Lib.hid hz0
  have HZ1 := Lib.hid hz1
  have HZ2 := Lib.hid hz2
  clear hi hz0 hz1 hz2
  go_enter Try.func72, Try.ntmps72
  go_wp2_with fail
  obtain ⟨W0, hW0⟩ : ∃ W0, W0 = w.alloc (.cells #[.int .i64 x.who, .int .i64 x.n] 42) := ⟨_, rfl⟩
  have e0 : W0.cell? ⟨w.heap.size, 0, none⟩ = some (.int .i64 x.who) := by rw [hW0]; go_simp
  have e1 : W0.cell? ⟨w.heap.size, 1, none⟩ = some (.int .i64 x.n) := by rw [hW0]; go_simp
  have hs0 : W0.heap.size = w.heap.size + 1 := by rw [hW0]; simp
  have hb0 : Below w.heap.size w W0 := by rw [hW0]; exact (Below.refl _ _).alloc (Nat.le_refl _) _
  have HA0 := Lib.hid (Lst.below HA.out hb0)
  rw [← hW0]
  have HS0 := Lib.hid hs0
  have HB0 := Lib.hid hb0
  have E := Lib.hid (And.intro e0 e1)
  clear hW0 hs0 hb0 e0 e1
  go_loopw [5, 6, 7] (fun ov nv iv wr => ∃ (k : Nat) (inn : Bool) (out : List P), k ≤ l.length ∧ iv = .int .i64 k ∧ nv = .bool inn ∧ Hid (out ++ setG x inn (l.drop k) = setF l x) ∧ out.length ≤ 2 * k ∧ Hid (wr.ownsRow (w.heap.size + 1) 42 2 ov out.length (out.flatMap enD)) ∧ Below (w.heap.size + 1) W0 wr) (fun _ _ iv _ => l.length - (vInt iv).toNat)
  case atStart => exact ⟨0, false, [], by omega, rfl, rfl, Lib.hid (by simp [setF]), by simp, Lib.hid (World.ownsRow_nil _ _ _ _), Below.refl _ _⟩
  case round =>
    obtain ⟨k, inn, out, hk, rfl, rfl, hput, hol, hown, hbl⟩ := hrel
    have hsz : w.heap.size + 1 ≤ wr.heap.size := by have := hbl.size; have := HS0.out; omega
    by_cases hlt : k < l.length
    · have HA' := Lib.hid (Lst.below HA0.out (by rw [HS0.out]; exact hbl))
      obtain ⟨ab, aoff, rfl, hab, a0, a1⟩ := dot_at HA'.out (List.getElem?_eq_getElem hlt)
      have hdl := List.drop_eq_getElem_cons hlt
      obtain ⟨y, hy⟩ : ∃ y, y = l[k] := ⟨_, rfl⟩
      rw [← hy] at a0 a1 hdl
      have hpl := hput.out
      rw [hdl] at hpl
      have HY := Lib.hid hy
      have HP := Lib.hid hpl
      clear hy hdl hpl hput
      have x0 := (hbl.cell (p := ⟨w.heap.size, 0, none⟩) (by simp)).trans E.out.1
      have x1 := (hbl.cell (p := ⟨w.heap.size, 1, none⟩) (by simp)).trans E.out.2
      have hs1 : w.heap.size < wr.heap.size := by omega
      go_upto_region 6 with fail
      go_cut [25] (fun c wx => c = .bool (!inn && decide (x.who ≤ y.who)) ∧ Below wr.heap.size wr wx)
      case first =>
        cases inn
        · go_quiet (fail)
          go_wp2_with fail
          go_meet
          exact ⟨by simp, below_drewN (Below.refl _ _) _⟩
        · go_quiet (fail)
          go_wp2_with fail
          go_meet
          exact ⟨by simp, below_drewN (Below.refl _ _) _⟩
      case rest =>
        obtain ⟨rfl, hbx⟩ := hcut
        have HO := Lib.hid (World.ownsRow.kept hown.out (row := none) ⟨hbx.os, hbx.tape, hbx.output, hbx.size, fun i hi _ => hbx.block i hi⟩ (by cases u5.ownBlock <;> simp))
        have hb2 := below_then hbl (Nat.le_of_eq HS0.out.symm) hbx
        have y0 := (hbx.cell (p := ⟨w.heap.size, 0, none⟩) (by simp; omega)).trans x0
        have y1 := (hbx.cell (p := ⟨w.heap.size, 1, none⟩) (by simp; omega)).trans x1
        have hsz2 := hbx.size
        clear x0 x1 a0 a1 hab hown hbl
        go_upto_if 25 with fail
        go_cut [5, 6] (fun ov nv wx => ∃ inn' out', nv = .bool inn' ∧ Hid (out' ++ ((if y.who != x.who then [y] else []) ++ setG x inn' (l.drop (k + 1))) = setF l x) ∧ out'.length ≤ 2 * k + 1 ∧ Hid (wx.ownsRow (w.heap.size + 1) 42 2 ov out'.length (out'.flatMap enD)) ∧ Below (w.heap.size + 1) W0 wx)
        case first =>
          cases hc : (!inn && decide (x.who ≤ y.who))
          · go_wp2_with fail
            go_meet
            exact ⟨inn, out, rfl, by have := HP.out; simp only [setG, hc] at this; simpa using Lib.hid this, by omega, HO, hb2⟩
          · go_wp2_with (at_builtin; refine wpList_append_own _ rfl _ _ 34 rfl (w.heap.size + 1) 42 i0 (.agg #[.int .i64 0, .int .i64 0]) 2 16 Try.underlying34 HI.out HZ0.out HZ1.out HZ2.out rfl (by decide) _ _ _ rfl (HO.out.alloc _) ⟨wc.heap.size, 0, none⟩ 1 1 (enD x) rfl rfl ?c1 ?c2 ?c3 ?c4 ?c5 ?_)
            case c1 => exact new_cells _ (enD x) _
            case c2 => exact enD_one x
            case c3 => unfold maxLen; omega
            case c4 => omega
            case c5 => simp; omega
            intro v' w3 hown3 hgrow3 _
            have R := Lib.hid hown3
            have hbl3 : Below (w.heap.size + 1) W0 w3 := (hb2.alloc (by omega) _).grown hgrow3 (by simp; omega) (fun k hk => (World.ownsRow.lt HO.out k hk).1)
            clear hown3 hgrow3
            go_wp2
            go_meet
            have h5 : inn = false := by cases inn <;> simp_all
            exact ⟨true, out ++ [x], rfl, Lib.hid (by have := HP.out; simp only [setG, hc] at this; rw [h5] at this; simpa using this), by simp; omega, by rw [List.length_append, List.flatMap_append, List.flatMap_singleton]; exact R, hbl3⟩
        case rest =>
          obtain ⟨inn', out', rfl, hpl, hol', hown', hb3⟩ := hcut
          have HA3 := Lib.hid (Lst.below HA0.out (by rw [HS0.out]; exact hb3))
          obtain ⟨ab', aoff', hae, hab, a0, a1⟩ := dot_at HA3.out (List.getElem?_eq_getElem hlt)
          cases hae
          rw [← HY.out] at a0 a1
          have x0 := (hb3.cell (p := ⟨w.heap.size, 0, none⟩) (by simp)).trans E.out.1
          have x1 := (hb3.cell (p := ⟨w.heap.size, 1, none⟩) (by simp)).trans E.out.2
          have hs3 := hb3.size
          have hs4 : w.heap.size < wc.heap.size := by have := HS0.out; omega
          by_cases hqq : y.who = x.who
          · have HQ := Lib.hid hqq
            go_wp2_with fail
            go_quiet (fail)
            go_wp2_with fail
            go_roundw
            case rel => exact ⟨k + 1, inn', out', by omega, by go_num, rfl, Lib.hid (by have := hpl.out; simpa [HQ.out] using this), by omega, hown', below_drewN hb3 _⟩
            case measure => simp [vInt]; omega
          · have HQ := Lib.hid hqq
            have HOd : ∀ q, Hid ((wc.drewN q).ownsRow (w.heap.size + 1) 42 2 u5 out'.length (out'.flatMap enD)) := fun q => hown'
            go_wp2_with fail
            go_quiet (fail)
            go_wp2_with (at_builtin; refine wpList_append_own _ rfl _ _ 34 rfl (w.heap.size + 1) 42 i0 (.agg #[.int .i64 0, .int .i64 0]) 2 16 Try.underlying34 HI.out HZ0.out HZ1.out HZ2.out rfl (by decide) _ _ _ rfl ((HOd _).out.alloc _) ⟨_, 0, none⟩ 1 1 (enD y) rfl rfl ?d1 ?d2 ?d3 ?d4 ?d5 ?_)
            case d1 => exact new_cells _ (enD y) _
            case d2 => exact enD_one y
            case d3 => unfold maxLen; omega
            case d4 => omega
            case d5 => simp; omega
            intro v' w3 hown3 hgrow3 _
            have R := Lib.hid hown3
            have hbl3 : Below (w.heap.size + 1) W0 w3 := ((below_drewN hb3 _).alloc (by simp; omega) _).grown hgrow3 (by simp; omega) (fun k hk => (World.ownsRow.lt hown'.out k hk).1)
            clear hown3 hgrow3
            go_wp2
            go_roundw
            case rel => exact ⟨k + 1, inn', out' ++ [y], by omega, by go_num, rfl, Lib.hid (by have := hpl.out; simpa [HQ.out] using this), by simp; omega, by rw [List.length_append, List.flatMap_append, List.flatMap_singleton]; exact R, hbl3⟩
            case measure => simp [vInt]; omega
    · obtain rfl : k = l.length := by omega
      have hpl := hput.out
      rw [List.drop_length] at hpl
      have HP := Lib.hid hpl
      clear hpl hput
      have x0 := (hbl.cell (p := ⟨w.heap.size, 0, none⟩) (by simp)).trans E.out.1
      have x1 := (hbl.cell (p := ⟨w.heap.size, 1, none⟩) (by simp)).trans E.out.2
      have hs1 : w.heap.size < wr.heap.size := by omega
      have hwb : ∀ {u : World}, Below (w.heap.size + 1) W0 u → Below w.heap.size w u := fun h => HB0.out.trans (h.mono (by omega))
      cases inn
      · have hp2 : out ++ [x] = setF l x := by have := HP.out; simpa [setG] using this
        have HP2 := Lib.hid hp2
        clear hp2
        go_wp2_with (at_builtin; refine wpList_append_own _ rfl _ _ 34 rfl (w.heap.size + 1) 42 i0 (.agg #[.int .i64 0, .int .i64 0]) 2 16 Try.underlying34 HI.out HZ0.out HZ1.out HZ2.out rfl (by decide) _ _ _ rfl (hown.out.alloc _) ⟨_, 0, none⟩ 1 1 (enD x) rfl rfl ?e1 ?e2 ?e3 ?e4 ?e5 ?_)
        case e1 => exact new_cells _ (enD x) _
        case e2 => exact enD_one x
        case e3 => unfold maxLen; omega
        case e4 => omega
        case e5 => simp; omega
        intro v' w3 hown3 hgrow3 _
        have hown4 : w3.ownsRow (w.heap.size + 1) 42 2 v' (out ++ [x]).length ((out ++ [x]).flatMap enD) := by rw [List.length_append, List.flatMap_append, List.flatMap_singleton]; exact hown3
        rw [HP2.out] at hown4
        have HL := Lib.hid (Lst.of_owns enD_len (by omega) hown4)
        have hbl3 : Below (w.heap.size + 1) W0 w3 := (hbl.alloc (by omega) _).grown hgrow3 (by simp; omega) (fun k hk => (World.ownsRow.lt hown.out k hk).1)
        clear hown3 hown4 hgrow3
        go_wp2
        go_ret
        exact ⟨_, rfl, HL.out, hwb hbl3⟩
      · have hp2 : out = setF l x := by have := HP.out; simpa [setG] using this
        have hown4 := hown.out
        rw [hp2] at hown4
        have HL := Lib.hid (Lst.of_owns enD_len (by omega) hown4)
        clear hp2 hown4
        go_wp2
        go_ret
        exact ⟨_, rfl, HL.out, hwb hbl⟩
end Go.Proofs.Ytihfcohebgemdaa.Vec
