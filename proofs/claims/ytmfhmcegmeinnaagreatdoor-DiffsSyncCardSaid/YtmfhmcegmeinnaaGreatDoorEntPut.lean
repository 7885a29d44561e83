/- The walks of rows of entries (layer 36): the law's less, put, row. -/
import Derived.Test.YtmfhmcegmeinnaaGreatDoorEntRows
set_option linter.unusedSimpArgs false
set_option linter.unusedVariables false
namespace Go.Proofs.YtmfhmcegmeinnaaGreatDoor.Diffs
open Go.RowKit Go.Proofs.YtmfhmcegmeinnaaGreatDoor.Cmp

def lessF (a b : List Ent) (q : Bool) : List Ent := a.filter fun x => hasE b x == q
def putG (e : Ent) : Bool → List Ent → List Ent
  | inn, [] => if inn then [] else [e]
  | inn, x :: t => (if !inn && decide (entC e x ≤ 0) then [e] else []) ++ ((if eqE x e then [] else [x]) ++ putG e (inn || (!inn && decide (entC e x ≤ 0))) t)
def putF (l : List Ent) (e : Ent) : List Ent := putG e false l
def rowF (l : List Ent) : List Ent := l.foldl putF []
theorem putG_len (e : Ent) (l : List Ent) : ∀ inn, (putG e inn l).length ≤ l.length + 1 ∧ (inn = true → (putG e inn l).length ≤ l.length) := by
  induction l with
  | nil => intro inn; cases inn <;> simp [putG]
  | cons x t ih =>
    intro inn
    have h1 := ih true
    have h2 := ih false
    cases inn
    · cases hc : decide (entC e x ≤ 0)
      · refine ⟨?_, by simp⟩
        simp only [putG, hc, Bool.not_false, Bool.and_self, Bool.and_false, Bool.or_false, Bool.false_eq_true, if_false, List.nil_append, List.length_append, List.length_cons]
        split <;> simp <;> omega
      · refine ⟨?_, by simp⟩
        have h3 := h1.2 rfl
        simp only [putG, hc, Bool.not_false, Bool.and_self, Bool.or_true, if_true, List.length_append, List.length_cons, List.length_nil]
        split <;> simp <;> omega
    · have h3 := h1.2 rfl
      simp only [putG, Bool.not_true, Bool.false_and, Bool.or_false, Bool.false_eq_true, if_false, List.nil_append, List.length_append, List.length_cons]
      refine ⟨?_, fun _ => ?_⟩ <;> split <;> simp <;> omega
theorem putF_len (l : List Ent) (e : Ent) : (putF l e).length ≤ l.length + 1 := (putG_len e l false).1
theorem rowF_snoc (l : List Ent) (e : Ent) : rowF (l ++ [e]) = putF (rowF l) e := by simp [rowF]
theorem rowF_len (l : List Ent) : (rowF l).length ≤ l.length := by
  have : ∀ (acc : List Ent), (l.foldl putF acc).length ≤ acc.length + l.length := by
    induction l with
    | nil => intro acc; simp
    | cons x l ih => intro acc; have := ih (putF acc x); have := putF_len acc x; simp only [List.foldl_cons, List.length_cons]; omega
  have h := this []
  rw [List.length_nil, Nat.zero_add] at h
  exact h

theorem info_E : (Tryz.prog.info? 72).map (fun i => (i.zero, i.size, i.bytes)) = some (some (.agg #[.string ByteArray.empty, .int .i64 0, .int .i64 0, .int .i64 0]), 4, 40) := by kernel_rfl
theorem enE_len (e : Ent) : (enE e).length = 4 := rfl
theorem enE_one (e : Ent) : ∀ u ∈ enE e, u.oneCell' = true := by
  intro u hu
  simp only [enE, List.mem_cons, List.not_mem_nil, or_false] at hu
  rcases hu with rfl | rfl | rfl | rfl <;> rfl

/-- A row comes back, in memory that the call has made. -/
def RowPost (w : World) (l : List Ent) (e : Ending) (w' : World) : Prop := ∃ v, e = .returned v ∧ ERow w' v l ∧ Below w.heap.size w w'

set_option maxRecDepth 100000 in
set_option maxHeartbeats 4000000 in
theorem put_any (ao : Option Addr) (ac : Nat) (l : List Ent) (x : Ent) (w : World) (ha : ERow w (.slice ao l.length ac) l) (h1 : l.length ≤ 1000) :
    Calls Tryz.prog 76 #[.slice ao l.length ac, .agg #[.string x.k, .int .i64 x.p, .int .i64 x.l, .int .i64 x.h]] w (RowPost w (putF l x)) := by
  have HA := Lib.hid ha
  clear ha
  obtain ⟨i0, hi, hz0, hz1, hz2⟩ := info_parts info_E
  have HI := Lib.hid hi
  have HZ0 := Lib.hid hz0
  have HZ1 := Lib.hid hz1
  have HZ2 := Lib.hid hz2
  clear hi hz0 hz1 hz2
  go_enter Tryz.func76, Tryz.ntmps76
  go_wp2_with fail
  obtain ⟨W0, hW0⟩ : ∃ W0, W0 = w.alloc (.cells #[.string x.k, .int .i64 x.p, .int .i64 x.l, .int .i64 x.h] 72) := ⟨_, rfl⟩
  have e0 : W0.cell? ⟨w.heap.size, 0, none⟩ = some (.string x.k) := by rw [hW0]; go_simp
  have e1 : W0.cell? ⟨w.heap.size, 1, none⟩ = some (.int .i64 x.p) := by rw [hW0]; go_simp
  have e2 : W0.cell? ⟨w.heap.size, 2, none⟩ = some (.int .i64 x.l) := by rw [hW0]; go_simp
  have e3 : W0.cell? ⟨w.heap.size, 3, none⟩ = some (.int .i64 x.h) := by rw [hW0]; go_simp
  have hs0 : W0.heap.size = w.heap.size + 1 := by rw [hW0]; simp
  have hb0 : Below w.heap.size w W0 := by rw [hW0]; exact (Below.refl _ _).alloc (Nat.le_refl _) _
  have HA0 := Lib.hid (Lst.below HA.out hb0)
  rw [← hW0]
  have HS0 := Lib.hid hs0
  have HB0 := Lib.hid hb0
  have E := Lib.hid (And.intro e0 (And.intro e1 (And.intro e2 e3)))
  clear hW0 hs0 hb0 e0 e1 e2 e3
  go_loopw [5, 6, 7] (fun ov nv iv wr => ∃ (k : Nat) (inn : Bool) (out : List Ent), k ≤ l.length ∧ iv = .int .i64 k ∧ nv = .bool inn ∧ Hid (out ++ putG x inn (l.drop k) = putF l x) ∧ out.length ≤ 2 * k ∧ Hid (wr.ownsRow (w.heap.size + 1) 72 4 ov out.length (out.flatMap enE)) ∧ Below (w.heap.size + 1) W0 wr) (fun _ _ iv _ => l.length - (intOf iv).toNat)
  case atStart => exact ⟨0, false, [], by omega, rfl, rfl, Lib.hid (by simp [putF]), by simp, Lib.hid (World.ownsRow_nil _ _ _ _), Below.refl _ _⟩
  case round =>
    obtain ⟨k, inn, out, hk, rfl, rfl, hput, hol, hown, hbl⟩ := hrel
    have hsz : w.heap.size + 1 ≤ wr.heap.size := by have := hbl.size; have := HS0.out; omega
    by_cases hlt : k < l.length
    · have HA' := Lib.hid (Lst.below HA0.out (by rw [HS0.out]; exact hbl))
      obtain ⟨ab, aoff, rfl, hab, a0, a1, a2, a3⟩ := ERow.cells HA'.out hlt
      have hdl := List.drop_eq_getElem_cons hlt
      obtain ⟨y, hy⟩ : ∃ y, y = l[k] := ⟨_, rfl⟩
      rw [← hy] at a0 a1 a2 a3 hdl
      have hpl := hput.out
      rw [hdl] at hpl
      have HY := Lib.hid hy
      have HP := Lib.hid hpl
      clear hy hdl hpl hput
      have x0 := (hbl.cell (p := ⟨w.heap.size, 0, none⟩) (by simp)).trans E.out.1
      have x1 := (hbl.cell (p := ⟨w.heap.size, 1, none⟩) (by simp)).trans E.out.2.1
      have x2 := (hbl.cell (p := ⟨w.heap.size, 2, none⟩) (by simp)).trans E.out.2.2.1
      have x3 := (hbl.cell (p := ⟨w.heap.size, 3, none⟩) (by simp)).trans E.out.2.2.2
      have hs1 : w.heap.size < wr.heap.size := by omega
      go_upto_region 6 with fail
      go_cut [24] (fun c wx => c = .bool (!inn && decide (entC x y ≤ 0)) ∧ Below wr.heap.size wr wx)
      case first =>
        cases inn
        · refine wp_region_calm (by kernel_rfl) (by kernel_rfl) ?_
          repeat (go_big_quiet_step (first | (go_at_call 138; exact calm (lawcompare_any _ _ _))))
          refine wpQuiet_nil ?_
          rintro _ ⟨z, rfl⟩
          go_wp2_with fail
          go_meet
          exact ⟨by simp, z.below⟩
        · refine wp_region_calm (by kernel_rfl) (by kernel_rfl) ?_
          repeat (go_big_quiet_step (first | (go_at_call 138; exact calm (lawcompare_any _ _ _))))
          refine wpQuiet_nil ?_
          rintro _ ⟨z, rfl⟩
          go_wp2_with fail
          go_meet
          exact ⟨by simp, z.below⟩
      case rest =>
        obtain ⟨rfl, hbx⟩ := hcut
        have HO := Lib.hid (World.ownsRow.kept hown.out (row := none) ⟨hbx.os, hbx.tape, hbx.output, hbx.size, fun i hi _ => hbx.block i hi⟩ (by cases u5.ownBlock <;> simp))
        have hb2 := below_then hbl (Nat.le_of_eq HS0.out.symm) hbx
        have y0 := (hbx.cell (p := ⟨w.heap.size, 0, none⟩) (by simp; omega)).trans x0
        have y1 := (hbx.cell (p := ⟨w.heap.size, 1, none⟩) (by simp; omega)).trans x1
        have y2 := (hbx.cell (p := ⟨w.heap.size, 2, none⟩) (by simp; omega)).trans x2
        have y3 := (hbx.cell (p := ⟨w.heap.size, 3, none⟩) (by simp; omega)).trans x3
        have hsz2 := hbx.size
        clear x0 x1 x2 x3 a0 a1 a2 a3 hab hown hbl
        go_upto_if 24 with fail
        go_cut [5, 6] (fun ov nv wx => ∃ inn' out', nv = .bool inn' ∧ Hid (out' ++ ((if eqE y x then [] else [y]) ++ putG x inn' (l.drop (k + 1))) = putF l x) ∧ out'.length ≤ 2 * k + 1 ∧ Hid (wx.ownsRow (w.heap.size + 1) 72 4 ov out'.length (out'.flatMap enE)) ∧ Below (w.heap.size + 1) W0 wx)
        case first =>
          cases hc : (!inn && decide (entC x y ≤ 0))
          · go_wp2_with fail
            go_meet
            exact ⟨inn, out, rfl, by have := HP.out; simp only [putG, hc] at this; simpa using Lib.hid this, by omega, HO, hb2⟩
          · go_wp2_with (at_builtin; refine wpList_append_own _ rfl _ _ 65 rfl (w.heap.size + 1) 72 i0 (.agg #[.string ByteArray.empty, .int .i64 0, .int .i64 0, .int .i64 0]) 4 40 Tryz.underlying65 HI.out HZ0.out HZ1.out HZ2.out rfl (by decide) _ _ _ rfl (HO.out.alloc _) ⟨wc.heap.size, 0, none⟩ 1 1 (enE x) rfl rfl ?c1 ?c2 ?c3 ?c4 ?c5 ?_)
            case c1 => exact new_cells _ (enE x) _
            case c2 => exact enE_one x
            case c3 => unfold maxLen; omega
            case c4 => omega
            case c5 => simp; omega
            intro v' w3 hown3 hgrow3 _
            have R := Lib.hid hown3
            have hbl3 : Below (w.heap.size + 1) W0 w3 := (hb2.alloc (by omega) _).grown hgrow3 (by simp; omega) (fun k hk => (World.ownsRow.lt HO.out k hk).1)
            clear hown3 hgrow3
            go_wp2
            go_meet
            have h5 : inn = false := by cases inn <;> simp_all
            exact ⟨true, out ++ [x], rfl, Lib.hid (by have := HP.out; simp only [putG, hc] at this; rw [h5] at this; simpa using this), by simp; omega, by rw [List.length_append, List.flatMap_append, List.flatMap_singleton]; exact R, hbl3⟩
        case rest =>
          obtain ⟨inn', out', rfl, hpl, hol', hown', hb3⟩ := hcut
          have HA3 := Lib.hid (Lst.below HA0.out (by rw [HS0.out]; exact hb3))
          obtain ⟨ab', aoff', hae, hab, a0, a1, a2, a3⟩ := ERow.cells HA3.out hlt
          cases hae
          rw [← HY.out] at a0 a1 a2 a3
          have x0 := (hb3.cell (p := ⟨w.heap.size, 0, none⟩) (by simp)).trans E.out.1
          have x1 := (hb3.cell (p := ⟨w.heap.size, 1, none⟩) (by simp)).trans E.out.2.1
          have x2 := (hb3.cell (p := ⟨w.heap.size, 2, none⟩) (by simp)).trans E.out.2.2.1
          have x3 := (hb3.cell (p := ⟨w.heap.size, 3, none⟩) (by simp)).trans E.out.2.2.2
          have hs3 := hb3.size
          have hs4 : w.heap.size < wc.heap.size := by have := HS0.out; omega
          cases hqq : eqE y x
          · have HQ := Lib.hid hqq
            have hn := neq_run y x _ hqq
            have HOd : ∀ q, Hid ((wc.drewN q).ownsRow (w.heap.size + 1) 72 4 u5 out'.length (out'.flatMap enE)) := fun q => hown'
            have hg := guard_run .neq
            clear hqq
            go_wp2_with fail
            go_quiet (fail)
            go_wp2_with (at_builtin; refine wpList_append_own _ rfl _ _ 65 rfl (w.heap.size + 1) 72 i0 (.agg #[.string ByteArray.empty, .int .i64 0, .int .i64 0, .int .i64 0]) 4 40 Tryz.underlying65 HI.out HZ0.out HZ1.out HZ2.out rfl (by decide) _ _ _ rfl ((HOd _).out.alloc _) ⟨_, 0, none⟩ 1 1 (enE y) rfl rfl ?d1 ?d2 ?d3 ?d4 ?d5 ?_)
            case d1 => exact new_cells _ (enE y) _
            case d2 => exact enE_one y
            case d3 => unfold maxLen; omega
            case d4 => omega
            case d5 => simp; omega
            intro v' w3 hown3 hgrow3 _
            have R := Lib.hid hown3
            have hbl3 : Below (w.heap.size + 1) W0 w3 := ((below_drewN hb3 _).alloc (by simp; omega) _).grown hgrow3 (by simp; omega) (fun k hk => (World.ownsRow.lt hown'.out k hk).1)
            clear hown3 hgrow3
            go_wp2
            go_roundw
            case rel => exact ⟨k + 1, inn', out' ++ [y], by omega, by go_num, rfl, Lib.hid (by have := hpl.out; simpa [HQ.out] using this), by simp; omega, by rw [List.length_append, List.flatMap_append, List.flatMap_singleton]; exact R, hbl3⟩
            case measure => simp [intOf]; omega
          · have HQ := Lib.hid hqq
            have hn := neq_run y x _ hqq
            have hg := guard_run .neq
            clear hqq
            go_wp2_with fail
            go_quiet (fail)
            go_wp2_with fail
            go_roundw
            case rel => exact ⟨k + 1, inn', out', by omega, by go_num, rfl, Lib.hid (by have := hpl.out; simpa only [HQ.out, if_true, List.nil_append] using this), by omega, hown', below_drewN hb3 _⟩
            case measure => simp [intOf]; omega
    · obtain rfl : k = l.length := by omega
      have hpl := hput.out
      rw [List.drop_length] at hpl
      have HP := Lib.hid hpl
      clear hpl hput
      have x0 := (hbl.cell (p := ⟨w.heap.size, 0, none⟩) (by simp)).trans E.out.1
      have x1 := (hbl.cell (p := ⟨w.heap.size, 1, none⟩) (by simp)).trans E.out.2.1
      have x2 := (hbl.cell (p := ⟨w.heap.size, 2, none⟩) (by simp)).trans E.out.2.2.1
      have x3 := (hbl.cell (p := ⟨w.heap.size, 3, none⟩) (by simp)).trans E.out.2.2.2
      have hs1 : w.heap.size < wr.heap.size := by omega
      have hwb : ∀ {u : World}, Below (w.heap.size + 1) W0 u → Below w.heap.size w u := fun h => HB0.out.trans (h.mono (by omega))
      cases inn
      · have hp2 : out ++ [x] = putF l x := by have := HP.out; simpa [putG] using this
        have HP2 := Lib.hid hp2
        clear hp2
        go_wp2_with (at_builtin; refine wpList_append_own _ rfl _ _ 65 rfl (w.heap.size + 1) 72 i0 (.agg #[.string ByteArray.empty, .int .i64 0, .int .i64 0, .int .i64 0]) 4 40 Tryz.underlying65 HI.out HZ0.out HZ1.out HZ2.out rfl (by decide) _ _ _ rfl (hown.out.alloc _) ⟨_, 0, none⟩ 1 1 (enE x) rfl rfl ?e1 ?e2 ?e3 ?e4 ?e5 ?_)
        case e1 => exact new_cells _ (enE x) _
        case e2 => exact enE_one x
        case e3 => unfold maxLen; omega
        case e4 => omega
        case e5 => simp; omega
        intro v' w3 hown3 hgrow3 _
        have hown4 : w3.ownsRow (w.heap.size + 1) 72 4 v' (out ++ [x]).length ((out ++ [x]).flatMap enE) := by rw [List.length_append, List.flatMap_append, List.flatMap_singleton]; exact hown3
        rw [HP2.out] at hown4
        have HL := Lib.hid (Lst.of_owns enE_len (by omega) hown4)
        have hbl3 : Below (w.heap.size + 1) W0 w3 := (hbl.alloc (by omega) _).grown hgrow3 (by simp; omega) (fun k hk => (World.ownsRow.lt hown.out k hk).1)
        clear hown3 hown4 hgrow3
        go_wp2
        go_ret
        exact ⟨_, rfl, HL.out, hwb hbl3⟩
      · have hp2 : out = putF l x := by have := HP.out; simpa [putG] using this
        have hown4 := hown.out
        rw [hp2] at hown4
        have HL := Lib.hid (Lst.of_owns enE_len (by omega) hown4)
        clear hp2 hown4
        go_wp2
        go_ret
        exact ⟨_, rfl, HL.out, hwb hbl⟩
end Go.Proofs.YtmfhmcegmeinnaaGreatDoor.Diffs
