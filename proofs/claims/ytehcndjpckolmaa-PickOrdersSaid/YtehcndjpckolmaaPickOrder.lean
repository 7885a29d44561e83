/- The walk of the law's order (layer 43): the places, one by one the greatest of those that are left. -/
import Derived.Test.YtehcndjpckolmaaPickWalks
namespace Go.Proofs.Ytehcndjpckolmaa.Pick
open Go.RowKit Go.Proofs.Ytehcndjpckolmaa.Ints

theorem due_n (x : Need) (now : Int) (w : World) : Calls Try.prog 21 #[vN x, .int .i64 now] w fun e w' => e = .returned (.int .i64 (dueF x now)) ∧ Below w.heap.size w w' := due_any x.last x.waste x.waiting now w
theorem score_n (x : Need) (now : Int) (w : World) : Calls Try.prog 23 #[vN x, .int .i64 now] w fun e w' => e = .returned (.int .i64 (scoreF x now)) ∧ Below w.heap.size w w' := score_any x.last x.waste x.waiting now w
theorem lawdue_n (x : Need) (now : Int) (w : World) : Calls Try.prog 22 #[vN x, .int .i64 now] w fun e w' => e = .returned (.int .i64 (dueF x now)) ∧ Below w.heap.size w w' := lawdue_any x.last x.waste x.waiting now w
theorem lawscore_n (x : Need) (now : Int) (w : World) : Calls Try.prog 24 #[vN x, .int .i64 now] w fun e w' => e = .returned (.int .i64 (scoreF x now)) ∧ Below w.heap.size w w' := lawscore_any x.last x.waste x.waiting now w

theorem need_at {w : World} {ao : Option Addr} {n cap : Nat} {l : List Need} {k : Nat} {x : Need} (h : NRow w (.slice ao n cap) l) (hk : l[k]? = some x) :
    ∃ b off, ao = some ⟨b, off, none⟩ ∧ b < w.heap.size ∧ w.cell? ⟨b, off + k * 3, none⟩ = some (.int .i64 x.last) ∧ w.cell? ⟨b, off + k * 3 + 1, none⟩ = some (.int .i64 x.waste) ∧ w.cell? ⟨b, off + k * 3 + 2, none⟩ = some (.int .i64 x.waiting) := by
  obtain ⟨hlt, he⟩ := List.getElem?_eq_some_iff.1 hk
  obtain ⟨b, off, ha, hb, hc⟩ := Lst.get h hlt
  rw [he] at hc
  exact ⟨b, off, ha, hb, hc 0 (by decide), hc 1 (by decide), hc 2 (by decide)⟩
theorem nd_get (l : List Need) (i : Int) (h0 : 0 ≤ i) (h1 : i < l.length) : l[i.toNat]? = some (nd l i) := by
  have : i.toNat < l.length := by omega
  simp [nd, this]

/-- A row of ints comes back, in memory that the call has made. -/
def IPost (w : World) (l : List Int) (e : Ending) (w' : World) : Prop := ∃ v, e = .returned v ∧ IRow w' v l ∧ Below w.heap.size w w' ∧ ∀ a n c, v = .slice (some a) n c → w.heap.size ≤ a.block
theorem own_fresh {W : World} {base : Nat} {e : TypeId} {size : Nat} {v : Value} {n : Nat} {xs : List Value} (h : W.ownsRow base e size v n xs) : ∀ a m c, v = .slice (some a) m c → base ≤ a.block := fun a m c hv => (World.ownsRow.lt h a.block (by rw [hv]; rfl)).1

theorem keep_row {w w' : World} {base : Nat} {e : TypeId} {size : Nat} {v : Value} {n : Nat} {xs : List Value} (h : w.ownsRow base e size v n xs) (hb : Below w.heap.size w w') : w'.ownsRow base e size v n xs :=
  World.ownsRow.kept h (row := none) ⟨hb.os, hb.tape, hb.output, hb.size, fun i hi _ => hb.block i hi⟩ (by cases v.ownBlock <;> simp)

set_option maxRecDepth 100000 in
set_option maxHeartbeats 4000000 in
theorem order_any (ao : Option Addr) (ac : Nat) (l : List Need) (now : Int) (w : World) (ha : NRow w (.slice ao l.length ac) l) (h1 : l.length ≤ 1000) :
    Calls Try.prog 25 #[.int .i64 now, .slice ao l.length ac] w (IPost w (ordF now l)) := by
  have HA := Lib.hid ha
  clear ha
  have hol : (ordF now l).length ≤ l.length := by rw [ordF_len]; exact wants_len now l
  obtain ⟨i0, hi, hz0, hz1, hz2⟩ := info_parts info_I
  have HI := Lib.hid hi
  have HZ0 := Lib.hid hz0
  have HZ1 := Lib.hid hz1
  have HZ2 := Lib.hid hz2
  clear hi hz0 hz1 hz2
  go_enter Try.func25, Try.ntmps25
  go_wp2_with fail
  go_loopw [5] (fun ov wr => ∃ (k : Nat) (oo : Option Addr) (oc : Nat), k ≤ (ordF now l).length ∧ ov = .slice oo k oc ∧ Hid (wr.ownsRow w.heap.size 3 1 ov k (((ordF now l).take k).flatMap enI)) ∧ Below w.heap.size w wr) (fun ov _ => (ordF now l).length - (match ov with | .slice _ n _ => n | _ => 0))
  case atStart => exact ⟨0, none, 0, by omega, rfl, Lib.hid (World.ownsRow_nil _ _ _ _), Below.refl _ _⟩
  case round =>
    obtain ⟨k, oo, oc, hk, rfl, hown, hbl⟩ := hrel
    have hsz := hbl.size
    have hlen : ((ordF now l).take k).length = k := by rw [List.length_take]; omega
    have hrow : IRow wr (.slice oo k oc) ((ordF now l).take k) := Lst.of_owns enI_len (by decide) (base := w.heap.size) (e := 3) (by rw [hlen]; exact hown.out)
    have HROW := Lib.hid hrow
    have HLEN := Lib.hid hlen
    clear hrow hlen
    obtain ⟨W0, rfl⟩ : ∃ W0 : World, W0 = wr := ⟨_, rfl⟩
    have hk2 : k ≤ l.length := by omega
    go_wp2_with fail
    go_loopw [6, 7] (fun bv iv wr => ∃ i : Nat, i ≤ l.length ∧ iv = .int .i64 i ∧ bv = .int .i64 (bestF now l ((ordF now l).take k) i) ∧ Below W0.heap.size W0 wr) (fun _ iv _ => l.length - (intOf iv).toNat)
    case atStart => exact ⟨0, by omega, rfl, rfl, Below.refl _ _⟩
    case round =>
      obtain ⟨i, hi, rfl, rfl, hb0⟩ := hrel
      obtain ⟨bd1, bd2⟩ := bestF_bd now l ((ordF now l).take k) i
      by_cases hlt : i < l.length
      · have HAr := Lib.hid (Lst.below HA.out (below_then hbl (Nat.le_refl _) hb0))
        have HRr := Lib.hid (Lst.below HROW.out hb0)
        have hx := nd_get l (i : Int) (by omega) (by omega)
        rw [Int.toNat_natCast] at hx
        obtain ⟨xb, xoff, rfl, hxb, x0, x1, x2⟩ := need_at HAr.out hx
        obtain ⟨x, hxe⟩ : ∃ x, x = nd l (i : Int) := ⟨_, rfl⟩
        rw [← hxe] at x0 x1 x2
        obtain ⟨C, hC⟩ : ∃ C, C = cand now l ((ordF now l).take k) i := ⟨_, rfl⟩
        have hCd : C = (!hasI ((ordF now l).take k) i && (decide (5 ≤ dueF x now) || decide (0 < x.waiting))) := by rw [hC, hxe]; rfl
        have HC := Lib.hid hC
        have HCD := Lib.hid hCd
        have HXE := Lib.hid hxe
        clear hC hCd hxe hx
        obtain ⟨W1, rfl⟩ : ∃ W1 : World, W1 = wr := ⟨_, rfl⟩
        go_upto_region 7 with fail
        go_cut [38] (fun c wx => c = .bool (!C) ∧ Below W1.heap.size W1 wx)
        case first =>
          cases hh : hasI ((ordF now l).take k) i
          · have HH := Lib.hid hh
            have hcl := contains_lit false oo oc ((ordF now l).take k) i W1 hh (by rw [HLEN.out]; exact HRr.out) (by rw [HLEN.out]; omega)
            rw [HLEN.out] at hcl
            have HCL := Lib.hid hcl
            clear hh hcl
            by_cases hd : 5 ≤ dueF x now
            · have HD := Lib.hid (decide_eq_true hd)
              go_wp2_with (first | (go_at_call 31; refine HCL.out.mono ?_; rintro e w' ⟨rfl, rfl⟩) | (go_at_call 22; refine (lawdue_n x now _).mono ?_; rintro e w' ⟨rfl, hb1⟩))
              go_meet
              exact ⟨by rw [HCD.out, HH.out, HD.out]; rfl, hb1⟩
            · have hd' : dueF x now < 5 := by omega
              have HD := Lib.hid (decide_eq_false hd)
              by_cases hw : 0 < x.waiting
              · have HW := Lib.hid (decide_eq_true hw)
                go_wp2_with fail
                refine HCL.out.mono ?_
                rintro e w' ⟨rfl, rfl⟩
                go_wp2_with fail
                refine (lawdue_n x now _).mono ?_
                rintro e w' ⟨rfl, hb1⟩
                have z2 := (hb1.cell (p := ⟨xb, xoff + i * 3 + 2, none⟩) hxb).trans x2
                go_wp2_with fail
                go_meet
                exact ⟨by rw [HCD.out, HH.out, HW.out]; simp; omega, hb1⟩
              · have HW := Lib.hid (decide_eq_false hw)
                have hw' : x.waiting ≤ 0 := by omega
                go_wp2_with fail
                refine HCL.out.mono ?_
                rintro e w' ⟨rfl, rfl⟩
                go_wp2_with fail
                refine (lawdue_n x now _).mono ?_
                rintro e w' ⟨rfl, hb1⟩
                have z2 := (hb1.cell (p := ⟨xb, xoff + i * 3 + 2, none⟩) hxb).trans x2
                go_wp2_with fail
                go_meet
                exact ⟨by rw [HCD.out, HH.out, HW.out, HD.out]; rfl, hb1⟩
          · have HH := Lib.hid hh
            have hcl := contains_lit true oo oc ((ordF now l).take k) i W1 hh (by rw [HLEN.out]; exact HRr.out) (by rw [HLEN.out]; omega)
            rw [HLEN.out] at hcl
            have HCL := Lib.hid hcl
            clear hh hcl
            go_wp2_with (go_at_call 31; refine HCL.out.mono ?_; rintro e w' ⟨rfl, rfl⟩)
            go_meet
            exact ⟨by rw [HCD.out, HH.out]; rfl, Below.refl _ _⟩
        case rest =>
          obtain ⟨rfl, hb1⟩ := hcut
          have hb01 := below_then hb0 (Nat.le_refl _) hb1
          obtain ⟨B, hB⟩ : ∃ B, B = bestF now l ((ordF now l).take k) i := ⟨_, rfl⟩
          rw [← hB] at bd1 bd2
          have hstep : bestF now l ((ordF now l).take k) (i + 1) = if C && (decide (B < 0) || decide (key now l B < key now l i)) then (i : Int) else B := by rw [HC.out, hB]; rfl
          have HB := Lib.hid hB
          have HSTEP := Lib.hid hstep
          rw [← hB]
          clear hB hstep
          cases C
          · go_wp2_with fail
            go_roundw
            case rel => exact ⟨i + 1, by omega, by go_num, by rw [HSTEP.out]; rfl, hb01⟩
            case measure => simp [intOf]; omega
          · by_cases hneg : B < 0
            · have hnegd : decide (B < 0) = true := decide_eq_true hneg
              go_wp2_with fail
              refine wp_region_calm (by kernel_rfl) (by kernel_rfl) ?_
              repeat (go_big_quiet_step (fail))
              refine wpQuiet_nil ?_
              rintro _ ⟨z, rfl⟩
              go_wp2_with fail
              go_roundw
              case rel => exact ⟨i + 1, by omega, by go_num, by rw [HSTEP.out, decide_eq_true hneg]; rfl, below_then hb01 (Nat.le_refl _) z.below⟩
              case measure => simp [intOf]; omega
            · have hnegd : decide (B < 0) = false := decide_eq_false hneg
              have hy := nd_get l B (by omega) (by omega)
              obtain ⟨yb, yoff, hye, hyb, y0, y1, y2⟩ := need_at (Lst.below HAr.out hb1) hy
              cases hye
              obtain ⟨m, rfl⟩ : ∃ m : Nat, B = (m : Int) := ⟨B.toNat, by omega⟩
              rw [Int.toNat_natCast] at y0 y1 y2
              have hxb' : xb < wc.heap.size := Nat.lt_of_lt_of_le hxb hb1.size
              have X0 := (hb1.cell (p := ⟨xb, xoff + i * 3, none⟩) hxb).trans x0
              have X1 := (hb1.cell (p := ⟨xb, xoff + i * 3 + 1, none⟩) hxb).trans x1
              have X2 := (hb1.cell (p := ⟨xb, xoff + i * 3 + 2, none⟩) hxb).trans x2
              have hk1 : key now l m = scoreF (nd l m) now := rfl
              have hk2 : key now l i = scoreF x now := by rw [HXE.out]; rfl
              rw [hk1, hk2] at HSTEP
              generalize nd l (m : Int) = y at *
              clear hk1 hk2 hy x0 x1 x2
              cases hcmp : decide (scoreF y now < scoreF x now)
              all_goals
                go_wp2_with fail
                refine wp_region_calm (by kernel_rfl) (by kernel_rfl) ?_
                repeat (go_big_quiet_step ((go_at_call 24; exact calm (lawscore_n _ _ _))))
                refine wpQuiet_nil ?_
                rintro _ ⟨z, rfl⟩
                go_wp2_with fail
                go_roundw
                case rel => exact ⟨i + 1, by omega, by go_num, by rw [HSTEP.out, hcmp, hnegd]; rfl, below_then hb01 (Nat.le_refl _) z.below⟩
                case measure => simp [intOf]; omega
      · obtain rfl : i = l.length := by omega
        have hbo := bestF_ord now l k
        by_cases hkk : k < (ordF now l).length
        · have hge : (ordF now l).getD k (-1) = (ordF now l)[k] := by simp [hkk]
          have hmem := mem_wants.1 (mem_ordF.1 (List.getElem_mem hkk))
          have htk := List.take_succ_eq_append_getElem hkk
          rw [hge] at hbo
          rw [hbo] at bd1 bd2 ⊢
          generalize (ordF now l)[k] = v at *
          have h0 := hmem.1
          have HTK := Lib.hid htk
          have HO := Lib.hid (keep_row hown.out hb0)
          have hbl2 := below_then hbl (Nat.le_refl _) hb0
          have hs2 := hbl2.size
          clear hbo hge hmem htk
          go_wp2_with (at_builtin; refine wpList_append_own _ rfl _ _ 40 rfl w.heap.size 3 i0 (.int .i64 0) 1 8 Try.underlying40 HI.out HZ0.out HZ1.out HZ2.out rfl (by decide) (.slice oo k oc) _ _ rfl (HO.out.alloc _) ⟨_, 0, none⟩ 1 1 (enI v) rfl rfl ?c1 ?c2 ?c3 ?c4 ?c5 ?_)
          case c1 => exact new_cells _ (enI v) _
          case c2 => intro u hu; simp at hu; subst hu; rfl
          case c3 => unfold maxLen; omega
          case c4 => omega
          case c5 => simp; omega
          intro v' w3 hown3 hgrow3 _
          have hbl3 : Below w.heap.size w w3 := (hbl2.alloc hs2 _).grown hgrow3 (by simp; omega) (fun k hk => (World.ownsRow.lt HO.out k hk).1)
          rcases hown3.2 with ⟨_, h00⟩ | ⟨gg, gc, cur, rfl, hrest⟩
          · omega
          have R := Lib.hid hown3
          clear hown3 hgrow3 hrest
          go_wp2
          go_roundw
          case rel => exact ⟨k + 1, _, _, by omega, rfl, by rw [HTK.out, List.flatMap_append, List.flatMap_singleton]; exact R, hbl3⟩
          case measure => show (ordF now l).length - (k + 1) < (ordF now l).length - k; omega
        · obtain rfl : k = (ordF now l).length := by omega
          have hge : (ordF now l).getD (ordF now l).length (-1) = -1 := by simp
          rw [hge] at hbo
          rw [hbo] at bd1 bd2 ⊢
          have HRr := Lib.hid (Lst.below HROW.out hb0)
          clear hbo hge
          go_wp2_with fail
          go_ret
          exact ⟨_, rfl, by have := HRr.out; rwa [List.take_length] at this, below_then hbl (Nat.le_refl _) hb0, own_fresh hown.out⟩
end Go.Proofs.Ytehcndjpckolmaa.Pick
