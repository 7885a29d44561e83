/- The walk of Order (layer 43): what it hands back goes through the order. -/
import Derived.Test.YtehcndjpckolmaaPickStable2
import Derived.Test.YtehcndjpckolmaaRange
namespace Go.Proofs.Ytehcndjpckolmaa.Pick
open Go.RowKit Go.Proofs.Ytehcndjpckolmaa.Ints Go.Proofs.Ytehcndjpckolmaa.Sort

/-- A function value that goes through a row: it has captured a box of it. -/
def OrdPost (w : World) (l : List Int) (e : Ending) (w' : World) : Prop :=
  ∃ Bx v, e = .returned (.func (.func 91) #[] #[.pointer (some ⟨Bx, 0, none⟩)]) ∧ w.heap.size ≤ Bx ∧ Bx < w'.heap.size ∧ w'.cell? ⟨Bx, 0, none⟩ = some v ∧ IRow w' v l ∧ (∀ a n c, v = .slice (some a) n c → w.heap.size ≤ a.block) ∧ Below w.heap.size w w'

theorem rowF_of_owns {W : World} {base g cap n : Nat} {l : List Int} (h : W.ownsRow base 3 1 (.slice (some ⟨g, 0, none⟩) n cap) n (l.flatMap enI)) (hl : l.length = n) :
    ∃ G, RowF W g cap n (fun k => l.getD k 0) G ∧ base ≤ g ∧ n ≤ cap ∧ cap ≤ maxLen := by
  rcases h.2 with ⟨h0, _⟩ | ⟨g', cap', cur, hv, hb, hh, h1, h2, h3, h4⟩
  · cases h0
  · cases hv
    refine ⟨fun k => cur.getD k undef, ⟨cur, hh, by rw [h3, Nat.mul_one], fun i hi => ?_⟩, hb, h1, h2⟩
    by_cases hk : i < n
    · simp only [hk, if_true]
      have e : (cur.toList.take (n * 1))[i]? = cur[i]? := by rw [List.getElem?_take]; simp [hk]
      rw [← e, h4, flat_enI, List.getElem?_map]
      simp [hl, hk]
    · simp only [hk, if_false]
      have : i < cur.size := by rw [h3]; omega
      simp [this]

theorem row_of_rowF {W : World} {g cap n : Nat} {f : Nat → Int} {G : Nat → Value} (h : RowF W g cap n f G) (hn : n ≤ cap) (hc : cap ≤ maxLen) : IRow W (.slice (some ⟨g, 0, none⟩) n cap) ((List.range n).map f) := by
  refine ⟨_, cap, by simp, by simpa using hn, hc, Or.inr ⟨g, 0, rfl, World.rowIs.lt h, fun i x hi j hj => ?_⟩⟩
  obtain rfl : j = 0 := by omega
  have hlt : i < n := by
    have := (List.getElem?_eq_some_iff.1 hi).1
    simpa using this
  rw [Nat.zero_add, Nat.mul_one, Nat.add_zero, h.cell hlt (by omega)]
  have e : f i = x := by simpa [hlt] using hi
  rw [e]; rfl

set_option maxRecDepth 100000 in
set_option maxHeartbeats 4000000 in
theorem ord_any (ao : Option Addr) (ac : Nat) (l : List Need) (now : Int) (w : World) (ha : NRow w (.slice ao l.length ac) l) (hl : l.length < 40) :
    Calls Try.prog 70 #[.int .i64 now, .slice ao l.length ac] w (OrdPost w (ordF now l)) := by
  have HA := Lib.hid ha
  clear ha
  obtain ⟨i0, hi, hz0, hz1, hz2⟩ := info_parts info_I
  have HI := Lib.hid hi
  have HZ0 := Lib.hid hz0
  have HZ1 := Lib.hid hz1
  have HZ2 := Lib.hid hz2
  clear hi hz0 hz1 hz2
  go_enter Try.func70, Try.ntmps70
  go_wp2_with fail
  obtain ⟨W1, hW1⟩ : ∃ W1, W1 = (w.alloc (.cells #[.int .i64 now] 3)).alloc (.cells #[.slice ao l.length ac] 35) := ⟨_, rfl⟩
  have hC : Cap (w.heap.size + 1 + 1) W1 ao ac l now (w.heap.size + 1) w.heap.size := by
    rw [hW1]
    refine ⟨by go_simp, by go_simp, (HA.out.alloc _).alloc _, by omega, by omega, fun h0 b off e => ?_, by simp⟩
    obtain ⟨ao', cap', hv, h1, h2, h3⟩ := HA.out
    cases hv
    rcases h3 with h3 | ⟨b', off', hA, hlt, _⟩
    · omega
    · rw [e] at hA; cases hA; omega
  have hs1 : W1.heap.size = w.heap.size + 1 + 1 := by rw [hW1]; simp
  have hb1 : Below w.heap.size w W1 := by rw [hW1]; exact ((Below.refl _ _).alloc (Nat.le_refl _) _).alloc (by simp) _
  obtain ⟨W2, hW2⟩ : ∃ W2, W2 = (W1.alloc (.cells #[] 3)).alloc (.cells #[.slice (some ⟨w.heap.size + 1 + 1, 0, none⟩) 0 0] 40) := ⟨_, rfl⟩
  have hb2 : Below (w.heap.size + 1 + 1) W1 W2 := by rw [hW2]; exact ((Below.refl _ _).alloc (by omega) _).alloc (by simp; omega) _
  have hbx : Boxed W2 (w.heap.size + 1 + 1 + 1) 40 (.slice (some ⟨w.heap.size + 1 + 1, 0, none⟩) 0 0) := by
    have := Boxed.new (W1.alloc (.cells #[] 3)) 40 (.slice (some ⟨w.heap.size + 1 + 1, 0, none⟩) 0 0)
    rw [World.size_alloc, hs1] at this
    rw [hW2]; exact this
  have hro : W2.ownsRow (w.heap.size + 1 + 1) 3 1 (.slice (some ⟨w.heap.size + 1 + 1, 0, none⟩) 0 0) 0 [] := by
    have := (World.ownsRow_made (base := w.heap.size + 1 + 1) (e := 3) (size := 1) W1 #[] 0 (by omega) (by decide) rfl)
    rw [hs1] at this
    rw [hW2]; exact this.alloc _
  rw [← hW1, ← hW2]
  have HC := Lib.hid hC
  have HB1 := Lib.hid hb1
  have HS1 := Lib.hid hs1
  clear hW1 hW2 hC hb1 hs1
  go_loopw [11] (fun iv wr => ∃ (k g cap : Nat), k ≤ l.length ∧ iv = .int .i64 k ∧ Hid (Boxed wr (w.heap.size + 1 + 1 + 1) 40 (.slice (some ⟨g, 0, none⟩) (wantsK now l k).length cap) ∧ wr.ownsRow (w.heap.size + 1 + 1) 3 1 (.slice (some ⟨g, 0, none⟩) (wantsK now l k).length cap) (wantsK now l k).length ((wantsK now l k).flatMap enI)) ∧ Below (w.heap.size + 1 + 1) W1 wr) (fun iv _ => l.length - (intOf iv).toNat)
  case atStart => exact ⟨0, _, _, by omega, rfl, Lib.hid ⟨hbx, hro⟩, hb2⟩
  case round =>
    obtain ⟨k, g, cap, hk, rfl, hr, hbl⟩ := hrel
    have hsz : w.heap.size + 1 + 1 ≤ wr.heap.size := by have := hbl.size; have := HS1.out; omega
    have HCr := Lib.hid (HC.out.below hbl)
    clear hbx hro hb2
    by_cases hlt : k < l.length
    · have hx := nd_get l (k : Int) (by omega) (by omega)
      rw [Int.toNat_natCast] at hx
      obtain ⟨xb, xoff, rfl, hxb, x0, x1, x2⟩ := need_at HCr.out.row hx
      have hy := wantsK_yes now l k
      have hno := wantsK_no now l k
      have hwl := wantsK_len now l k
      generalize nd l (k : Int) = x at *
      have HY := Lib.hid hy
      have HN := Lib.hid hno
      have cn := HCr.out.cn
      have hH : w.heap.size < wr.heap.size := by omega
      clear hy hno hx
      go_wp2_with fail
      refine (due_n x now _).mono ?_
      rintro e w' ⟨rfl, hb3⟩
      have z2 := (hb3.cell (p := ⟨wr.heap.size, 2, none⟩) (by simp)).trans (new_cells wr (enN x) 37 2 _ rfl)
      have hb4 : Below (w.heap.size + 1 + 1) W1 w' := below_then (hbl.alloc hsz _) (Nat.le_of_eq HS1.out.symm) hb3
      have RB := Lib.hid (And.intro (box_below (hr.out.1.alloc _) hb3) (keep_row (hr.out.2.alloc _) hb3))
      have gc := RB.out.1.cell
      have gz : w.heap.size + 1 + 1 + 1 < w'.heap.size := RB.out.1.lt
      have hs3 : w.heap.size + 1 + 1 ≤ w'.heap.size := by omega
      clear hb3 hbl x0 x1 x2
      by_cases hd : 5 ≤ dueF x now
      · have hwb : wantB now x = true := by unfold wantB; rw [decide_eq_true hd]; rfl
        have HWB := Lib.hid hwb
        clear hwb
        go_wp2_with (at_builtin; refine wpList_append_own _ rfl _ _ 40 rfl (w.heap.size + 1 + 1) 3 i0 (.int .i64 0) 1 8 Try.underlying40 HI.out HZ0.out HZ1.out HZ2.out rfl (by decide) (.slice (some ⟨g, 0, none⟩) (wantsK now l k).length cap) _ _ rfl (RB.out.2.alloc _) ⟨_, 0, none⟩ 1 1 (enI k) rfl rfl ?c1 ?c2 ?c3 ?c4 ?c5 ?_)
        case c1 => exact new_cells _ (enI k) _
        case c2 => intro u hu; simp at hu; subst hu; rfl
        case c3 => unfold maxLen; omega
        case c4 => omega
        case c5 => simp; omega
        intro v' w3 hown3 hgrow3 _
        obtain ⟨g3, cap3, rfl⟩ := ownsRow_succ hown3
        obtain ⟨a1, a2, a3, a4, a5, a6⟩ := appended (n₀ := w.heap.size + 1 + 1) RB.out.1 (by decide) RB.out.2 (Nat.le_refl _) (by omega) (by omega) hown3 hgrow3
        have k1 := a1.cell
        have k2 := a1.frozen
        have A := Lib.hid (And.intro a2 (And.intro a3 a5))
        clear a1 a2 a3 a4 a5 a6 hown3 hgrow3
        have hyes := HY.out HWB.out
        have hlen : (wantsK now l (k + 1)).length = (wantsK now l k).length + 1 := by rw [hyes]; simp
        have HL := Lib.hid (And.intro hyes hlen)
        clear hyes hlen
        go_wp2
        go_roundw
        case rel => exact ⟨k + 1, g3, cap3, by omega, by go_num, by rw [HL.out.2, HL.out.1, List.flatMap_append, List.flatMap_singleton]; exact Lib.hid ⟨A.out.1, A.out.2.1⟩, hb4.trans A.out.2.2⟩
        case measure => simp [intOf]; omega
      · by_cases hw : 0 < x.waiting
        · have hwb : wantB now x = true := by unfold wantB; rw [decide_eq_true hw]; simp
          have hd' : dueF x now < 5 := by omega
          have HWB := Lib.hid hwb
          clear hwb
          go_wp2_with (at_builtin; refine wpList_append_own _ rfl _ _ 40 rfl (w.heap.size + 1 + 1) 3 i0 (.int .i64 0) 1 8 Try.underlying40 HI.out HZ0.out HZ1.out HZ2.out rfl (by decide) (.slice (some ⟨g, 0, none⟩) (wantsK now l k).length cap) _ _ rfl (RB.out.2.alloc _) ⟨_, 0, none⟩ 1 1 (enI k) rfl rfl ?d1 ?d2 ?d3 ?d4 ?d5 ?_)
          case d1 => exact new_cells _ (enI k) _
          case d2 => intro u hu; simp at hu; subst hu; rfl
          case d3 => unfold maxLen; omega
          case d4 => omega
          case d5 => simp; omega
          intro v' w3 hown3 hgrow3 _
          obtain ⟨g3, cap3, rfl⟩ := ownsRow_succ hown3
          obtain ⟨a1, a2, a3, a4, a5, a6⟩ := appended (n₀ := w.heap.size + 1 + 1) RB.out.1 (by decide) RB.out.2 (Nat.le_refl _) (by omega) (by omega) hown3 hgrow3
          have k1 := a1.cell
          have k2 := a1.frozen
          have A := Lib.hid (And.intro a2 (And.intro a3 a5))
          clear a1 a2 a3 a4 a5 a6 hown3 hgrow3
          have hyes := HY.out HWB.out
          have hlen : (wantsK now l (k + 1)).length = (wantsK now l k).length + 1 := by rw [hyes]; simp
          have HL := Lib.hid (And.intro hyes hlen)
          clear hyes hlen
          go_wp2
          go_roundw
          case rel => exact ⟨k + 1, g3, cap3, by omega, by go_num, by rw [HL.out.2, HL.out.1, List.flatMap_append, List.flatMap_singleton]; exact Lib.hid ⟨A.out.1, A.out.2.1⟩, hb4.trans A.out.2.2⟩
          case measure => simp [intOf]; omega
        · have hwb : wantB now x = false := by unfold wantB; rw [decide_eq_false hw, decide_eq_false hd]; rfl
          have hd' : dueF x now < 5 := by omega
          have hw' : x.waiting ≤ 0 := by omega
          have hno := HN.out hwb
          have HL := Lib.hid hno
          clear hwb hno
          go_wp2_with fail
          go_roundw
          case rel => exact ⟨k + 1, g, cap, by omega, by go_num, by rw [HL.out]; exact RB, hb4⟩
          case measure => simp [intOf]; omega
    · obtain rfl : k = l.length := by omega
      have hall := wantsK_all now l
      rw [hall] at hr
      have hwl := wants_len now l
      obtain ⟨G, hF, hg, hn, hcap⟩ := rowF_of_owns hr.out.2 rfl
      have hSt : St wr wr g cap (wants now l).length (fun k => (wants now l).getD k 0) G l.length := by
        refine ⟨hF, ⟨rfl, rfl, rfl, Nat.le_refl _, fun _ _ _ => rfl⟩, fun k hk => ?_⟩
        have hm : (wants now l)[k] ∈ wants now l := List.getElem_mem hk
        have := mem_wants.1 hm
        simp only [List.getD_eq_getElem?_getD, List.getElem?_eq_getElem hk, Option.getD_some]
        exact ⟨this.1, this.2.1⟩
      have gc := hr.out.1.cell
      have hne : (some (w.heap.size + 1 + 1 + 1) : Option Nat) ≠ some g := hr.out.1.not_row (by decide) hr.out.2
      have HST := Lib.hid hSt
      have HNE := Lib.hid hne
      have HG := Lib.hid hg
      have HCAP := Lib.hid hcap
      have HSZ := Lib.hid hsz
      clear hSt hne hall hF hg hcap hsz
      go_wp2_with fail
      refine (sort_any (w.heap.size + 1 + 1) wr g cap (wants now l).length _ G ao ac l now (w.heap.size + 1) w.heap.size HCr.out HG.out hn (by omega) (by omega) (wants_getD_lt now l) _ HST.out).mono ?_
      rintro e w3 ⟨rfl, f', hS3, hO3, hM3⟩
      have hbl3 : Below (w.heap.size + 1 + 1) W1 w3 := hbl.trans (hS3.bl HG.out HSZ.out)
      have hrow := row_of_rowF hS3.row hn HCAP.out
      rw [ordF_row rfl (fun p q h1 h2 => hO3 p q (Nat.zero_le _) h1 h2) (fun v => ⟨fun ⟨k, h1, h2⟩ => by obtain ⟨k', q1, q2, q3⟩ := (hM3.1 v).2 ⟨k, Nat.zero_le _, h1, h2⟩; exact ⟨k', q2, q3⟩, fun ⟨k, h1, h2⟩ => by obtain ⟨k', q1, q2, q3⟩ := (hM3.1 v).1 ⟨k, Nat.zero_le _, h1, h2⟩; exact ⟨k', q2, q3⟩⟩)] at hrow
      have hbx3 : Boxed w3 (w.heap.size + 1 + 1 + 1) 40 (.slice (some ⟨g, 0, none⟩) (wants now l).length cap) := hr.out.1.kept hS3.gr HNE.out
      have hend : OrdPost w (ordF now l) (.returned (.func (.func 91) #[] #[.pointer (some ⟨w.heap.size + 1 + 1 + 1, 0, none⟩)])) w3 :=
        ⟨_, _, rfl, by omega, hbx3.lt, hbx3.cell, hrow, (fun a n c e => by cases e; have := HG.out; show w.heap.size ≤ g; omega), HB1.out.trans (hbl3.mono (by omega))⟩
      have HE := Lib.hid hend
      clear hS3 hO3 hM3 hbl3 hrow hbx3 hend
      go_wp2_with fail
      go_ret
      exact HE.out
end Go.Proofs.Ytehcndjpckolmaa.Pick
