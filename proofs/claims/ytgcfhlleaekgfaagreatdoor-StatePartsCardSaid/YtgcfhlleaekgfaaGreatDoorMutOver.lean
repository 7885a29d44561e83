/- The walk of mut.over (layer 7): rising stamps, each ahead of the mutation's. -/
import Derived.Test.YtgcfhlleaekgfaaGreatDoorMutKeys
namespace Go.Proofs.YtgcfhlleaekgfaaGreatDoor.Mut
open Go.RowKit Go.Sort Go.Proofs.YtgcfhlleaekgfaaGreatDoor.Ord

def aheadB : Option Stp → Stp → Bool
  | none, _ => true
  | some p, s => decide (stC p s < 0)
def overFrom (t : Stp) : Option Stp → List Stp → Bool
  | _, [] => true
  | prev, s :: l => stR s && (decide (stC s t < 0) && (aheadB prev s && overFrom t (some s) l))
def overF (l : List Stp) (t : Stp) : Bool := overFrom t none l && decide (l.length ≤ 24)

set_option maxHeartbeats 8000000 in
set_option maxRecDepth 100000 in
theorem over_any (v : Value) (l : List Stp) (t : Stp) (w : World) (hv : SRow w v l) (hn : l.length ≤ 1000000) :
    Calls Tryz.prog 85 #[v, vS t] w fun e w' => e = .returned (.bool (overF l t)) ∧ Lays w w' := by
  obtain ⟨ao, ac, rfl, -, -⟩ := Lst.form hv
  have hR : overF l t = (overFrom t none l && decide (l.length ≤ 24)) := rfl
  obtain ⟨R, hRe⟩ : ∃ R, R = overF l t := ⟨_, rfl⟩
  rw [← hRe] at hR ⊢
  obtain ⟨n, hne⟩ : ∃ n, n = l.length := ⟨_, rfl⟩
  rw [← hne] at hv hn hR ⊢
  have HV := Lib.hid hv
  have HN := Lib.hid hne
  have HR := Lib.hid hR
  have HS := Lib.hid (fun (s : Stp) (W : World) => stright_any s W)
  have HL := Lib.hid (fun (a b : Stp) (W : World) => stless_any a b W)
  obtain ⟨tp, tl, tw⟩ := t
  clear hv hne hR hRe
  go_enter Tryz.func85, Tryz.ntmps85
  go_wp2_with fail
  have hl0 : Lays w (w.alloc (.cells #[.int .i64 tp, .int .i64 tl, .int .i64 tw] 26)) := (Lays.refl _).alloc _
  have hb0 := new_cells w [.int .i64 tp, .int .i64 tl, .int .i64 tw] 26
  have q0 := hb0 0 _ rfl
  have q1 := hb0 1 _ rfl
  have q2 := hb0 2 _ rfl
  have hsz : w.heap.size < (w.alloc (.cells #[.int .i64 tp, .int .i64 tl, .int .i64 tw] 26)).heap.size := by simp
  generalize (w.alloc (.cells #[.int .i64 tp, .int .i64 tl, .int .i64 tw] 26)) = w0 at *
  obtain ⟨g, hg⟩ : ∃ g, g = w.heap.size := ⟨_, rfl⟩
  rw [← hg] at q0 q1 q2 hsz ⊢
  have c0 : w0.cell? ⟨g, 0, none⟩ = some (.int .i64 tp) := q0
  have c1 : w0.cell? ⟨g, 1, none⟩ = some (.int .i64 tl) := q1
  have c2 : w0.cell? ⟨g, 2, none⟩ = some (.int .i64 tw) := q2
  have HC := Lib.hid (And.intro c0 (And.intro c1 c2))
  clear hb0 q0 q1 q2 hg c0 c1 c2
  go_loopw [9] (fun iv wr => ∃ k : Nat, k ≤ n ∧ iv = .int .i64 k ∧ (∃ prev, Hid ((overFrom ⟨tp, tl, tw⟩ prev (l.drop k) && decide (n ≤ 24)) = R) ∧ (k = 0 ∧ prev = none ∨ ∃ p, 0 < k ∧ l[k - 1]? = some p ∧ prev = some p)) ∧ Lays w0 wr) (fun iv _ => n - (intOf iv).toNat)
  case atStart => exact ⟨0, by omega, rfl, ⟨none, Lib.hid HR.out.symm, Or.inl ⟨rfl, rfl⟩⟩, Lays.refl _⟩
  case round =>
    obtain ⟨k, hk, rfl, ⟨prev, hrow, hprev⟩, hl⟩ := hrel
    by_cases hlt : k < n
    · have hka : k < l.length := by have := HN.out; omega
      obtain ⟨x, hx⟩ : ∃ x, l[k]? = some x := ⟨_, List.getElem?_eq_getElem hka⟩
      have hxe : l[k] = x := (List.getElem?_eq_some_iff.1 hx).2
      have hvr := HV.out.below (hl0.trans hl).below
      obtain ⟨xb, xoff, rfl, hxb, x0, x1, x2⟩ := stamp_at hvr hx
      have hda : l.drop k = x :: l.drop (k + 1) := by rw [List.drop_eq_getElem_cons hka, hxe]
      have hrw : ((stR x && (decide (stC x ⟨tp, tl, tw⟩ < 0) && (aheadB prev x && overFrom ⟨tp, tl, tw⟩ (some x) (l.drop (k + 1))))) && decide (n ≤ 24)) = R := by
        have := hrow.out; rw [hda] at this; exact this
      have HRW := Lib.hid hrw
      have e0 : wr.cell? ⟨g, 0, none⟩ = some (.int .i64 tp) := (hl.below.cell (p := ⟨g, 0, none⟩) hsz).trans HC.out.1
      have e1 : wr.cell? ⟨g, 1, none⟩ = some (.int .i64 tl) := (hl.below.cell (p := ⟨g, 1, none⟩) hsz).trans HC.out.2.1
      have e2 : wr.cell? ⟨g, 2, none⟩ = some (.int .i64 tw) := (hl.below.cell (p := ⟨g, 2, none⟩) hsz).trans HC.out.2.2
      have hgr : g < wr.heap.size := Nat.lt_of_lt_of_le hsz hl.below.size
      have HX := Lib.hid hx
      have hl2 := Lib.hid hl
      obtain ⟨xp, xl, xw⟩ := x
      simp only [] at x0 x1 x2
      have HSX := Lib.hid (fun W => HS.out ⟨xp, xl, xw⟩ W)
      have HLX := Lib.hid (fun W => HL.out ⟨xp, xl, xw⟩ ⟨tp, tl, tw⟩ W)
      have HPX := HLX
      clear hrow hda hrw hvr hxe hx
      cases h1 : stR ⟨xp, xl, xw⟩
      · have HRZ := Lib.hid (show false = R by rw [← HRW.out, h1]; rfl)
        rw [h1] at HSX
        clear h1 HRW hprev
        go_wp2_with fail
        have hW := new_cells wr [.int .i64 xp, .int .i64 xl, .int .i64 xw] 26
        have n0 := hW 0 _ rfl
        have n1 := hW 1 _ rfl
        have n2 := hW 2 _ rfl
        have hlW : Lays wr (wr.alloc (.cells #[.int .i64 xp, .int .i64 xl, .int .i64 xw] 26)) := (Lays.refl _).alloc _
        have hsW : wr.heap.size < (wr.alloc (.cells #[.int .i64 xp, .int .i64 xl, .int .i64 xw] 26)).heap.size := by simp
        generalize (wr.alloc (.cells #[.int .i64 xp, .int .i64 xl, .int .i64 xw] 26)) = W at *
        have f0 : W.cell? ⟨g, 0, none⟩ = some (.int .i64 tp) := (hlW.below.cell (p := ⟨g, 0, none⟩) hgr).trans e0
        have f1 : W.cell? ⟨g, 1, none⟩ = some (.int .i64 tl) := (hlW.below.cell (p := ⟨g, 1, none⟩) hgr).trans e1
        have f2 : W.cell? ⟨g, 2, none⟩ = some (.int .i64 tw) := (hlW.below.cell (p := ⟨g, 2, none⟩) hgr).trans e2
        have hgW : g < W.heap.size := Nat.lt_of_lt_of_le hgr hlW.below.size
        obtain ⟨gs, hgs⟩ : ∃ q, q = wr.heap.size := ⟨_, rfl⟩
        rw [← hgs] at n0 n1 n2 hsW ⊢
        have m0 : W.cell? ⟨gs, 0, none⟩ = some (.int .i64 xp) := n0
        have m1 : W.cell? ⟨gs, 1, none⟩ = some (.int .i64 xl) := n1
        have m2 : W.cell? ⟨gs, 2, none⟩ = some (.int .i64 xw) := n2
        have HLW := Lib.hid (hl2.out.trans hlW)
        clear hW n0 n1 n2 hgs e0 e1 e2 hl hlW x0 x1 x2
        refine wp_region_lays (by kernel_rfl) (by kernel_rfl) ?_
        repeat (go_big_quiet_step (first
          | (go_at_call 83; exact laid (HSX.out _))
          | (go_at_call 54; exact laid (HLX.out _))
          | (go_at_call 54; exact laid (HPX.out _))))
        refine wpQuiet_nil ?_
        rintro _ ⟨y, rfl⟩
        go_wp2_with fail
        go_ret
        exact ⟨ret_bool (by rw [← HRZ.out]), hl0.trans (HLW.out.trans y.lays)⟩
      rw [h1] at HSX
      cases h2 : decide (stC ⟨xp, xl, xw⟩ ⟨tp, tl, tw⟩ < 0)
      · have HRZ := Lib.hid (show false = R by rw [← HRW.out, h1, h2]; rfl)
        rw [h2] at HLX
        clear h1 h2 HRW hprev
        go_wp2_with fail
        have hW := new_cells wr [.int .i64 xp, .int .i64 xl, .int .i64 xw] 26
        have n0 := hW 0 _ rfl
        have n1 := hW 1 _ rfl
        have n2 := hW 2 _ rfl
        have hlW : Lays wr (wr.alloc (.cells #[.int .i64 xp, .int .i64 xl, .int .i64 xw] 26)) := (Lays.refl _).alloc _
        have hsW : wr.heap.size < (wr.alloc (.cells #[.int .i64 xp, .int .i64 xl, .int .i64 xw] 26)).heap.size := by simp
        generalize (wr.alloc (.cells #[.int .i64 xp, .int .i64 xl, .int .i64 xw] 26)) = W at *
        have f0 : W.cell? ⟨g, 0, none⟩ = some (.int .i64 tp) := (hlW.below.cell (p := ⟨g, 0, none⟩) hgr).trans e0
        have f1 : W.cell? ⟨g, 1, none⟩ = some (.int .i64 tl) := (hlW.below.cell (p := ⟨g, 1, none⟩) hgr).trans e1
        have f2 : W.cell? ⟨g, 2, none⟩ = some (.int .i64 tw) := (hlW.below.cell (p := ⟨g, 2, none⟩) hgr).trans e2
        have hgW : g < W.heap.size := Nat.lt_of_lt_of_le hgr hlW.below.size
        obtain ⟨gs, hgs⟩ : ∃ q, q = wr.heap.size := ⟨_, rfl⟩
        rw [← hgs] at n0 n1 n2 hsW ⊢
        have m0 : W.cell? ⟨gs, 0, none⟩ = some (.int .i64 xp) := n0
        have m1 : W.cell? ⟨gs, 1, none⟩ = some (.int .i64 xl) := n1
        have m2 : W.cell? ⟨gs, 2, none⟩ = some (.int .i64 xw) := n2
        have HLW := Lib.hid (hl2.out.trans hlW)
        clear hW n0 n1 n2 hgs e0 e1 e2 hl hlW x0 x1 x2
        refine wp_region_lays (by kernel_rfl) (by kernel_rfl) ?_
        repeat (go_big_quiet_step (first
          | (go_at_call 83; exact laid (HSX.out _))
          | (go_at_call 54; exact laid (HLX.out _))
          | (go_at_call 54; exact laid (HPX.out _))))
        refine wpQuiet_nil ?_
        rintro _ ⟨y, rfl⟩
        go_wp2_with fail
        go_ret
        exact ⟨ret_bool (by rw [← HRZ.out]), hl0.trans (HLW.out.trans y.lays)⟩
      rw [h2] at HLX
      have HRW2 := Lib.hid (show (aheadB prev ⟨xp, xl, xw⟩ && overFrom ⟨tp, tl, tw⟩ (some ⟨xp, xl, xw⟩) (l.drop (k + 1)) && decide (n ≤ 24)) = R by rw [← HRW.out, h1, h2]; rfl)
      clear h1 h2 HRW
      rcases hprev with ⟨rfl, rfl⟩ | ⟨⟨pp, pl, pw⟩, hk0, hpx, rfl⟩
      · have HRZ := Lib.hid (show (overFrom ⟨tp, tl, tw⟩ (some ⟨xp, xl, xw⟩) (l.drop (0 + 1)) && decide (n ≤ 24)) = R by rw [← HRW2.out]; rfl)
        simp only [Nat.zero_mul, Nat.add_zero] at x0 x1 x2
        clear HRW2
        go_wp2_with fail
        have hW := new_cells wr [.int .i64 xp, .int .i64 xl, .int .i64 xw] 26
        have n0 := hW 0 _ rfl
        have n1 := hW 1 _ rfl
        have n2 := hW 2 _ rfl
        have hlW : Lays wr (wr.alloc (.cells #[.int .i64 xp, .int .i64 xl, .int .i64 xw] 26)) := (Lays.refl _).alloc _
        have hsW : wr.heap.size < (wr.alloc (.cells #[.int .i64 xp, .int .i64 xl, .int .i64 xw] 26)).heap.size := by simp
        generalize (wr.alloc (.cells #[.int .i64 xp, .int .i64 xl, .int .i64 xw] 26)) = W at *
        have f0 : W.cell? ⟨g, 0, none⟩ = some (.int .i64 tp) := (hlW.below.cell (p := ⟨g, 0, none⟩) hgr).trans e0
        have f1 : W.cell? ⟨g, 1, none⟩ = some (.int .i64 tl) := (hlW.below.cell (p := ⟨g, 1, none⟩) hgr).trans e1
        have f2 : W.cell? ⟨g, 2, none⟩ = some (.int .i64 tw) := (hlW.below.cell (p := ⟨g, 2, none⟩) hgr).trans e2
        have hgW : g < W.heap.size := Nat.lt_of_lt_of_le hgr hlW.below.size
        obtain ⟨gs, hgs⟩ : ∃ q, q = wr.heap.size := ⟨_, rfl⟩
        rw [← hgs] at n0 n1 n2 hsW ⊢
        have m0 : W.cell? ⟨gs, 0, none⟩ = some (.int .i64 xp) := n0
        have m1 : W.cell? ⟨gs, 1, none⟩ = some (.int .i64 xl) := n1
        have m2 : W.cell? ⟨gs, 2, none⟩ = some (.int .i64 xw) := n2
        have HLW := Lib.hid (hl2.out.trans hlW)
        clear hW n0 n1 n2 hgs e0 e1 e2 hl hlW x0 x1 x2
        refine wp_region_lays (by kernel_rfl) (by kernel_rfl) ?_
        repeat (go_big_quiet_step (first
          | (go_at_call 83; exact laid (HSX.out _))
          | (go_at_call 54; exact laid (HLX.out _))
          | (go_at_call 54; exact laid (HPX.out _))))
        refine wpQuiet_nil ?_
        rintro _ ⟨y, rfl⟩
        go_wp2_with fail
        go_roundw
        case rel => exact ⟨0 + 1, by omega, by go_num, ⟨some ⟨xp, xl, xw⟩, HRZ, Or.inr ⟨_, by omega, HX.out, rfl⟩⟩, HLW.out.trans y.lays⟩
        case measure => simp [intOf]; omega
      obtain ⟨qb, qoff, hq, -, p0, p1, p2⟩ := stamp_at (HV.out.below (hl0.trans hl).below) hpx
      simp only [Option.some.injEq, Addr.mk.injEq] at hq
      obtain ⟨rfl, rfl, -⟩ := hq
      simp only [] at p0 p1 p2
      replace HPX := Lib.hid (fun W => HL.out ⟨pp, pl, pw⟩ ⟨xp, xl, xw⟩ W)
      clear hpx
      cases h3 : decide (stC ⟨pp, pl, pw⟩ ⟨xp, xl, xw⟩ < 0)
      · have HRZ := Lib.hid (show false = R by rw [← HRW2.out]; unfold aheadB; simp only [h3]; rfl)
        rw [h3] at HPX
        clear h3 HRW2
        go_wp2_with fail
        have hW := new_cells wr [.int .i64 xp, .int .i64 xl, .int .i64 xw] 26
        have n0 := hW 0 _ rfl
        have n1 := hW 1 _ rfl
        have n2 := hW 2 _ rfl
        have hlW : Lays wr (wr.alloc (.cells #[.int .i64 xp, .int .i64 xl, .int .i64 xw] 26)) := (Lays.refl _).alloc _
        have hsW : wr.heap.size < (wr.alloc (.cells #[.int .i64 xp, .int .i64 xl, .int .i64 xw] 26)).heap.size := by simp
        generalize (wr.alloc (.cells #[.int .i64 xp, .int .i64 xl, .int .i64 xw] 26)) = W at *
        have f0 : W.cell? ⟨g, 0, none⟩ = some (.int .i64 tp) := (hlW.below.cell (p := ⟨g, 0, none⟩) hgr).trans e0
        have f1 : W.cell? ⟨g, 1, none⟩ = some (.int .i64 tl) := (hlW.below.cell (p := ⟨g, 1, none⟩) hgr).trans e1
        have f2 : W.cell? ⟨g, 2, none⟩ = some (.int .i64 tw) := (hlW.below.cell (p := ⟨g, 2, none⟩) hgr).trans e2
        have hgW : g < W.heap.size := Nat.lt_of_lt_of_le hgr hlW.below.size
        obtain ⟨gs, hgs⟩ : ∃ q, q = wr.heap.size := ⟨_, rfl⟩
        rw [← hgs] at n0 n1 n2 hsW ⊢
        have m0 : W.cell? ⟨gs, 0, none⟩ = some (.int .i64 xp) := n0
        have m1 : W.cell? ⟨gs, 1, none⟩ = some (.int .i64 xl) := n1
        have m2 : W.cell? ⟨gs, 2, none⟩ = some (.int .i64 xw) := n2
        have HLW := Lib.hid (hl2.out.trans hlW)
        have d0 : W.cell? ⟨xb, xoff + (k - 1) * 3, none⟩ = some (.int .i64 pp) := (hlW.below.cell (p := ⟨xb, xoff + (k - 1) * 3, none⟩) hxb).trans p0
        have d1 : W.cell? ⟨xb, xoff + (k - 1) * 3 + 1, none⟩ = some (.int .i64 pl) := (hlW.below.cell (p := ⟨xb, xoff + (k - 1) * 3 + 1, none⟩) hxb).trans p1
        have d2 : W.cell? ⟨xb, xoff + (k - 1) * 3 + 2, none⟩ = some (.int .i64 pw) := (hlW.below.cell (p := ⟨xb, xoff + (k - 1) * 3 + 2, none⟩) hxb).trans p2
        have hxW : xb < W.heap.size := Nat.lt_of_lt_of_le hxb hlW.below.size
        clear p0 p1 p2 hW n0 n1 n2 hgs e0 e1 e2 hl hlW x0 x1 x2
        refine wp_region_lays (by kernel_rfl) (by kernel_rfl) ?_
        repeat (go_big_quiet_step (first
          | (go_at_call 83; exact laid (HSX.out _))
          | (go_at_call 54; exact laid (HLX.out _))
          | (go_at_call 54; exact laid (HPX.out _))))
        refine wpQuiet_nil ?_
        rintro _ ⟨y, rfl⟩
        go_wp2_with fail
        go_ret
        exact ⟨ret_bool (by rw [← HRZ.out]), hl0.trans (HLW.out.trans y.lays)⟩
      · have HRZ := Lib.hid (show (overFrom ⟨tp, tl, tw⟩ (some ⟨xp, xl, xw⟩) (l.drop (k + 1)) && decide (n ≤ 24)) = R by rw [← HRW2.out]; unfold aheadB; simp only [h3]; rfl)
        rw [h3] at HPX
        clear h3 HRW2
        go_wp2_with fail
        have hW := new_cells wr [.int .i64 xp, .int .i64 xl, .int .i64 xw] 26
        have n0 := hW 0 _ rfl
        have n1 := hW 1 _ rfl
        have n2 := hW 2 _ rfl
        have hlW : Lays wr (wr.alloc (.cells #[.int .i64 xp, .int .i64 xl, .int .i64 xw] 26)) := (Lays.refl _).alloc _
        have hsW : wr.heap.size < (wr.alloc (.cells #[.int .i64 xp, .int .i64 xl, .int .i64 xw] 26)).heap.size := by simp
        generalize (wr.alloc (.cells #[.int .i64 xp, .int .i64 xl, .int .i64 xw] 26)) = W at *
        have f0 : W.cell? ⟨g, 0, none⟩ = some (.int .i64 tp) := (hlW.below.cell (p := ⟨g, 0, none⟩) hgr).trans e0
        have f1 : W.cell? ⟨g, 1, none⟩ = some (.int .i64 tl) := (hlW.below.cell (p := ⟨g, 1, none⟩) hgr).trans e1
        have f2 : W.cell? ⟨g, 2, none⟩ = some (.int .i64 tw) := (hlW.below.cell (p := ⟨g, 2, none⟩) hgr).trans e2
        have hgW : g < W.heap.size := Nat.lt_of_lt_of_le hgr hlW.below.size
        obtain ⟨gs, hgs⟩ : ∃ q, q = wr.heap.size := ⟨_, rfl⟩
        rw [← hgs] at n0 n1 n2 hsW ⊢
        have m0 : W.cell? ⟨gs, 0, none⟩ = some (.int .i64 xp) := n0
        have m1 : W.cell? ⟨gs, 1, none⟩ = some (.int .i64 xl) := n1
        have m2 : W.cell? ⟨gs, 2, none⟩ = some (.int .i64 xw) := n2
        have HLW := Lib.hid (hl2.out.trans hlW)
        have d0 : W.cell? ⟨xb, xoff + (k - 1) * 3, none⟩ = some (.int .i64 pp) := (hlW.below.cell (p := ⟨xb, xoff + (k - 1) * 3, none⟩) hxb).trans p0
        have d1 : W.cell? ⟨xb, xoff + (k - 1) * 3 + 1, none⟩ = some (.int .i64 pl) := (hlW.below.cell (p := ⟨xb, xoff + (k - 1) * 3 + 1, none⟩) hxb).trans p1
        have d2 : W.cell? ⟨xb, xoff + (k - 1) * 3 + 2, none⟩ = some (.int .i64 pw) := (hlW.below.cell (p := ⟨xb, xoff + (k - 1) * 3 + 2, none⟩) hxb).trans p2
        have hxW : xb < W.heap.size := Nat.lt_of_lt_of_le hxb hlW.below.size
        clear p0 p1 p2 hW n0 n1 n2 hgs e0 e1 e2 hl hlW x0 x1 x2
        refine wp_region_lays (by kernel_rfl) (by kernel_rfl) ?_
        repeat (go_big_quiet_step (first
          | (go_at_call 83; exact laid (HSX.out _))
          | (go_at_call 54; exact laid (HLX.out _))
          | (go_at_call 54; exact laid (HPX.out _))))
        refine wpQuiet_nil ?_
        rintro _ ⟨y, rfl⟩
        go_wp2_with fail
        go_roundw
        case rel => exact ⟨k + 1, by omega, by go_num, ⟨some ⟨xp, xl, xw⟩, HRZ, Or.inr ⟨_, by omega, HX.out, rfl⟩⟩, HLW.out.trans y.lays⟩
        case measure => simp [intOf]; omega
    · obtain rfl : k = n := by omega
      have HRZ := Lib.hid (show decide (k ≤ 24) = R by
        rw [← hrow.out, List.drop_of_length_le (by have := HN.out; omega)]
        cases prev <;> rfl)
      clear hrow hprev
      go_wp2_with fail
      go_ret
      exact ⟨ret_bool (by rw [← HRZ.out]; exact decide_eq_decide.2 (by omega)), hl0.trans hl⟩
end Go.Proofs.YtgcfhlleaekgfaaGreatDoor.Mut
