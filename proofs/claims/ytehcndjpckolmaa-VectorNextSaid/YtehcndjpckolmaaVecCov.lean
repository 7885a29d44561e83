/- The walks of layer 5 (vector): Covers, Compare. -/
import Derived.Test.YtehcndjpckolmaaVecMeet
namespace Go.Proofs.Ytehcndjpckolmaa.Vec
open Go.RowKit Go.Maps Go.Sort Go.Shelf Go.Proofs.Ytehcndjpckolmaa.Ints

attribute [local go_sem] Oper.semAt_some

theorem knows_lit (q : Bool) (b : Nat) (l : List P) (d : P) (w : World) (h : knowsF l d = q) (ha : VMap w b l) (h1 : -9223372036854775808 ≤ d.who) (h2 : d.who ≤ 9223372036854775807) :
    Calls Try.prog 46 #[.map (some b), .agg #[.int .i64 d.who, .int .i64 d.n]] w fun e w' => e = .returned (.bool q) ∧ Below w.heap.size w w' := by
  subst h; exact knows_any b l d w ha h1 h2

set_option maxRecDepth 100000 in
set_option maxHeartbeats 4000000 in
theorem covers_any (ba bb : Nat) (A B : List P) (w : World) (gb : Good B) (sb : Sm B) (ha : VMap w ba A) (hb : VMap w bb B) (h1 : B.length ≤ 1000) :
    Calls Try.prog 59 #[.map (some ba), .map (some bb)] w fun e w' => e = .returned (.bool (coversF A B)) ∧ Below w.heap.size w w' := by
  have hba := ha.lt
  have hbb := hb.lt
  obtain ⟨LQ, hLQ⟩ := to_Q gb sb
  refine (callsIn_wide (n := 9)).1 ?_
  refine callsIn_of_wp_marks Try.func59 rfl trivial ?_ rfl
  simp only [Try.ntmps59, List.size_toArray, List.length_cons, List.length_nil, Nat.reduceAdd, Nat.reduceSub, Array.replicate_succ, Array.replicate_zero, List.push_toArray, List.append_toArray, List.nil_append, List.cons_append]
  gi_wp2_with (first
    | (refine ⟨trivial, ?_⟩; gi_at_call 84; refine (dots_in _ _ _).mono ?_; rintro e w' ⟨rfl, rfl⟩))
  obtain ⟨W0, hW0⟩ : ∃ W0, W0 = ((w.alloc (.cells #[.map (some ba)] 85)).alloc (.cells #[.bool false] 4)).alloc (.cells #[.map (some bb)] 85) := ⟨_, rfl⟩
  rw [← hW0]
  have hs0 : W0.heap.size = w.heap.size + 1 + 1 + 1 := by rw [hW0]; simp
  have hb0 : Below w.heap.size w W0 := by rw [hW0]; exact (((Below.refl _ _).alloc (Nat.le_refl _) _).alloc (by simp) _).alloc (by simp; omega) _
  have bxa : Boxed W0 w.heap.size 85 (.map (some ba)) := by rw [hW0]; exact ((Boxed.new w 85 (.map (some ba))).alloc _).alloc _
  have bxr : Boxed W0 (w.heap.size + 1) 4 (.bool false) := by
    rw [hW0]
    have := Boxed.new (w.alloc (.cells #[.map (some ba)] 85)) 4 (.bool false)
    rw [World.size_alloc] at this
    exact this.alloc _
  have bxb : Boxed W0 (w.heap.size + 1 + 1) 85 (.map (some bb)) := by
    rw [hW0]
    have := Boxed.new ((w.alloc (.cells #[.map (some ba)] 85)).alloc (.cells #[.bool false] 4)) 85 (.map (some bb))
    simp only [World.size_alloc] at this
    exact this
  have hva0 : VMap W0 ba A := ha.below hb0
  have hvb0 : VMap W0 bb B := hb.below hb0
  clear hW0
  refine wpIn_rangeFunc_ownH rfl (by omega) (gf := 100) (lb := #[.pointer (some ⟨w.heap.size + 1 + 1, 0, none⟩)]) rfl trivial (enters_of Try.func100 (by kernel_rfl) rfl)
    (dots_stops _ (by omega) (w.heap.size + 1 + 1) bb [] B LQ hLQ (by omega) gb.1 W0 bxb hvb0 (fun i hi => by cases hi)) KV.trans (fun W l o o' hl hW ho _ => KV.put (fun B hB => by cases hB) W l o o' hl hW ho) (Below.refl _ _) (fun _ => rfl)
    (fun pre W => ((Boxed W w.heap.size 85 (.map (some ba)) ∧ Boxed W (w.heap.size + 1) 4 (.bool false)) ∧ VMap W ba A ∧ ∀ x ∈ pre, x.1.n ≤ getF A x.1.who) ∧ Below w.heap.size W0 W)
    (fun c pre W => ((c = .ret ∧ ∃ x ∈ pre, getF A x.1.who < x.1.n) ∧ Boxed W (w.heap.size + 1) 4 (.bool false)) ∧ Below w.heap.size W0 W)
    (OwnFrom.and (fun s X Y row hs hgr hr => ⟨⟨own_box hs.1.1 hgr (fun r e => (hr r e).2), own_box hs.1.2 hgr (fun r e => (hr r e).2)⟩, hs.2.1.own (B := W0.heap.size) (by omega) hgr (fun r e => (hr r e).1), hs.2.2⟩) (ownFrom_below (by omega) (by omega)))
    (fun c => OwnFrom.and (fun s X Y row hs hgr hr => ⟨hs.1, own_box hs.2 hgr (fun r e => (hr r e).2)⟩) (ownFrom_below (by omega) (by omega)))
    ⟨⟨⟨bxa, bxr⟩, hva0, by simp⟩, Below.refl _ _⟩
    (fun x a' W => ∃ q, DotAt W q x.1 ∧ W0.heap.size ≤ q ∧ a' = { tmps := #[.map (some ba), .map (some bb), .pointer (some ⟨w.heap.size, 0, none⟩), undef, .pointer (some ⟨w.heap.size + 1, 0, none⟩), .pointer (some ⟨q, 0, none⟩), .map (some bb), .func (.func 100) #[] #[.pointer (some ⟨w.heap.size + 1 + 1, 0, none⟩)], .agg #[.int .i64 x.1.who, .int .i64 x.1.n], undef, undef, undef, undef, undef, undef, undef, undef], defers := [] })
    (fun x a' _ X Y row hs hgr hr => by obtain ⟨q, e1, e2, e3⟩ := hs; exact ⟨q, dotAt_own e1 hgr (fun r e => (hr r e).2), e2, e3⟩)
    ?assign ?body ?done ?stop
  case assign =>
    rintro l pre x W K ⟨⟨⟨c0, c1⟩, c2, c3⟩, hB⟩ hK
    have hs := hB.size
    gi_wp2
    exact hK _ _ ((KeepsOthers.alloc _ _).from _) (kv_below (fun B hB => by cases hB) ((Below.refl _ _).alloc (Nat.le_refl _) _)) ⟨⟨⟨c0.alloc _, c1.alloc _⟩, c2.below ((Below.refl _ _).alloc (Nat.le_refl _) _), c3⟩, hB.alloc (by omega) _⟩ ⟨W.heap.size, World.alloc_heap_new W _, hs, rfl⟩
  case body =>
    rintro l pre x a' W hl _ ⟨⟨⟨c0, c1⟩, c2, c3⟩, hB⟩ ⟨q, hq, hq0, rfl⟩ hlt
    have hs := hB.size
    have hxb := x.bd
    have hxs := x.2.2
    obtain ⟨d0, d1⟩ := hq.cells
    have hkn : knowsF A x.1 = decide (x.1.n ≤ getF A x.1.who) := by unfold knowsF; rw [x.2.1]; rfl
    have H3 := Lib.hid c3
    clear c3
    by_cases hc : x.1.n ≤ getF A x.1.who
    · rw [decide_eq_true hc] at hkn
      have HC := Lib.hid hc
      clear hc
      gi_wp2_with (first
        | (refine ⟨trivial, ?_⟩; gi_at_call 48; refine (CallsIn.inRound l (callsIn_wide.2 (right_lit true x.1 _ x.2.1))).mono ?_; rintro e w4 ⟨rfl, hb4⟩; have hv4 := c2.below hb4; obtain ⟨q0, q1⟩ := (hq.below hb4).cells; have q2 := (box_below c0 hb4).cell)
        | (refine ⟨trivial, ?_⟩; gi_at_call 46; refine (CallsIn.inRound l (callsIn_wide.2 (knows_lit true ba A x.1 _ hkn hv4 (by omega) hxs))).mono ?_; rintro e w5 ⟨rfl, hb5⟩))
      have hb6 : Below W.heap.size W w5 := below_then hb4 (Nat.le_refl _) hb5
      exact ⟨KeepsFrom.of_grownBy (row := none) ⟨hb6.os, hb6.tape, hb6.output, hb6.size, fun i hi _ => hb6.block i hi⟩ (fun j e => by cases e), kv_below (fun B hB => by cases hB) hb6, ⟨⟨box_below c0 hb6, box_below c1 hb6⟩, c2.below hb6, fun y hy => by
        rcases List.mem_append.1 hy with h | h
        · exact H3.out y h
        · simp at h; subst h; exact HC.out⟩, below_then hB (by omega) hb6⟩
    · rw [decide_eq_false hc] at hkn
      have HC := Lib.hid hc
      clear hc
      gi_wp2_with (first
        | (refine ⟨trivial, ?_⟩; gi_at_call 48; refine (CallsIn.inRound l (callsIn_wide.2 (right_lit true x.1 _ x.2.1))).mono ?_; rintro e w4 ⟨rfl, hb4⟩; have hv4 := c2.below hb4; obtain ⟨q0, q1⟩ := (hq.below hb4).cells; have q2 := (box_below c0 hb4).cell)
        | (refine ⟨trivial, ?_⟩; gi_at_call 46; refine (CallsIn.inRound l (callsIn_wide.2 (knows_lit false ba A x.1 _ hkn hv4 (by omega) hxs))).mono ?_; rintro e w5 ⟨rfl, hb5⟩; have hc1 := box_below (box_below c1 hb4) hb5; have g1 := hc1.cell; have f1 := hc1.frozen))
      have hb6 : Below W.heap.size W w5 := below_then hb4 (Nat.le_refl _) hb5
      exact ⟨(KeepsFrom.of_grownBy (row := none) ⟨hb6.os, hb6.tape, hb6.output, hb6.size, fun i hi _ => hb6.block i hi⟩ (fun j e => by cases e)).trans ((KeepsOthers.setCell _ _ _).from _), ⟨⟨rfl, x, by simp, by have := HC.out; omega⟩, (box_below c1 hb6).set _⟩, (below_then hB (by omega) hb6).setCell (p := ⟨w.heap.size + 1, 0, none⟩) (by simp) _⟩
  case done =>
    rintro D ys W hD rfl ⟨⟨⟨c0, c1⟩, c2, c3⟩, hB⟩ hK
    have hcov : coversF A B = true := by
      unfold coversF
      rw [List.all_eq_true]
      intro y hy
      rw [hLQ] at hy
      obtain ⟨z, hz, rfl⟩ := List.mem_map.1 hy
      exact decide_eq_true (c3 z hz)
    have HCOV := Lib.hid hcov
    have g1 := c1.cell
    have f1 := c1.frozen
    clear hcov c3
    gi_wp2
    have hK' := (KeepsOthers.setCell W ⟨w.heap.size + 1, 0, none⟩ (.bool true)).same D _ hK rfl
    refine ⟨by simp, .inl ⟨_, _, rfl, run_takeDeferred hK', ?_⟩⟩
    have e1 := (own_box (c1.set (.bool true)) (grownBy_putObj' _ D (.deferred none)) (fun r e => by cases e; exact ⟨_, hK', rfl⟩)).cell
    exact ⟨.bool true, by simp [results, Try.f59, go_sem, e1], by rw [HCOV.out], hb0.trans ((hB.setCell (p := ⟨w.heap.size + 1, 0, none⟩) (by simp) _).trans (belowK_b (w := w) (Nat.le_refl _) _ D _ _ (by omega) hK' rfl rfl))⟩
  case stop =>
    rintro D c pre W hD ⟨k, hk, hpre⟩ ⟨⟨⟨rfl, x, hx, hlt⟩, c1⟩, hB⟩ hK
    have hcov : coversF A B = false := by
      cases hcv : coversF A B with
      | false => rfl
      | true =>
        exfalso
        unfold coversF at hcv
        rw [List.all_eq_true] at hcv
        have hm : x.1 ∈ B := by
          rw [hLQ]
          exact List.mem_map.2 ⟨x, List.mem_of_mem_take (by rw [← hpre]; exact hx), rfl⟩
        have := hcv x.1 hm
        simp at this
        omega
    have HCOV := Lib.hid hcov
    clear hcov hlt hx hpre
    gi_wp2
    refine ⟨by simp, .inl ⟨_, _, rfl, run_takeDeferred hK, ?_⟩⟩
    have e1 := (own_box c1 (grownBy_putObj' W D (.deferred none)) (fun r e => by cases e; exact ⟨_, hK, rfl⟩)).cell
    exact ⟨.bool false, by simp [results, Try.f59, go_sem, e1], by rw [HCOV.out], hb0.trans (hB.trans (belowK_b (w := w) (Nat.le_refl _) W D _ _ (by omega) hK rfl rfl))⟩

theorem covers_lit (q : Bool) (ba bb : Nat) (A B : List P) (w : World) (h : coversF A B = q) (gb : Good B) (sb : Sm B) (ha : VMap w ba A) (hb : VMap w bb B) (h1 : B.length ≤ 1000) :
    Calls Try.prog 59 #[.map (some ba), .map (some bb)] w fun e w' => e = .returned (.bool q) ∧ Below w.heap.size w w' := by
  subst h; exact covers_any ba bb A B w gb sb ha hb h1

/-- How two stand. -/
def orderF (A B : List P) : Int := if coversF A B = true ∧ coversF B A = true then 0 else if coversF B A = true then 1 else if coversF A B = true then 2 else 3
theorem compare_any (ba bb : Nat) (A B : List P) (w : World) (ga : Good A) (sa : Sm A) (gb : Good B) (sb : Sm B) (ha : VMap w ba A) (hb : VMap w bb B) (h1 : A.length ≤ 1000) (h2 : B.length ≤ 1000) :
    Calls Try.prog 60 #[.map (some ba), .map (some bb)] w fun e w' => e = .returned (.int .i64 (orderF A B)) ∧ Below w.heap.size w w' := by
  have HA := Lib.hid ha
  have HB := Lib.hid hb
  clear ha hb
  cases q1 : coversF A B <;> cases q2 : coversF B A
  all_goals
    go_enter Try.func60, Try.ntmps60
    go_wp2_with fail
    refine (covers_lit _ ba bb A B _ q1 gb sb HA.out HB.out h2).mono ?_
    rintro e w2 ⟨rfl, hb2⟩
    go_wp2_with fail
    refine (covers_lit _ bb ba B A _ q2 ga sa (HB.out.below hb2) (HA.out.below hb2) h1).mono ?_
    rintro e w3 ⟨rfl, hb3⟩
    go_wp2_with fail
    go_ret
    exact ⟨ret_int (by unfold orderF; simp [q1, q2]), below_then hb2 (Nat.le_refl _) hb3⟩
end Go.Proofs.Ytehcndjpckolmaa.Vec
