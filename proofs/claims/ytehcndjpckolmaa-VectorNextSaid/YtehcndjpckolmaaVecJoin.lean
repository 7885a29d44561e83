/- The walks of layer 5 (vector): Join. -/
import Derived.Test.YtehcndjpckolmaaVecColl
namespace Go.Proofs.Ytehcndjpckolmaa.Vec
open Go.RowKit Go.Maps Go.Sort Go.Shelf Go.Proofs.Ytehcndjpckolmaa.Ints

attribute [local go_sem] Oper.semAt_some

theorem VMap.own {A C : World} {B b : Nat} {l : List P} {row : Option Nat} (h : VMap A b l) (hb : b < B) (hg : A.grownBy C row) (hr : ∀ r, row = some r → B ≤ r) : VMap C b l :=
  h.kept hg fun e => by have := hr b e.symm; omega
theorem blk_map {W : World} {b : Nat} {l : List P} (h : VMap W b l) : blk W b = none := by
  obtain ⟨es, clock, hb, _⟩ := h
  unfold blk
  rw [hb]
theorem DotAt.below {W W' : World} {q : Nat} {x : P} (h : DotAt W q x) (hb : Below W.heap.size W W') : DotAt W' q x := (hb.block q h.lt).trans h
def vals (l : List Q) : List P := l.map Subtype.val
theorem vals_snoc (l : List Q) (x : Q) : vals (l ++ [x]) = vals l ++ [x.1] := by unfold vals; rw [List.map_append]; rfl
theorem joinF_len2 (a : List P) (pre : List Q) {L : List P} (h : pre.length < L.length) : (joinF a (vals pre)).length ≤ a.length + L.length := by
  have := joinF_len a (vals pre)
  have h2 : (vals pre).length = pre.length := List.length_map _
  omega

set_option maxRecDepth 100000 in
set_option maxHeartbeats 4000000 in
theorem join_any (ba bb : Nat) (A B : List P) (w : World) (ga : Good A) (sa : Sm A) (gb : Good B) (sb : Sm B) (ha : VMap w ba A) (hb : VMap w bb B) (h1 : A.length ≤ 400) (h2 : B.length ≤ 400) :
    Calls Try.prog 55 #[.map (some ba), .map (some bb)] w (MapPost w (joinF A B)) := by
  have hba := ha.lt
  have hbb := hb.lt
  obtain ⟨LQ, hLQ⟩ := to_Q gb sb
  refine (callsIn_wide (n := 9)).1 ?_
  refine callsIn_of_wp_marks Try.func55 rfl trivial ?_ rfl
  simp only [Try.ntmps55, List.size_toArray, List.length_cons, List.length_nil, Nat.reduceAdd, Nat.reduceSub, Array.replicate_succ, Array.replicate_zero, List.push_toArray, List.append_toArray, List.nil_append, List.cons_append]
  gi_wp2_with (first
    | (refine ⟨trivial, ?_⟩; gi_at_call 84; refine (dots_in _ _ _).mono ?_; rintro e w' ⟨rfl, rfl⟩)
    | (refine ⟨trivial, ?_⟩; gi_at_call 85; refine (collect_in _ (by omega) w.heap.size ba A (by omega) ga sa _ (Boxed.new w 85 (.map (some ba))) (ha.below ((Below.refl _ _).alloc (Nat.le_refl _) _))).mono ?_; rintro e w2 ⟨v, rfl, hr2, hb2⟩; obtain ⟨ao, ac, rfl, -, -⟩ := Lst.form hr2)
    | (refine ⟨trivial, ?_⟩; gi_at_call 61; refine (callsIn_wide.2 (of_any ao ac A _ hr2 (by omega) sa)).mono ?_; rintro e w3 ⟨bv, rfl, hv3, hbv, hb3⟩))
  rw [ofF_self ga] at hv3
  have hs2 := hb2.size
  have hs3 := hb3.size
  rw [World.size_alloc] at hs2
  have hw3 : Below w.heap.size w w3 := below_then (below_then ((Below.refl _ _).alloc (Nat.le_refl _) _) (Nat.le_refl _) hb2) (Nat.le_refl _) hb3
  have hlv := hv3.lt
  obtain ⟨W0, hW0⟩ : ∃ W0, W0 = (w3.alloc (.cells #[.map (some bv)] 85)).alloc (.cells #[.map (some bb)] 85) := ⟨_, rfl⟩
  rw [← hW0]
  have hs0 : W0.heap.size = w3.heap.size + 1 + 1 := by rw [hW0]; simp
  have b34 : Below w3.heap.size w3 W0 := by rw [hW0]; exact ((Below.refl _ _).alloc (Nat.le_refl _) _).alloc (by simp) _
  have hb0 : Below w.heap.size w W0 := below_then hw3 (Nat.le_refl _) b34
  have bxv : Boxed W0 w3.heap.size 85 (.map (some bv)) := by rw [hW0]; exact (Boxed.new w3 85 (.map (some bv))).alloc _
  have bxb : Boxed W0 (w3.heap.size + 1) 85 (.map (some bb)) := by
    rw [hW0]
    have := Boxed.new (w3.alloc (.cells #[.map (some bv)] 85)) 85 (.map (some bb))
    rwa [World.size_alloc] at this
  have hv0 : VMap W0 bv A := hv3.below b34
  have hvb0 : VMap W0 bb B := hb.below hb0
  clear hW0
  have hBs : ∀ i ∈ [bv], i < W0.heap.size := by intro i hi; simp at hi; omega
  refine wpIn_rangeFunc_ownH rfl (by omega) (gf := 100) (lb := #[.pointer (some ⟨w3.heap.size + 1, 0, none⟩)]) rfl trivial (enters_of Try.func100 (by kernel_rfl) rfl)
    (dots_stops _ (by omega) (w3.heap.size + 1) bb [bv] B LQ hLQ (by omega) gb.1 W0 bxb hvb0 (fun i hi => by
      obtain rfl : i = bv := by simpa using hi
      exact ⟨by omega, by omega, by omega, fun j hj => by rw [blk_map hv0] at hj; cases hj⟩)) KV.trans (fun W l o o' hl hW ho _ => KV.put hBs W l o o' hl hW ho) (Below.refl _ _) (fun _ => rfl)
    (fun pre W => (Boxed W w3.heap.size 85 (.map (some bv)) ∧ VMap W bv (joinF A (vals pre))) ∧ Below w.heap.size W0 W)
    (fun _ _ _ => False)
    (OwnFrom.and (fun s X Y row hs hgr hr => ⟨own_box hs.1 hgr (fun r e => (hr r e).2), hs.2.own (B := W0.heap.size) (by omega) hgr (fun r e => (hr r e).1)⟩) (ownFrom_below (by omega) (by omega)))
    (fun c s X Y row hs _ _ => hs)
    ⟨⟨bxv, hv0⟩, Below.refl _ _⟩
    (fun x a' W => ∃ q, DotAt W q x.1 ∧ W0.heap.size ≤ q ∧ a' = { tmps := #[.map (some ba), .map (some bb), undef, undef, .map none, .pointer (some ⟨w3.heap.size, 0, none⟩), .pointer (some ⟨q, 0, none⟩), .map (some ba), .func (.func 100) #[] #[.pointer (some ⟨w.heap.size, 0, none⟩)], .slice ao A.length ac, .map (some bv), .map (some bb), .func (.func 100) #[] #[.pointer (some ⟨w3.heap.size + 1, 0, none⟩)], .agg #[.int .i64 x.1.who, .int .i64 x.1.n], undef, undef, undef, undef, undef, undef, undef, undef, undef, undef, undef, undef, undef], defers := [] })
    (fun x a' _ X Y row hs hgr hr => by obtain ⟨q, e1, e2, e3⟩ := hs; exact ⟨q, dotAt_own e1 hgr (fun r e => (hr r e).2), e2, e3⟩)
    ?assign ?body ?done ?stop
  case assign =>
    rintro l pre x W K ⟨⟨c1, c2⟩, hB⟩ hK
    have hs := hB.size
    gi_wp2
    exact hK _ _ ((KeepsOthers.alloc _ _).from _) (kv_below (fun B hB => by have := hBs B hB; omega) ((Below.refl _ _).alloc (Nat.le_refl _) _)) ⟨⟨c1.alloc _, c2.below ((Below.refl _ _).alloc (Nat.le_refl _) _)⟩, hB.alloc (by omega) _⟩ ⟨W.heap.size, World.alloc_heap_new W _, hs, rfl⟩
  case body =>
    rintro l pre x a' W hl _ ⟨⟨c1, c2⟩, hB⟩ ⟨q, hq, hq0, rfl⟩ hlt
    have hs := hB.size
    have hxb := x.bd
    have hxs := x.2.2
    have hlen := joinF_len2 A pre hlt
    have hnn := (joinF_good ga (vals pre)).nonneg x.1.who
    have HR := Lib.hid (joinF_good ga (vals pre)).1
    have hjs : joinF A (vals (pre ++ [x])) = setF (joinF A (vals pre)) ⟨x.1.who, max (getF (joinF A (vals pre)) x.1.who) x.1.n⟩ := by
      rw [vals_snoc, joinF_snoc]; unfold up; rw [if_pos x.2.1]
    have HJ := Lib.hid hjs
    clear hjs
    generalize joinF A (vals pre) = out at *
    obtain ⟨d0, d1⟩ := hq.cells
    have hkey := key (x := x.1.who) (by omega) hxs
    have hval : plainElem (H := Unit) Try.prog 3 (.int .i64 (max (getF out x.1.who) x.1.n)) = some (.lit (.int .i64 (max (getF out x.1.who) x.1.n)), []) := plainElem_int Try.underlying3 (wf64 (by omega) (by omega))
    gi_wp2_with (first
      | (refine ⟨trivial, ?_⟩; gi_at_call 48; refine (CallsIn.inRound l (callsIn_wide.2 (right_lit true x.1 _ x.2.1))).mono ?_; rintro e w4 ⟨rfl, hb4⟩; have hv4 := c2.below hb4; obtain ⟨q0, q1⟩ := (hq.below hb4).cells; have q2 := (box_below c1 hb4).cell; obtain ⟨c, hrun, hat, hwc⟩ := hv4.lookup_int law Try.underlying85 Try.underlying3 (Try.zeroValue3 _) hkey; obtain rfl := dat_get hat)
      | (gi_at_mapUpdate; refine wpListIn_mapUpdate_own _ rfl _ _ _ 85 rfl 3 3 law Try.underlying85 _ bv out.length (dat out) rfl hv4 (by unfold maxLen; omega) _ _ (.int .i64 x.1.who) rfl rfl hkey _ [] hval ?_; intro w5 hown5 hgrow5))
    rw [dat_put HR.out ⟨x.1.who, max (getF out x.1.who) x.1.n⟩, ← HJ.out] at hown5
    have hs4 := hb4.size
    have hq5 := hgrow5.size
    have hk4 : KeepsFrom W0.heap.size W w5 := (KeepsFrom.of_grownBy (row := none) ⟨hb4.os, hb4.tape, hb4.output, hb4.size, fun i hi _ => hb4.block i hi⟩ (fun j e => by cases e)).trans (KeepsFrom.of_grownBy hgrow5 (fun j e => by cases e; omega))
    have hk5 : KV W0.heap.size [bv] W w5 := (kv_below (fun B hB => by have := hBs B hB; omega) hb4).trans (kv_grown hgrow5 (fun r e => by cases e; exact Or.inl (by simp)) (fun i hi hm => by
      rcases hm with h | ⟨B', hB1, hB2⟩
      · exact Or.inl h
      · obtain rfl : B' = bv := by simpa using hB1
        rw [blk_map (own_tight hown5)] at hB2
        cases hB2))
    exact ⟨hk4, hk5, ⟨(box_below c1 hb4).kept hgrow5 (by simp; omega), own_tight hown5⟩, (below_then hB (by omega) hb4).grown hgrow5 (by omega) (fun k hk => by cases hk; omega)⟩
  case done =>
    rintro D ys W hD rfl ⟨⟨c1, c2⟩, hB⟩ hK
    have g1 := c1.cell
    have hy : vals ys = B := hLQ.symm
    rw [hy] at c2
    have R := Lib.hid c2
    clear c2
    gi_wp2
    refine ⟨by simp, .inl ⟨_, _, rfl, run_takeDeferred hK, ?_⟩⟩
    exact ⟨_, results_tmp rfl _ _ _, bv, rfl, R.out.kept (grownBy_putObj' W D (.deferred none)) (by simp; omega), by omega, hb0.trans (hB.trans (belowK_b (w := w) (Nat.le_refl _) W D _ _ (by omega) hK rfl rfl))⟩
  case stop =>
    rintro D c pre W hD _ hF
    exact hF.elim
end Go.Proofs.Ytehcndjpckolmaa.Vec
