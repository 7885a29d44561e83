/- Layer 30 (trace), the law: is a copy the same, in memory of its own? PRINTED by wip/gentrccopied.py. -/
import Derived.Test.YtljlbkichcjlfaaGreatDoorPkA
import Derived.Test.YtljlbkichcjlfaaGreatDoorPkB
import Derived.Test.YtljlbkichcjlfaaGreatDoorRegLin
set_option linter.unusedSimpArgs false
set_option linter.unusedVariables false
namespace Go.Proofs.YtljlbkichcjlfaaGreatDoor.Trc
open Go.RowKit Go.Proofs.YtljlbkichcjlfaaGreatDoor.RegInv Go.Proofs.YtljlbkichcjlfaaGreatDoor.Mut Go.Proofs.YtljlbkichcjlfaaGreatDoor.Ints
set_option linter.unusedSectionVars false
variable [Inhabited Lim]

theorem muC_self (m : Mu) : muC m m = 0 := muO.self m
/-- An append to a row of the call's own: what lay ahead stays, and so does a variable of another type. -/
theorem cop_grown {w W W' : World} {v : Value} {n : Nat} {xs : List Value} {t : TypeId} (hb : Below w.heap.size w W) (hg : W.grownBy W' v.ownBlock) (ho : W.ownsRow w.heap.size t 10 v n xs) : Below w.heap.size w W' :=
  hb.grown hg hb.size (fun k hk => (World.ownsRow.lt ho k hk).1)
theorem cop_var {w W W' : World} {v : Value} {g n : Nat} {xs l : List Value} (h : VarAt W g 39 l) (hg : W.grownBy W' v.ownBlock) (ho : W.ownsRow w.heap.size 32 10 v n xs) : VarAt W' g 39 l := by
  refine (hg.block g h.lt (fun e => ?_)).trans h
  rcases ho.2 with ⟨rfl, _⟩ | ⟨b, cap, cur, rfl, _, hb, _⟩
  · simp [Value.ownBlock] at e
  · simp only [Value.ownBlock, Option.some.injEq] at e
    subst e
    rw [show W.heap[g]? = _ from h] at hb
    cases hb
theorem c_ofF {v : Value} {R : List Ro} {w : World} (base : Nat) (hb : base ≤ w.heap.size) (hT : Tabs w) (hv : MRow w v R) (hn : R.length ≤ 10000) (hs : ∀ x ∈ R, Small x.1) : Calls Tryz.prog 12 #[v] w (JoinP (CpC base (Mut.leftOf (R.map (·.1)))) w) := by
  refine (of_anyF v R w hT hv hn hs).mono ?_
  rintro e w' ⟨a, b, d, c, rfl, hl, hr, -, hb', hf⟩
  have e2 := leftOf_eq hr
  rw [e2] at hl
  obtain ⟨a1, a2, a3, ea⟩ := hl.cells.slice
  obtain ⟨b1, b2, b3, eb⟩ := hl.wipes.slice
  obtain ⟨d1, d2, d3, ed⟩ := hl.sibs.slice
  subst ea eb ed
  exact ⟨a1, a2, a3, b1, b2, b3, d1, d2, d3, rfl, ⟨hl, hf base hb⟩, hb'⟩

/-- While the copy's rows are turned: what stays. -/
def CopI (w : World) (C base : Nat) (LA LB : List Value) (qv rv : Value) (nq nr : Nat) (wr : World) : Prop :=
  VarAt wr w.heap.size 39 LA ∧ VarAt wr C 39 LB ∧ Below w.heap.size w wr ∧ (∃ Q' : List Int, wr.ownsRow base 3 1 qv nq (Q'.flatMap enI)) ∧ (∃ xs, wr.ownsRow base 49 5 rv nr xs)
theorem own_ne {w : World} {C base g n cap sz : Nat} {t e : TypeId} {l xs : List Value} (h : VarAt w C t l) (ho : w.ownsRow base e sz (.slice (some ⟨g, 0, none⟩) n cap) n xs) (hne : e ≠ t) : C ≠ g := by
  rintro rfl
  rcases ho.2 with ⟨h0, _⟩ | ⟨b, cap', cur, h1, _, hb, _⟩
  · cases h0
  · cases h1
    rw [show w.heap[C]? = _ from h] at hb
    cases hb
    exact hne rfl
theorem CopI.q {w wr : World} {C base g cap nq nr : Nat} {LA LB : List Value} {rv : Value} (h : CopI w C base LA LB (.slice (some ⟨g, 0, none⟩) nq cap) rv nq nr wr) (hb : w.heap.size ≤ base) (k : Nat) (x : Int) :
    CopI w C base LA LB (.slice (some ⟨g, 0, none⟩) nq cap) rv nq nr (wr.setCell ⟨g, k, none⟩ (.int .i64 x)) := by
  obtain ⟨h1, h2, h3, ⟨Q', h4⟩, ⟨xs, h5⟩⟩ := h
  have h6 := h4.stored k (.int .i64 x)
  refine ⟨h1.set_other k _ (own_ne h1 h4 (by decide)), h2.set_other k _ (own_ne h2 h4 (by decide)), h3.setCell (p := ⟨g, k, none⟩) (Nat.le_trans hb (World.ownsRow.lt h4 g rfl).1) _, ⟨Q'.set k x, ?_⟩, ⟨xs, h5.kept h6.2 ?_⟩⟩
  · have := h6.1
    rw [flat_enI] at this ⊢
    rwa [List.map_set]
  · rcases rows_apart h5 h4 (by decide) with h | h
    · exact Or.inl h
    · exact Or.inr h
theorem CopI.r {w wr : World} {C base g cap nq nr : Nat} {LA LB : List Value} {qv : Value} (h : CopI w C base LA LB qv (.slice (some ⟨g, 0, none⟩) nr cap) nq nr wr) (hb : w.heap.size ≤ base) (k : Nat) (u : Value) :
    CopI w C base LA LB qv (.slice (some ⟨g, 0, none⟩) nr cap) nq nr (wr.setCell ⟨g, k, none⟩ u) := by
  obtain ⟨h1, h2, h3, ⟨Q', h4⟩, ⟨xs, h5⟩⟩ := h
  have h6 := h5.stored k u
  refine ⟨h1.set_other k _ (own_ne h1 h5 (by decide)), h2.set_other k _ (own_ne h2 h5 (by decide)), h3.setCell (p := ⟨g, k, none⟩) (Nat.le_trans hb (World.ownsRow.lt h5 g rfl).1) _, ⟨Q', h4.kept h6.2 ?_⟩, ⟨_, h6.1⟩⟩
  rcases rows_apart h4 h5 (by decide) with h | h
  · exact Or.inl h
  · exact Or.inr h
theorem own_some {w : World} {base sz n cap : Nat} {e : TypeId} {ao : Option Addr} {xs : List Value} (h : w.ownsRow base e sz (.slice ao n cap) n xs) (hn : 0 < n) : ∃ g, ao = some ⟨g, 0, none⟩ := by
  rcases h.2 with ⟨_, h0⟩ | ⟨g, cap', cur, h1, _⟩
  · omega
  · cases h1; exact ⟨g, rfl⟩

set_option maxRecDepth 100000 in
set_option maxHeartbeats 8000000 in
theorem copied_any (e : Ev) (Q NN : List Int) (R : List Rw) (X : List Stp) (c0 : Con) (w : World) (hT : Tabs w) (hat : EvAt w e Q NN R X c0) (hsm : EvSm e Q NN R X c0) :
    Calls Tryz.prog 6 #[vE e] w fun r w' => r = .returned (.bool true) ∧ Below w.heap.size w w' := by
  obtain ⟨kind, node, rng, op, ⟨⟨mt, mk, mkey, mfin, mval, mexp, ⟨map, mal, maw⟩, movr⟩, mv⟩, ca, cb, cd, ⟨sp, sl, sw⟩, ⟨bp, bl, bw⟩, quar, why, qv, nv, no, table, key, fin, rv, cv⟩ := e
  obtain ⟨hm, hq, hn, hr, hx, hcon⟩ := hat
  obtain ⟨sm, ql, nl, rl, rs, xl, hoks⟩ := hsm
  simp only [] at hm hq hn hr hx hcon sm
  obtain ⟨o1, n1, k1, e1⟩ := hcon.cells.slice
  obtain ⟨o2, n2, k2, e2⟩ := hcon.wipes.slice
  obtain ⟨o3, n3, k3, e3⟩ := hcon.sibs.slice
  subst e1 e2 e3
  obtain ⟨A, eA, hA⟩ := hcon.cells
  obtain ⟨D2, eD2, hD2⟩ := hcon.wipes
  obtain ⟨D3, eD3, hD3⟩ := hcon.sibs
  obtain ⟨qo, qc, rfl, -, -⟩ := Lst.form hq
  obtain ⟨no_, nc, rfl, -, -⟩ := Lst.form hn
  obtain ⟨ro, rc, rfl, -, -⟩ := Lst.form hr
  obtain ⟨xo, xc, rfl, -, -⟩ := Lst.form hx
  have hn1 : n1 = A.length := by obtain ⟨_, _, e, -, -⟩ := hA.form; injection e
  have hn2 : n2 = D2.length := by obtain ⟨_, _, e, -, -⟩ := hD2.form; injection e
  have hn3 : n3 = D3.length := by obtain ⟨_, _, e, -, -⟩ := hD3.form; injection e
  have hall : (A ++ (D2 ++ D3)).map (·.1) = c0.all := by rw [List.map_append, List.map_append, eA, eD2, eD3]; rfl
  have hlen : n1 + n2 + n3 ≤ 15 := by
    have h := hoks.len
    rw [← hall] at h
    simp only [List.length_map, List.length_append] at h
    omega
  have HALL := Lib.hid (And.intro hall hoks)
  have HROW1 := Lib.hid hA
  have HROW2 := Lib.hid hD2
  have HROW3 := Lib.hid hD3
  have HLN := Lib.hid hlen
  have HNN := Lib.hid (And.intro hn1 (And.intro hn2 hn3))
  have HT := Lib.hid hT
  have HE := Lib.hid (And.intro hm (And.intro hq (And.intro hn (And.intro hr hx))))
  have HS := Lib.hid (And.intro sm (And.intro ql (And.intro nl (And.intro rl (And.intro rs xl)))))
  clear hall hoks hA hD2 hD3 hlen hn1 hn2 hn3 hT hm hq hn hr hx sm ql nl rl rs xl hcon eA eD2 eD3
  obtain ⟨W0, hW0⟩ : ∃ W0, W0 = w.alloc (.cells #[.int .i64 kind, .int .i64 node, .int .i64 rng, .int .i64 op, .int .i64 mt, .int .i64 mk, .string mkey, .string mfin, .string mval, .int .i64 mexp, .int .i64 map, .int .i64 mal, .int .i64 maw, mv, .slice o1 n1 k1, .slice o2 n2 k2, .slice o3 n3 k3, .int .i64 sp, .int .i64 sl, .int .i64 sw, .int .i64 bp, .int .i64 bl, .int .i64 bw, .bool quar, .int .i64 why, .slice qo Q.length qc, .slice no_ NN.length nc, .int .i64 no, .int .i64 table, .string key, .string fin, .slice ro R.length rc, .slice xo X.length xc] 39) := ⟨_, rfl⟩
  have HP0 := Lib.hid (show VarAt W0 w.heap.size 39 [.int .i64 kind, .int .i64 node, .int .i64 rng, .int .i64 op, .int .i64 mt, .int .i64 mk, .string mkey, .string mfin, .string mval, .int .i64 mexp, .int .i64 map, .int .i64 mal, .int .i64 maw, mv, .slice o1 n1 k1, .slice o2 n2 k2, .slice o3 n3 k3, .int .i64 sp, .int .i64 sl, .int .i64 sw, .int .i64 bp, .int .i64 bl, .int .i64 bw, .bool quar, .int .i64 why, .slice qo Q.length qc, .slice no_ NN.length nc, .int .i64 no, .int .i64 table, .string key, .string fin, .slice ro R.length rc, .slice xo X.length xc] by rw [hW0]; exact VarAt.new w 39 [.int .i64 kind, .int .i64 node, .int .i64 rng, .int .i64 op, .int .i64 mt, .int .i64 mk, .string mkey, .string mfin, .string mval, .int .i64 mexp, .int .i64 map, .int .i64 mal, .int .i64 maw, mv, .slice o1 n1 k1, .slice o2 n2 k2, .slice o3 n3 k3, .int .i64 sp, .int .i64 sl, .int .i64 sw, .int .i64 bp, .int .i64 bl, .int .i64 bw, .bool quar, .int .i64 why, .slice qo Q.length qc, .slice no_ NN.length nc, .int .i64 no, .int .i64 table, .string key, .string fin, .slice ro R.length rc, .slice xo X.length xc])
  have HB0 := Lib.hid (show Below w.heap.size w W0 by rw [hW0]; exact (Below.refl _ w).alloc (Nat.le_refl _) _)
  have HW0 := Lib.hid hW0
  clear hW0
  unfold vE enE
  simp only []
  go_enter Tryz.func6, Tryz.ntmps6
  go_upto_region 1 with fail
  rw [← HW0.out]
  have hcm : ∀ W W' : World, (Below w.heap.size w W ∧ VarAt W w.heap.size 39 [.int .i64 kind, .int .i64 node, .int .i64 rng, .int .i64 op, .int .i64 mt, .int .i64 mk, .string mkey, .string mfin, .string mval, .int .i64 mexp, .int .i64 map, .int .i64 mal, .int .i64 maw, mv, .slice o1 n1 k1, .slice o2 n2 k2, .slice o3 n3 k3, .int .i64 sp, .int .i64 sl, .int .i64 sw, .int .i64 bp, .int .i64 bl, .int .i64 bw, .bool quar, .int .i64 why, .slice qo Q.length qc, .slice no_ NN.length nc, .int .i64 no, .int .i64 table, .string key, .string fin, .slice ro R.length rc, .slice xo X.length xc]) → Below W.heap.size W W' → (Below w.heap.size w W' ∧ VarAt W' w.heap.size 39 [.int .i64 kind, .int .i64 node, .int .i64 rng, .int .i64 op, .int .i64 mt, .int .i64 mk, .string mkey, .string mfin, .string mval, .int .i64 mexp, .int .i64 map, .int .i64 mal, .int .i64 maw, mv, .slice o1 n1 k1, .slice o2 n2 k2, .slice o3 n3 k3, .int .i64 sp, .int .i64 sl, .int .i64 sw, .int .i64 bp, .int .i64 bl, .int .i64 bw, .bool quar, .int .i64 why, .slice qo Q.length qc, .slice no_ NN.length nc, .int .i64 no, .int .i64 table, .string key, .string fin, .slice ro R.length rc, .slice xo X.length xc]) := fun W W' h hb => ⟨below_then h.1 (Nat.le_refl _) hb, h.2.below hb⟩
  have hpr : ∀ (j : Nat) (W W' : World), (j = 0 → True) → Below W.heap.size W W' → (j = 0 → True) := fun _ _ _ _ _ _ => trivial
  refine RegLin.wp_region_lin (RegLin.useL [(0, 4), (4, 8), (8, 12)]) (fun W => Below w.heap.size w W ∧ VarAt W w.heap.size 39 [.int .i64 kind, .int .i64 node, .int .i64 rng, .int .i64 op, .int .i64 mt, .int .i64 mk, .string mkey, .string mfin, .string mval, .int .i64 mexp, .int .i64 map, .int .i64 mal, .int .i64 maw, mv, .slice o1 n1 k1, .slice o2 n2 k2, .slice o3 n3 k3, .int .i64 sp, .int .i64 sl, .int .i64 sw, .int .i64 bp, .int .i64 bl, .int .i64 bw, .bool quar, .int .i64 why, .slice qo Q.length qc, .slice no_ NN.length nc, .int .i64 no, .int .i64 table, .string key, .string fin, .slice ro R.length rc, .slice xo X.length xc]) (fun j W => j = 0 → (fun _ => True) W) 13 [false, false, false, false, false, false, false, true, true, true, true, true, true, true, true, true, true, true, true, true, false, false, false, false, false, false, false, false, false, false, false, false, false, false, false, false, false, false, false, false, false, false, false, false, false, false, false, false, false, false, false, false, false, false, false, false, false, false, false, false, false, false, false, false, false, false, false, false, false, false, false, false, false, false, false, false, false, false, false, false, false, false, false, false, false, false, false, false, false, false, false, false, false, false, false, false, false, false, false, false, false, false, false, false, false, false, false, false, false, false, false, false, false, false, false, false, false, false, false, false, false, false, false, false, false, false, false, false, false, false, false, false]
    [sOne (fun v W => ∃ k, v = .slice (some ⟨k, 0, none⟩) 0 0 ∧ W.ownsRow w.heap.size 32 10 v 0 []) (fun _ _ _ h hb => h.elim fun k h => ⟨k, h.1, row_below h.2 hb⟩),
    sLit (.pointer (some ⟨w.heap.size, 14, none⟩)),
    sLit (.pointer (some ⟨w.heap.size, 14, none⟩)),
    sLit (.slice o1 n1 k1),
    sOne (fun v W => W.ownsRow w.heap.size 32 10 v n1 (A.flatMap enM)) (fun _ _ _ h hb => row_below h hb),
    sLit (.pointer (some ⟨w.heap.size, 14, none⟩)),
    sLit (.pointer (some ⟨w.heap.size, 15, none⟩)),
    sLit (.slice o2 n2 k2),
    sOne (fun v W => W.ownsRow w.heap.size 32 10 v (n1 + n2) (A.flatMap enM ++ D2.flatMap enM)) (fun _ _ _ h hb => row_below h hb),
    sLit (.pointer (some ⟨w.heap.size, 14, none⟩)),
    sLit (.pointer (some ⟨w.heap.size, 16, none⟩)),
    sLit (.slice o3 n3 k3),
    sOne (fun v W => W.ownsRow w.heap.size 32 10 v (n1 + n2 + n3) ((A.flatMap enM ++ D2.flatMap enM) ++ D3.flatMap enM)) (fun _ _ _ h hb => row_below h hb)] (⟨HB0.out.drew, HP0.out.below (Below.refl _ _).drew⟩) (fun j _ _ => trivial) (by kernel_rfl) (by kernel_rfl) (by kernel_rfl) (by kernel_rfl) (fun F hF => ?_)
  simp only [over, overL, Nat.reduceAdd] at hF
  obtain rfl := funext hF
  clear hF
  refine ⟨⟨?_, ?_, ?_, ?_, ?_, ?_, ?_, ?_, ?_, ?_, ?_, ?_, ?_, trivial⟩, ?_⟩
  · intro V W hc hp hd K hK _
    clear hd
    have HC_ := Lib.hid hc
    have hsz := hc.1.size
    clear hp hc
    go_wp2_with fail
    refine hK _ _ ?_ ?_ ?_
    · rfl
    · exact RegLin.keeps_below hcm hpr HC_.out ((Below.refl _ _).alloc (Nat.le_refl _) _)
    · exact ⟨_, rfl, own_base (World.ownsRow_made W #[] 0 (Nat.le_refl _) (Nat.zero_le _) rfl) hsz⟩
  · intro V W hc hp hd K hK _
    clear hd
    have HC_ := Lib.hid hc
    clear hp hc
    go_wp2_with fail
    refine hK _ _ ?_ ?_ ?_
    · rfl
    · exact RegLin.keeps_below hcm hpr HC_.out (Below.refl _ _)
    · exact rfl
  · intro V W hc hp hd K hK _
    have h1 : (V 8) = .pointer (some ⟨w.heap.size, 14, none⟩) := hd 1 (by decide) (by kernel_rfl) (RegLin.useL_ok (by kernel_rfl))
    clear hd
    have HC_ := Lib.hid hc
    clear hp hc
    go_wp2_with fail
    refine hK _ _ ?_ ?_ ?_
    · rfl
    · exact RegLin.keeps_below hcm hpr HC_.out (Below.refl _ _)
    · exact rfl
  · intro V W hc hp hd K hK _
    have h2 : (V 9) = .pointer (some ⟨w.heap.size, 14, none⟩) := hd 2 (by decide) (by kernel_rfl) (RegLin.useL_ok (by kernel_rfl))
    clear hd
    have s14 := hc.2.get (k := 14) rfl
    have HC_ := Lib.hid hc
    clear hp hc
    go_wp2_with fail
    refine hK _ _ ?_ ?_ ?_
    · rfl
    · exact RegLin.keeps_below hcm hpr HC_.out (Below.refl _ _)
    · exact rfl
  · intro V W hc hp hd K hK _
    have h0 : ∃ k, (V 7) = .slice (some ⟨k, 0, none⟩) 0 0 ∧ W.ownsRow w.heap.size 32 10 (V 7) 0 [] := hd 0 (by decide) (by kernel_rfl) (RegLin.useL_ok (by kernel_rfl))
    have h3 : (V 10) = .slice o1 n1 k1 := hd 3 (by decide) (by kernel_rfl) (RegLin.useL_ok (by kernel_rfl))
    clear hd
    skip
    have HC_ := Lib.hid hc
    have hsz := hc.1.size
    obtain ⟨k0, e0, g0⟩ := h0
    have hRW := (HROW1.out).below HC_.out.1
    clear hp hc
    go_wp2_with (refine wpList_append_rows rfl (.tmp 7) (.tmp 10) rfl w.heap.size (V 7) 0 [] rfl g0 o1 n1 k1 A (by first | exact h3 | (show V 10 = _; exact h3)) hRW (by have := HLN.out; omega) hsz ?_; intro v1 w1 g1 g2)
    refine hK _ _ ?_ ?_ ?_
    · rfl
    · refine RegLin.keeps_by ⟨cop_grown HC_.out.1 g2 g0, cop_var HC_.out.2 g2 g0⟩ (by kernel_rfl) (fun j hj hne hl h => ?_)
      match j, hj, hne, hl, h with
      | 0, _, _, hl, _ => exact Bool.noConfusion (hl.symm.trans (show RegLin.liveB _ 13 [(0, 4), (4, 8), (8, 12)] 4 0 = false from by kernel_rfl))
      | 1, _, _, _, h => exact h
      | 2, _, _, _, h => exact h
      | 3, _, _, _, h => exact h
      | 4, _, hne, _, _ => exact absurd rfl hne
      | 5, _, _, _, h => exact h
      | 6, _, _, _, h => exact h
      | 7, _, _, _, h => exact h
      | 8, _, _, hl, _ => exact Bool.noConfusion (hl.symm.trans (show RegLin.liveB _ 13 [(0, 4), (4, 8), (8, 12)] 4 8 = false from by kernel_rfl))
      | 9, _, _, _, h => exact h
      | 10, _, _, _, h => exact h
      | 11, _, _, _, h => exact h
      | 12, _, _, hl, _ => exact Bool.noConfusion (hl.symm.trans (show RegLin.liveB _ 13 [(0, 4), (4, 8), (8, 12)] 4 12 = false from by kernel_rfl))
      | j + 13, hj, _, _, _ => exact absurd hj (by omega)
    · exact (by rw [Nat.zero_add, List.nil_append] at g1; exact g1)
  · intro V W hc hp hd K hK _
    clear hd
    have HC_ := Lib.hid hc
    clear hp hc
    go_wp2_with fail
    refine hK _ _ ?_ ?_ ?_
    · rfl
    · exact RegLin.keeps_below hcm hpr HC_.out (Below.refl _ _)
    · exact rfl
  · intro V W hc hp hd K hK _
    have h5 : (V 12) = .pointer (some ⟨w.heap.size, 14, none⟩) := hd 5 (by decide) (by kernel_rfl) (RegLin.useL_ok (by kernel_rfl))
    clear hd
    have HC_ := Lib.hid hc
    clear hp hc
    go_wp2_with fail
    refine hK _ _ ?_ ?_ ?_
    · rfl
    · exact RegLin.keeps_below hcm hpr HC_.out (Below.refl _ _)
    · exact rfl
  · intro V W hc hp hd K hK _
    have h6 : (V 13) = .pointer (some ⟨w.heap.size, 15, none⟩) := hd 6 (by decide) (by kernel_rfl) (RegLin.useL_ok (by kernel_rfl))
    clear hd
    have s15 := hc.2.get (k := 15) rfl
    have HC_ := Lib.hid hc
    clear hp hc
    go_wp2_with fail
    refine hK _ _ ?_ ?_ ?_
    · rfl
    · exact RegLin.keeps_below hcm hpr HC_.out (Below.refl _ _)
    · exact rfl
  · intro V W hc hp hd K hK _
    have h4 : W.ownsRow w.heap.size 32 10 (V 11) n1 (A.flatMap enM) := hd 4 (by decide) (by kernel_rfl) (RegLin.useL_ok (by kernel_rfl))
    have h7 : (V 14) = .slice o2 n2 k2 := hd 7 (by decide) (by kernel_rfl) (RegLin.useL_ok (by kernel_rfl))
    clear hd
    skip
    have HC_ := Lib.hid hc
    have hsz := hc.1.size
    have g0 := h4
    have hRW := (HROW2.out).below HC_.out.1
    clear hp hc
    go_wp2_with (refine wpList_append_rows rfl (.tmp 11) (.tmp 14) rfl w.heap.size (V 11) n1 (A.flatMap enM) rfl g0 o2 n2 k2 D2 (by first | exact h7 | (show V 14 = _; exact h7)) hRW (by have := HLN.out; omega) hsz ?_; intro v1 w1 g1 g2)
    refine hK _ _ ?_ ?_ ?_
    · rfl
    · refine RegLin.keeps_by ⟨cop_grown HC_.out.1 g2 g0, cop_var HC_.out.2 g2 g0⟩ (by kernel_rfl) (fun j hj hne hl h => ?_)
      match j, hj, hne, hl, h with
      | 0, _, _, hl, _ => exact Bool.noConfusion (hl.symm.trans (show RegLin.liveB _ 13 [(0, 4), (4, 8), (8, 12)] 8 0 = false from by kernel_rfl))
      | 1, _, _, _, h => exact h
      | 2, _, _, _, h => exact h
      | 3, _, _, _, h => exact h
      | 4, _, _, hl, _ => exact Bool.noConfusion (hl.symm.trans (show RegLin.liveB _ 13 [(0, 4), (4, 8), (8, 12)] 8 4 = false from by kernel_rfl))
      | 5, _, _, _, h => exact h
      | 6, _, _, _, h => exact h
      | 7, _, _, _, h => exact h
      | 8, _, hne, _, _ => exact absurd rfl hne
      | 9, _, _, _, h => exact h
      | 10, _, _, _, h => exact h
      | 11, _, _, _, h => exact h
      | 12, _, _, hl, _ => exact Bool.noConfusion (hl.symm.trans (show RegLin.liveB _ 13 [(0, 4), (4, 8), (8, 12)] 8 12 = false from by kernel_rfl))
      | j + 13, hj, _, _, _ => exact absurd hj (by omega)
    · exact g1
  · intro V W hc hp hd K hK _
    clear hd
    have HC_ := Lib.hid hc
    clear hp hc
    go_wp2_with fail
    refine hK _ _ ?_ ?_ ?_
    · rfl
    · exact RegLin.keeps_below hcm hpr HC_.out (Below.refl _ _)
    · exact rfl
  · intro V W hc hp hd K hK _
    have h9 : (V 16) = .pointer (some ⟨w.heap.size, 14, none⟩) := hd 9 (by decide) (by kernel_rfl) (RegLin.useL_ok (by kernel_rfl))
    clear hd
    have HC_ := Lib.hid hc
    clear hp hc
    go_wp2_with fail
    refine hK _ _ ?_ ?_ ?_
    · rfl
    · exact RegLin.keeps_below hcm hpr HC_.out (Below.refl _ _)
    · exact rfl
  · intro V W hc hp hd K hK _
    have h10 : (V 17) = .pointer (some ⟨w.heap.size, 16, none⟩) := hd 10 (by decide) (by kernel_rfl) (RegLin.useL_ok (by kernel_rfl))
    clear hd
    have s16 := hc.2.get (k := 16) rfl
    have HC_ := Lib.hid hc
    clear hp hc
    go_wp2_with fail
    refine hK _ _ ?_ ?_ ?_
    · rfl
    · exact RegLin.keeps_below hcm hpr HC_.out (Below.refl _ _)
    · exact rfl
  · intro V W hc hp hd K hK _
    have h8 : W.ownsRow w.heap.size 32 10 (V 15) (n1 + n2) (A.flatMap enM ++ D2.flatMap enM) := hd 8 (by decide) (by kernel_rfl) (RegLin.useL_ok (by kernel_rfl))
    have h11 : (V 18) = .slice o3 n3 k3 := hd 11 (by decide) (by kernel_rfl) (RegLin.useL_ok (by kernel_rfl))
    clear hd
    skip
    have HC_ := Lib.hid hc
    have hsz := hc.1.size
    have g0 := h8
    have hRW := (HROW3.out).below HC_.out.1
    clear hp hc
    go_wp2_with (refine wpList_append_rows rfl (.tmp 15) (.tmp 18) rfl w.heap.size (V 15) (n1 + n2) (A.flatMap enM ++ D2.flatMap enM) rfl g0 o3 n3 k3 D3 (by first | exact h11 | (show V 18 = _; exact h11)) hRW (by have := HLN.out; omega) hsz ?_; intro v1 w1 g1 g2)
    refine hK _ _ ?_ ?_ ?_
    · rfl
    · refine RegLin.keeps_by ⟨cop_grown HC_.out.1 g2 g0, cop_var HC_.out.2 g2 g0⟩ (by kernel_rfl) (fun j hj hne hl h => ?_)
      match j, hj, hne, hl, h with
      | 0, _, _, hl, _ => exact Bool.noConfusion (hl.symm.trans (show RegLin.liveB _ 13 [(0, 4), (4, 8), (8, 12)] 12 0 = false from by kernel_rfl))
      | 1, _, _, _, h => exact h
      | 2, _, _, _, h => exact h
      | 3, _, _, _, h => exact h
      | 4, _, _, hl, _ => exact Bool.noConfusion (hl.symm.trans (show RegLin.liveB _ 13 [(0, 4), (4, 8), (8, 12)] 12 4 = false from by kernel_rfl))
      | 5, _, _, _, h => exact h
      | 6, _, _, _, h => exact h
      | 7, _, _, _, h => exact h
      | 8, _, _, hl, _ => exact Bool.noConfusion (hl.symm.trans (show RegLin.liveB _ 13 [(0, 4), (4, 8), (8, 12)] 12 8 = false from by kernel_rfl))
      | 9, _, _, _, h => exact h
      | 10, _, _, _, h => exact h
      | 11, _, _, _, h => exact h
      | 12, _, hne, _, _ => exact absurd rfl hne
      | j + 13, hj, _, _, _ => exact absurd hj (by omega)
    · exact g1
  · intro V W hc hd
    have h12 : W.ownsRow w.heap.size 32 10 (V 19) (n1 + n2 + n3) ((A.flatMap enM ++ D2.flatMap enM) ++ D3.flatMap enM) := hd 12 (by decide) rfl
    clear hd
    simp only [List.drop_succ_cons, List.drop_zero]
    obtain ⟨g1, g3, e19⟩ := row_form h12
    rw [e19] at h12
    have hTW := HT.out.below hc.1
    have hR1 := HROW1.out.below hc.1
    have hR2 := HROW2.out.below hc.1
    have hR3 := HROW3.out.below hc.1
    obtain ⟨L, hL⟩ : ∃ L, L = (A ++ D2) ++ D3 := ⟨_, rfl⟩
    have hLn : n1 + n2 + n3 = L.length := by rw [hL, HNN.out.1, HNN.out.2.1, HNN.out.2.2]; simp; omega
    have hLm : L.map (·.1) = c0.all := by rw [hL, List.append_assoc]; exact HALL.out.1
    have hMR : MRow W (.slice g1 (n1 + n2 + n3) g3) L := ⟨Lst.owned enM_len (by decide) hLn (by rw [hL, List.flatMap_append, List.flatMap_append]; exact h12), fun x hx => by
      rw [hL] at hx
      rcases List.mem_append.1 hx with h | h
      · rcases List.mem_append.1 h with h | h
        · exact hR1.over x h
        · exact hR2.over x h
      · exact hR3.over x h⟩
    have hof := c_ofF (v := .slice g1 (n1 + n2 + n3) g3) w.heap.size hc.1.size hTW hMR (by have := HLN.out; omega) (fun x hx => HALL.out.2.small _ (by rw [← hLm]; exact List.mem_map.2 ⟨x, hx, rfl⟩))
    obtain ⟨c, hcc⟩ : ∃ c, c = Mut.leftOf (L.map (·.1)) := ⟨_, rfl⟩
    have HGOOD := Lib.hid (show Mut.Good c 15 from by rw [hcc]; exact (leftOf_good _).more (by rw [List.length_map, ← hLn]; exact HLN.out))
    rw [← hcc] at hof
    have HOF := Lib.hid hof
    have HCB := Lib.hid hc.1
    have HP1 := Lib.hid hc.2
    clear hc h12 hTW hR1 hR2 hR3 hL hLn hLm hMR hof hcc hcm hpr
    go_wp2_with fail
    refine HOF.out.mono ?_
    rintro e w1 ⟨a1, a2, a3, b1, b2, b3, d1, d2, d3, rfl, hcp, hb1⟩
    have hP1 := HP1.out.below hb1
    obtain ⟨W1, hW1⟩ : ∃ W1, W1 = w1.setRow w.heap.size #[.int .i64 kind, .int .i64 node, .int .i64 rng, .int .i64 op, .int .i64 mt, .int .i64 mk, .string mkey, .string mfin, .string mval, .int .i64 mexp, .int .i64 map, .int .i64 mal, .int .i64 maw, mv, .slice a1 a2 a3, .slice b1 b2 b3, .slice d1 d2 d3, .int .i64 sp, .int .i64 sl, .int .i64 sw, .int .i64 bp, .int .i64 bl, .int .i64 bw, .bool quar, .int .i64 why, .slice qo Q.length qc, .slice no_ NN.length nc, .int .i64 no, .int .i64 table, .string key, .string fin, .slice ro R.length rc, .slice xo X.length xc] := ⟨_, rfl⟩
    have HS1 := Lib.hid (show (Instr.storeAt 35 (.pointer (some ⟨w.heap.size, 14, none⟩)) (.agg #[.slice a1 a2 a3, .slice b1 b2 b3, .slice d1 d2 d3])).run Tryz.prog w1 = .ok () W1 by rw [hW1]; exact hP1.storeK 14 35 [.slice a1 a2 a3, .slice b1 b2 b3, .slice d1 d2 d3] (by kernel_rfl) size_Co (by kernel_rfl) (by kernel_rfl))
    have hV1 : VarAt W1 w.heap.size 39 [.int .i64 kind, .int .i64 node, .int .i64 rng, .int .i64 op, .int .i64 mt, .int .i64 mk, .string mkey, .string mfin, .string mval, .int .i64 mexp, .int .i64 map, .int .i64 mal, .int .i64 maw, mv, .slice a1 a2 a3, .slice b1 b2 b3, .slice d1 d2 d3, .int .i64 sp, .int .i64 sl, .int .i64 sw, .int .i64 bp, .int .i64 bl, .int .i64 bw, .bool quar, .int .i64 why, .slice qo Q.length qc, .slice no_ NN.length nc, .int .i64 no, .int .i64 table, .string key, .string fin, .slice ro R.length rc, .slice xo X.length xc] := by rw [hW1]; exact hP1.row [.int .i64 kind, .int .i64 node, .int .i64 rng, .int .i64 op, .int .i64 mt, .int .i64 mk, .string mkey, .string mfin, .string mval, .int .i64 mexp, .int .i64 map, .int .i64 mal, .int .i64 maw, mv, .slice a1 a2 a3, .slice b1 b2 b3, .slice d1 d2 d3, .int .i64 sp, .int .i64 sl, .int .i64 sw, .int .i64 bp, .int .i64 bl, .int .i64 bw, .bool quar, .int .i64 why, .slice qo Q.length qc, .slice no_ NN.length nc, .int .i64 no, .int .i64 table, .string key, .string fin, .slice ro R.length rc, .slice xo X.length xc]
    have hk1 : KeepT 39 w1 W1 := by rw [hW1]; exact KeepT.row hP1 _
    have hB1 : Below w.heap.size w W1 := by rw [hW1]; exact setRow_below (below_then HCB.out (Nat.le_refl _) hb1) _ (Nat.le_refl _) _
    have HC1 := Lib.hid (hcp.keep hk1)
    have HV1 := Lib.hid hV1
    have HB1 := Lib.hid hB1
    clear hcp hb1 hP1 hW1 hV1 hk1 hB1
    obtain ⟨LA, hLA⟩ : ∃ LA : List Value, LA = [.int .i64 kind, .int .i64 node, .int .i64 rng, .int .i64 op, .int .i64 mt, .int .i64 mk, .string mkey, .string mfin, .string mval, .int .i64 mexp, .int .i64 map, .int .i64 mal, .int .i64 maw, mv, .slice a1 a2 a3, .slice b1 b2 b3, .slice d1 d2 d3, .int .i64 sp, .int .i64 sl, .int .i64 sw, .int .i64 bp, .int .i64 bl, .int .i64 bw, .bool quar, .int .i64 why, .slice qo Q.length qc, .slice no_ NN.length nc, .int .i64 no, .int .i64 table, .string key, .string fin, .slice ro R.length rc, .slice xo X.length xc] := ⟨_, rfl⟩
    obtain ⟨V1, hVV1⟩ : ∃ V1, V1 = Value.agg ⟨LA⟩ := ⟨_, rfl⟩
    have hvE1 : V1 = vE ⟨kind, node, rng, op, (⟨mt, mk, mkey, mfin, mval, mexp, ⟨map, mal, maw⟩, movr⟩, mv), .slice a1 a2 a3, .slice b1 b2 b3, .slice d1 d2 d3, ⟨sp, sl, sw⟩, ⟨bp, bl, bw⟩, quar, why, .slice qo Q.length qc, .slice no_ NN.length nc, no, table, key, fin, .slice ro R.length rc, .slice xo X.length xc⟩ := by rw [hVV1, hLA]; rfl
    have HLA := Lib.hid hLA
    have HVV := Lib.hid (And.intro hVV1 hvE1)
    have HLD1 := Lib.hid (show (Instr.loadAt 39 (.pointer (some ⟨w.heap.size, 0, none⟩))).run Tryz.prog W1 = .ok V1 W1 by
      have h := HV1.out
      rw [← hLA] at h
      rw [hVV1]
      exact h.loadAll 39 33 (by rw [hLA]; rfl) _ Tryz.underlying39 rfl size_Ev)
    have hcpy := copyE_any (CpC w.heap.size c) (fun _ _ _ _ _ h k => h.keep k) ⟨kind, node, rng, op, (⟨mt, mk, mkey, mfin, mval, mexp, ⟨map, mal, maw⟩, movr⟩, mv), .slice a1 a2 a3, .slice b1 b2 b3, .slice d1 d2 d3, ⟨sp, sl, sw⟩, ⟨bp, bl, bw⟩, quar, why, .slice qo Q.length qc, .slice no_ NN.length nc, no, table, key, fin, .slice ro R.length rc, .slice xo X.length xc⟩ Q NN R X W1 (HE.out.1.below HB1.out) HS.out.1.over (Lst.below HE.out.2.1 HB1.out) (by have := HS.out.2.1; omega) (Lst.below HE.out.2.2.1 HB1.out) HS.out.2.2.1 (Lst.below HE.out.2.2.2.1 HB1.out) (by have := HS.out.2.2.2.1; omega) (Lst.below HE.out.2.2.2.2 HB1.out) (by have := HS.out.2.2.2.2.2; omega)
      (fun W' h => join_good w.heap.size (Nat.le_trans HB1.out.size h.size) ((HT.out.below HB1.out).below h) (HC1.out.1.below h).is HGOOD.out (by omega))
    rw [← hvE1] at hcpy
    have HCPY := Lib.hid hcpy
    clear hcpy hLA hVV1 hvE1
    go_wp2_with (first | (refine wpList_store_run rfl 35 _ _ rfl (.pointer (some ⟨w.heap.size, 14, none⟩)) (.agg #[.slice a1 a2 a3, .slice b1 b2 b3, .slice d1 d2 d3]) rfl rfl HS1.out ?_) | (refine wpList_load_run rfl 39 _ rfl (.pointer (some ⟨w.heap.size, 0, none⟩)) V1 rfl HLD1.out ?_))
    refine HCPY.out.mono ?_
    rintro e w3 ⟨mv2, ca2, cb2, cd2, q2, nn2, r2, x2, rfl, hb3, hov2, hcp2, oq, on_, or_, ox⟩
    obtain ⟨vo, vc, ev, -, -⟩ := hov2.form
    obtain ⟨f1, f2, f3, ef⟩ := hcp2.1.cells.slice
    obtain ⟨i1, i2, i3, ei⟩ := hcp2.1.wipes.slice
    obtain ⟨j1, j2, j3, ej⟩ := hcp2.1.sibs.slice
    obtain ⟨q1, q3, eq_⟩ := row_form oq
    obtain ⟨l1, l3, el⟩ := row_form on_
    obtain ⟨r1, r3, er⟩ := row_form or_
    obtain ⟨x1, x3, ex⟩ := row_form ox
    simp only [] at ev
    subst ef ei ej eq_ el er ex
    obtain ⟨m1, hm1⟩ : ∃ m1, m1 = movr.length := ⟨_, rfl⟩
    rw [← hm1] at ev
    subst ev
    obtain ⟨LB, hLB⟩ : ∃ LB : List Value, LB = [.int .i64 kind, .int .i64 node, .int .i64 rng, .int .i64 op, .int .i64 mt, .int .i64 mk, .string mkey, .string mfin, .string mval, .int .i64 mexp, .int .i64 map, .int .i64 mal, .int .i64 maw, .slice vo m1 vc, .slice f1 f2 f3, .slice i1 i2 i3, .slice j1 j2 j3, .int .i64 sp, .int .i64 sl, .int .i64 sw, .int .i64 bp, .int .i64 bl, .int .i64 bw, .bool quar, .int .i64 why, .slice q1 Q.length q3, .slice l1 NN.length l3, .int .i64 no, .int .i64 table, .string key, .string fin, .slice r1 R.length r3, .slice x1 X.length x3] := ⟨_, rfl⟩
    obtain ⟨V2, hVV2⟩ : ∃ V2, V2 = Value.agg ⟨LB⟩ := ⟨_, rfl⟩
    have hvE2 : V2 = vE ⟨kind, node, rng, op, (⟨mt, mk, mkey, mfin, mval, mexp, ⟨map, mal, maw⟩, movr⟩, .slice vo m1 vc), .slice f1 f2 f3, .slice i1 i2 i3, .slice j1 j2 j3, ⟨sp, sl, sw⟩, ⟨bp, bl, bw⟩, quar, why, .slice q1 Q.length q3, .slice l1 NN.length l3, no, table, key, fin, .slice r1 R.length r3, .slice x1 X.length x3⟩ := by rw [hVV2, hLB]; rfl
    simp only [] at hvE2 ⊢
    rw [← hvE2]
    obtain ⟨W4, hW4⟩ : ∃ W4, W4 = w3.alloc (.cells ⟨LB⟩ 39) := ⟨_, rfl⟩
    have HS4 := Lib.hid (show (Instr.storeAt 39 (.pointer (some ⟨w3.heap.size, 0, none⟩)) V2).run Tryz.prog (w3.alloc (.cells #[.int .i64 0, .int .i64 0, .int .i64 0, .int .i64 0, .int .i64 0, .int .i64 0, .string ⟨#[]⟩, .string ⟨#[]⟩, .string ⟨#[]⟩, .int .i64 0, .int .i64 0, .int .i64 0, .int .i64 0, .slice none 0 0, .slice none 0 0, .slice none 0 0, .slice none 0 0, .int .i64 0, .int .i64 0, .int .i64 0, .int .i64 0, .int .i64 0, .int .i64 0, .bool false, .int .i64 0, .slice none 0 0, .slice none 0 0, .int .i64 0, .int .i64 0, .string ⟨#[]⟩, .string ⟨#[]⟩, .slice none 0 0, .slice none 0 0] 39)) = .ok () W4 by
      rw [hVV2, hW4, ← World.setRow_alloc_new w3 #[.int .i64 0, .int .i64 0, .int .i64 0, .int .i64 0, .int .i64 0, .int .i64 0, .string ⟨#[]⟩, .string ⟨#[]⟩, .string ⟨#[]⟩, .int .i64 0, .int .i64 0, .int .i64 0, .int .i64 0, .slice none 0 0, .slice none 0 0, .slice none 0 0, .slice none 0 0, .int .i64 0, .int .i64 0, .int .i64 0, .int .i64 0, .int .i64 0, .int .i64 0, .bool false, .int .i64 0, .slice none 0 0, .slice none 0 0, .int .i64 0, .int .i64 0, .string ⟨#[]⟩, .string ⟨#[]⟩, .slice none 0 0, .slice none 0 0] ⟨LB⟩ 39]
      exact (VarAt.new w3 39 [.int .i64 0, .int .i64 0, .int .i64 0, .int .i64 0, .int .i64 0, .int .i64 0, .string ⟨#[]⟩, .string ⟨#[]⟩, .string ⟨#[]⟩, .int .i64 0, .int .i64 0, .int .i64 0, .int .i64 0, .slice none 0 0, .slice none 0 0, .slice none 0 0, .slice none 0 0, .int .i64 0, .int .i64 0, .int .i64 0, .int .i64 0, .int .i64 0, .int .i64 0, .bool false, .int .i64 0, .slice none 0 0, .slice none 0 0, .int .i64 0, .int .i64 0, .string ⟨#[]⟩, .string ⟨#[]⟩, .slice none 0 0, .slice none 0 0]).storeAll 39 33 LB (by rw [hLB]; rfl) rfl size_Ev (by rw [hLB]; kernel_rfl))
    have hb4 : Below w3.heap.size w3 W4 := by rw [hW4]; exact (Below.refl _ _).alloc (Nat.le_refl _) _
    have HV1' := Lib.hid (show VarAt W4 w.heap.size 39 [.int .i64 kind, .int .i64 node, .int .i64 rng, .int .i64 op, .int .i64 mt, .int .i64 mk, .string mkey, .string mfin, .string mval, .int .i64 mexp, .int .i64 map, .int .i64 mal, .int .i64 maw, mv, .slice a1 a2 a3, .slice b1 b2 b3, .slice d1 d2 d3, .int .i64 sp, .int .i64 sl, .int .i64 sw, .int .i64 bp, .int .i64 bl, .int .i64 bw, .bool quar, .int .i64 why, .slice qo Q.length qc, .slice no_ NN.length nc, .int .i64 no, .int .i64 table, .string key, .string fin, .slice ro R.length rc, .slice xo X.length xc] from (HV1.out.below hb3).below hb4)
    have HV2 := Lib.hid (show VarAt W4 w3.heap.size 39 [.int .i64 kind, .int .i64 node, .int .i64 rng, .int .i64 op, .int .i64 mt, .int .i64 mk, .string mkey, .string mfin, .string mval, .int .i64 mexp, .int .i64 map, .int .i64 mal, .int .i64 maw, .slice vo m1 vc, .slice f1 f2 f3, .slice i1 i2 i3, .slice j1 j2 j3, .int .i64 sp, .int .i64 sl, .int .i64 sw, .int .i64 bp, .int .i64 bl, .int .i64 bw, .bool quar, .int .i64 why, .slice q1 Q.length q3, .slice l1 NN.length l3, .int .i64 no, .int .i64 table, .string key, .string fin, .slice r1 R.length r3, .slice x1 X.length x3] from by rw [hW4, hLB]; exact VarAt.new w3 _ _)
    have HB4 := Lib.hid (show Below w.heap.size w W4 from below_then (below_then HB1.out (Nat.le_refl _) hb3) (Nat.le_refl _) hb4)
    have HC4 := Lib.hid (And.intro ((HC1.out.below hb3).below hb4) (hcp2.below hb4))
    have HO4 := Lib.hid (And.intro (row_below oq hb4) (And.intro (row_below on_ hb4) (And.intro (row_below or_ hb4) (row_below ox hb4))))
    have HM4 := Lib.hid (hov2.below hb4)
    have HM1 := Lib.hid hm1
    clear hLB hVV2 hvE2 hW4 hb4 hb3 hov2 hcp2 oq on_ or_ ox hm1
    go_upto_region 3 with (refine wpList_store_run rfl 39 _ _ rfl (.pointer (some ⟨w3.heap.size, 0, none⟩)) V2 rfl rfl HS4.out ?_)
    have HNE := Lib.hid (fun W => neqS_run2 ⟨sp, sl, sw⟩ ⟨sp, sl, sw⟩ true ((eqS_iff _ _).2 rfl) W)
    unfold vS at HNE
    simp only [Bool.not_true] at HNE
    have hxs : ∀ W, Below W4.heap.size W4 W → Below w.heap.size w W := fun W h => below_then HB4.out (Nat.le_refl _) h
    have HK1 := Lib.hid (fun W (h : Below W4.heap.size W4 W) => refcompare_any (⟨mt, mk, mkey, mfin, mval, mexp, ⟨map, mal, maw⟩, movr⟩, .slice vo m1 vc) (⟨mt, mk, mkey, mfin, mval, mexp, ⟨map, mal, maw⟩, movr⟩, mv) W (HM4.out.below h) (HE.out.1.below (hxs W h)) HS.out.1.over HS.out.1.over)
    unfold vM at HK1
    simp only [muC_self] at HK1
    have HK2 := Lib.hid (fun W (h : Below W4.heap.size W4 W) => equal_big q1 qo q3 qc Q Q W (Lst.owned enI_len (by decide) rfl (row_below HO4.out.1 h)) (Lst.below HE.out.2.1 (hxs W h)) (by have := HS.out.2.1; omega) (by have := HS.out.2.1; omega))
    rw [eqI_self] at HK2
    have HK3 := Lib.hid (fun W (h : Below W4.heap.size W4 W) => equal_big l1 no_ l3 nc NN NN W (Lst.owned enI_len (by decide) rfl (row_below HO4.out.2.1 h)) (Lst.below HE.out.2.2.1 (hxs W h)) HS.out.2.2.1 HS.out.2.2.1)
    rw [eqI_self] at HK3
    have HK4 := Lib.hid (fun W (h : Below W4.heap.size W4 W) => same09_any (.slice r1 R.length r3) (.slice ro R.length rc) R R W (Lst.owned enRw_len (by decide) rfl (row_below HO4.out.2.2.1 h)) (Lst.below HE.out.2.2.2.1 (hxs W h)) (by have := HS.out.2.2.2.1; omega) (by have := HS.out.2.2.2.1; omega))
    rw [(eqWs_iff R R).2 rfl] at HK4
    unfold RetB at HK4
    have HK5 := Lib.hid (fun W (h : Below W4.heap.size W4 W) => same04_any (.slice x1 X.length x3) (.slice xo X.length xc) X X W (Lst.owned enS_len (by decide) rfl (row_below HO4.out.2.2.2 h)) (Lst.below HE.out.2.2.2.2 (hxs W h)) (by have := HS.out.2.2.2.2.2; omega) (by have := HS.out.2.2.2.2.2; omega))
    rw [(eqSs_iff X X).2 rfl] at HK5
    unfold RetB at HK5
    have HK6 := Lib.hid (fun W (h : Below W4.heap.size W4 W) => mine_any _ _ _ c W (HC4.out.2.1.below h))
    have HK7 := Lib.hid (fun W (h : Below W4.heap.size W4 W) => mine_any _ _ _ c W (HC4.out.1.1.below h))
    have HK8 := Lib.hid (fun W (h : Below W4.heap.size W4 W) => refsame8_any _ _ _ _ _ _ c c true W (iff_of_true rfl rfl) (HC4.out.2.1.below h) (HC4.out.1.1.below h) (fun m hm => small_right (HGOOD.out.okc.right m hm)) (fun m hm => small_right (HGOOD.out.okc.right m hm)))
    have HXS := Lib.hid hxs
    clear hxs
    clear HV1
    have HV1 := HV1'
    simp only [Act.put, List.append_eq, List.cons_append, List.nil_append]
    refine wp_region_told [] 75 [false, false, false, false, false, false, false, false, false, false, false, false, false, false, false, false, false, false, false, false, false, false, false, false, true, true, true, true, true, true, true, true, true, true, true, true, true, true, true, true, true, true, true, true, true, true, true, true, true, true, true, true, true, true, true, true, true, true, true, true, true, true, true, true, true, true, true, true, true, true, true, true, true, true, true, true, true, true, true, true, true, true, true, true, true, true, true, true, true, true, true, true, true, true, true, true, true, true, true, false, false, false, false, false, false, false, false, false, false, false, false, false, false, false, false, false, false, false, false, false, false, false, false, false, false, false, false, false, false, false, false, false]
      [sLit (.pointer (some ⟨w3.heap.size, 0, none⟩)),
    sLit (.int .i64 kind),
    sLit (.pointer (some ⟨w.heap.size, 0, none⟩)),
    sLit (.int .i64 kind),
    sLit (.bool false),
    sLit (.bool false),
    sLit (.pointer (some ⟨w3.heap.size, 1, none⟩)),
    sLit (.int .i64 node),
    sLit (.pointer (some ⟨w.heap.size, 1, none⟩)),
    sLit (.int .i64 node),
    sLit (.bool false),
    sLit (.bool false),
    sLit (.bool false),
    sLit (.pointer (some ⟨w3.heap.size, 3, none⟩)),
    sLit (.int .i64 op),
    sLit (.pointer (some ⟨w.heap.size, 3, none⟩)),
    sLit (.int .i64 op),
    sLit (.bool false),
    sLit (.bool false),
    sLit (.bool false),
    sLit (.pointer (some ⟨w3.heap.size, 17, none⟩)),
    sLit (.agg #[.int .i64 sp, .int .i64 sl, .int .i64 sw]),
    sLit (.pointer (some ⟨w.heap.size, 17, none⟩)),
    sLit (.agg #[.int .i64 sp, .int .i64 sl, .int .i64 sw]),
    sLit (.bool false),
    sLit (.bool false),
    sLit (.bool false),
    sLit (.pointer (some ⟨w3.heap.size, 4, none⟩)),
    sLit (.agg #[.int .i64 mt, .int .i64 mk, .string mkey, .string mfin, .string mval, .int .i64 mexp, .int .i64 map, .int .i64 mal, .int .i64 maw, .slice vo m1 vc]),
    sLit (.pointer (some ⟨w.heap.size, 4, none⟩)),
    sLit (.agg #[.int .i64 mt, .int .i64 mk, .string mkey, .string mfin, .string mval, .int .i64 mexp, .int .i64 map, .int .i64 mal, .int .i64 maw, mv]),
    sLit (.int .i64 0),
    sLit (.bool false),
    sLit (.bool false),
    sLit (.bool false),
    sLit (.pointer (some ⟨w3.heap.size, 25, none⟩)),
    sLit (.slice q1 Q.length q3),
    sLit (.pointer (some ⟨w.heap.size, 25, none⟩)),
    sLit (.slice qo Q.length qc),
    sLit (.bool true),
    sLit (.bool false),
    sLit (.bool false),
    sLit (.bool false),
    sLit (.pointer (some ⟨w3.heap.size, 26, none⟩)),
    sLit (.slice l1 NN.length l3),
    sLit (.pointer (some ⟨w.heap.size, 26, none⟩)),
    sLit (.slice no_ NN.length nc),
    sLit (.bool true),
    sLit (.bool false),
    sLit (.bool false),
    sLit (.bool false),
    sLit (.pointer (some ⟨w3.heap.size, 31, none⟩)),
    sLit (.slice r1 R.length r3),
    sLit (.pointer (some ⟨w.heap.size, 31, none⟩)),
    sLit (.slice ro R.length rc),
    sLit (.bool true),
    sLit (.bool false),
    sLit (.bool false),
    sLit (.bool false),
    sLit (.pointer (some ⟨w3.heap.size, 32, none⟩)),
    sLit (.slice x1 X.length x3),
    sLit (.pointer (some ⟨w.heap.size, 32, none⟩)),
    sLit (.slice xo X.length xc),
    sLit (.bool true),
    sLit (.bool false),
    sLit (.bool false),
    sLit (.bool false),
    sLit (.pointer (some ⟨w3.heap.size, 14, none⟩)),
    sLit (.agg #[.slice f1 f2 f3, .slice i1 i2 i3, .slice j1 j2 j3]),
    sLit (.agg #[.slice f1 f2 f3, .slice i1 i2 i3, .slice j1 j2 j3]),
    sLit (.pointer (some ⟨w.heap.size, 14, none⟩)),
    sLit (.agg #[.slice a1 a2 a3, .slice b1 b2 b3, .slice d1 d2 d3]),
    sLit (.agg #[.slice a1 a2 a3, .slice b1 b2 b3, .slice d1 d2 d3]),
    sLit (.bool true),
    sLit (.bool false)] (by kernel_rfl) (by kernel_rfl) (by kernel_rfl) (fun F hF => ?_)
    simp only [over, overL, Nat.reduceAdd] at hF
    obtain rfl := funext hF
    clear hF
    refine ⟨⟨?_, ?_, ?_, ?_, ?_, ?_, ?_, ?_, ?_, ?_, ?_, ?_, ?_, ?_, ?_, ?_, ?_, ?_, ?_, ?_, ?_, ?_, ?_, ?_, ?_, ?_, ?_, ?_, ?_, ?_, ?_, ?_, ?_, ?_, ?_, ?_, ?_, ?_, ?_, ?_, ?_, ?_, ?_, ?_, ?_, ?_, ?_, ?_, ?_, ?_, ?_, ?_, ?_, ?_, ?_, ?_, ?_, ?_, ?_, ?_, ?_, ?_, ?_, ?_, ?_, ?_, ?_, ?_, ?_, ?_, ?_, ?_, ?_, ?_, ?_, trivial⟩, ?_⟩
    · intro V W hb hd K hK _
      clear hd
      go_wp2_with fail
      refine hK _ _ ?_ ?_ ?_ ?_
      · rfl
      · exact Below.refl _ _
      · exact rfl
      · trivial
    · intro V W hb hd K hK _
      have h0 : (V 24) = .pointer (some ⟨w3.heap.size, 0, none⟩) := hd 0 (by kernel_rfl)
      clear hd
      have s0 := (HV2.out.below hb).get (k := 0) rfl
      go_wp2_with fail
      refine hK _ _ ?_ ?_ ?_ ?_
      · rfl
      · exact Below.refl _ _
      · exact rfl
      · trivial
    · intro V W hb hd K hK _
      clear hd
      go_wp2_with fail
      refine hK _ _ ?_ ?_ ?_ ?_
      · rfl
      · exact Below.refl _ _
      · exact rfl
      · trivial
    · intro V W hb hd K hK _
      have h2 : (V 26) = .pointer (some ⟨w.heap.size, 0, none⟩) := hd 2 (by kernel_rfl)
      clear hd
      have s0 := (HV1.out.below hb).get (k := 0) rfl
      go_wp2_with fail
      refine hK _ _ ?_ ?_ ?_ ?_
      · rfl
      · exact Below.refl _ _
      · exact rfl
      · trivial
    · intro V W hb hd K hK _
      have h1 : (V 25) = .int .i64 kind := hd 1 (by kernel_rfl)
      have h3 : (V 27) = .int .i64 kind := hd 3 (by kernel_rfl)
      clear hd
      go_wp2_with fail
      refine hK _ _ ?_ ?_ ?_ ?_
      · rfl
      · exact Below.refl _ _
      · exact rfl
      · trivial
    · intro V W hb hd K hK _
      have h4 : (V 28) = .bool false := hd 4 (by kernel_rfl)
      clear hd
      go_wp2_with fail
      refine hK _ _ ?_ ?_ ?_ ?_
      · rfl
      · exact Below.refl _ _
      · exact rfl
      · trivial
    · intro V W hb hd K hK _
      have h5 : (V 29) = .bool false := hd 5 (by kernel_rfl)
      clear hd
      go_wp2_with fail
      refine hK _ _ ?_ ?_ ?_ ?_
      · rfl
      · exact Below.refl _ _
      · exact rfl
      · trivial
    · intro V W hb hd K hK _
      have h5 : (V 29) = .bool false := hd 5 (by kernel_rfl)
      have h6 : (V 30) = .pointer (some ⟨w3.heap.size, 1, none⟩) := hd 6 (by kernel_rfl)
      clear hd
      have s1 := (HV2.out.below hb).get (k := 1) rfl
      go_wp2_with fail
      refine hK _ _ ?_ ?_ ?_ ?_
      · rfl
      · exact Below.refl _ _
      · exact rfl
      · trivial
    · intro V W hb hd K hK _
      have h5 : (V 29) = .bool false := hd 5 (by kernel_rfl)
      clear hd
      go_wp2_with fail
      refine hK _ _ ?_ ?_ ?_ ?_
      · rfl
      · exact Below.refl _ _
      · exact rfl
      · trivial
    · intro V W hb hd K hK _
      have h5 : (V 29) = .bool false := hd 5 (by kernel_rfl)
      have h8 : (V 32) = .pointer (some ⟨w.heap.size, 1, none⟩) := hd 8 (by kernel_rfl)
      clear hd
      have s1 := (HV1.out.below hb).get (k := 1) rfl
      go_wp2_with fail
      refine hK _ _ ?_ ?_ ?_ ?_
      · rfl
      · exact Below.refl _ _
      · exact rfl
      · trivial
    · intro V W hb hd K hK _
      have h5 : (V 29) = .bool false := hd 5 (by kernel_rfl)
      have h7 : (V 31) = .int .i64 node := hd 7 (by kernel_rfl)
      have h9 : (V 33) = .int .i64 node := hd 9 (by kernel_rfl)
      clear hd
      go_wp2_with fail
      refine hK _ _ ?_ ?_ ?_ ?_
      · rfl
      · exact Below.refl _ _
      · exact rfl
      · trivial
    · intro V W hb hd K hK _
      have h5 : (V 29) = .bool false := hd 5 (by kernel_rfl)
      have h10 : (V 34) = .bool false := hd 10 (by kernel_rfl)
      clear hd
      go_wp2_with fail
      refine hK _ _ ?_ ?_ ?_ ?_
      · rfl
      · exact Below.refl _ _
      · exact rfl
      · trivial
    · intro V W hb hd K hK _
      have h11 : (V 35) = .bool false := hd 11 (by kernel_rfl)
      clear hd
      go_wp2_with fail
      refine hK _ _ ?_ ?_ ?_ ?_
      · rfl
      · exact Below.refl _ _
      · exact rfl
      · trivial
    · intro V W hb hd K hK _
      have h12 : (V 36) = .bool false := hd 12 (by kernel_rfl)
      clear hd
      go_wp2_with fail
      refine hK _ _ ?_ ?_ ?_ ?_
      · rfl
      · exact Below.refl _ _
      · exact rfl
      · trivial
    · intro V W hb hd K hK _
      have h12 : (V 36) = .bool false := hd 12 (by kernel_rfl)
      have h13 : (V 37) = .pointer (some ⟨w3.heap.size, 3, none⟩) := hd 13 (by kernel_rfl)
      clear hd
      have s3 := (HV2.out.below hb).get (k := 3) rfl
      go_wp2_with fail
      refine hK _ _ ?_ ?_ ?_ ?_
      · rfl
      · exact Below.refl _ _
      · exact rfl
      · trivial
    · intro V W hb hd K hK _
      have h12 : (V 36) = .bool false := hd 12 (by kernel_rfl)
      clear hd
      go_wp2_with fail
      refine hK _ _ ?_ ?_ ?_ ?_
      · rfl
      · exact Below.refl _ _
      · exact rfl
      · trivial
    · intro V W hb hd K hK _
      have h12 : (V 36) = .bool false := hd 12 (by kernel_rfl)
      have h15 : (V 39) = .pointer (some ⟨w.heap.size, 3, none⟩) := hd 15 (by kernel_rfl)
      clear hd
      have s3 := (HV1.out.below hb).get (k := 3) rfl
      go_wp2_with fail
      refine hK _ _ ?_ ?_ ?_ ?_
      · rfl
      · exact Below.refl _ _
      · exact rfl
      · trivial
    · intro V W hb hd K hK _
      have h12 : (V 36) = .bool false := hd 12 (by kernel_rfl)
      have h14 : (V 38) = .int .i64 op := hd 14 (by kernel_rfl)
      have h16 : (V 40) = .int .i64 op := hd 16 (by kernel_rfl)
      clear hd
      go_wp2_with fail
      refine hK _ _ ?_ ?_ ?_ ?_
      · rfl
      · exact Below.refl _ _
      · exact rfl
      · trivial
    · intro V W hb hd K hK _
      have h12 : (V 36) = .bool false := hd 12 (by kernel_rfl)
      have h17 : (V 41) = .bool false := hd 17 (by kernel_rfl)
      clear hd
      go_wp2_with fail
      refine hK _ _ ?_ ?_ ?_ ?_
      · rfl
      · exact Below.refl _ _
      · exact rfl
      · trivial
    · intro V W hb hd K hK _
      have h18 : (V 42) = .bool false := hd 18 (by kernel_rfl)
      clear hd
      go_wp2_with fail
      refine hK _ _ ?_ ?_ ?_ ?_
      · rfl
      · exact Below.refl _ _
      · exact rfl
      · trivial
    · intro V W hb hd K hK _
      have h19 : (V 43) = .bool false := hd 19 (by kernel_rfl)
      clear hd
      go_wp2_with fail
      refine hK _ _ ?_ ?_ ?_ ?_
      · rfl
      · exact Below.refl _ _
      · exact rfl
      · trivial
    · intro V W hb hd K hK _
      have h19 : (V 43) = .bool false := hd 19 (by kernel_rfl)
      have h20 : (V 44) = .pointer (some ⟨w3.heap.size, 17, none⟩) := hd 20 (by kernel_rfl)
      clear hd
      have s17 := (HV2.out.below hb).get (k := 17) rfl
      have s18 := (HV2.out.below hb).get (k := 18) rfl
      have s19 := (HV2.out.below hb).get (k := 19) rfl
      go_wp2_with fail
      refine hK _ _ ?_ ?_ ?_ ?_
      · rfl
      · exact Below.refl _ _
      · exact rfl
      · trivial
    · intro V W hb hd K hK _
      have h19 : (V 43) = .bool false := hd 19 (by kernel_rfl)
      clear hd
      go_wp2_with fail
      refine hK _ _ ?_ ?_ ?_ ?_
      · rfl
      · exact Below.refl _ _
      · exact rfl
      · trivial
    · intro V W hb hd K hK _
      have h19 : (V 43) = .bool false := hd 19 (by kernel_rfl)
      have h22 : (V 46) = .pointer (some ⟨w.heap.size, 17, none⟩) := hd 22 (by kernel_rfl)
      clear hd
      have s17 := (HV1.out.below hb).get (k := 17) rfl
      have s18 := (HV1.out.below hb).get (k := 18) rfl
      have s19 := (HV1.out.below hb).get (k := 19) rfl
      go_wp2_with fail
      refine hK _ _ ?_ ?_ ?_ ?_
      · rfl
      · exact Below.refl _ _
      · exact rfl
      · trivial
    · intro V W hb hd K hK _
      have h19 : (V 43) = .bool false := hd 19 (by kernel_rfl)
      have h21 : (V 45) = .agg #[.int .i64 sp, .int .i64 sl, .int .i64 sw] := hd 21 (by kernel_rfl)
      have h23 : (V 47) = .agg #[.int .i64 sp, .int .i64 sl, .int .i64 sw] := hd 23 (by kernel_rfl)
      clear hd
      have HNE2 := HNE.out
      go_wp2_with fail
      refine hK _ _ ?_ ?_ ?_ ?_
      · rfl
      · exact Below.refl _ _
      · exact rfl
      · trivial
    · intro V W hb hd K hK _
      have h19 : (V 43) = .bool false := hd 19 (by kernel_rfl)
      have h24 : (V 48) = .bool false := hd 24 (by kernel_rfl)
      clear hd
      go_wp2_with fail
      refine hK _ _ ?_ ?_ ?_ ?_
      · rfl
      · exact Below.refl _ _
      · exact rfl
      · trivial
    · intro V W hb hd K hK _
      have h25 : (V 49) = .bool false := hd 25 (by kernel_rfl)
      clear hd
      go_wp2_with fail
      refine hK _ _ ?_ ?_ ?_ ?_
      · rfl
      · exact Below.refl _ _
      · exact rfl
      · trivial
    · intro V W hb hd K hK _
      have h26 : (V 50) = .bool false := hd 26 (by kernel_rfl)
      clear hd
      go_wp2_with fail
      refine hK _ _ ?_ ?_ ?_ ?_
      · rfl
      · exact Below.refl _ _
      · exact rfl
      · trivial
    · intro V W hb hd K hK _
      have h26 : (V 50) = .bool false := hd 26 (by kernel_rfl)
      have h27 : (V 51) = .pointer (some ⟨w3.heap.size, 4, none⟩) := hd 27 (by kernel_rfl)
      clear hd
      have s4 := (HV2.out.below hb).get (k := 4) rfl
      have s5 := (HV2.out.below hb).get (k := 5) rfl
      have s6 := (HV2.out.below hb).get (k := 6) rfl
      have s7 := (HV2.out.below hb).get (k := 7) rfl
      have s8 := (HV2.out.below hb).get (k := 8) rfl
      have s9 := (HV2.out.below hb).get (k := 9) rfl
      have s10 := (HV2.out.below hb).get (k := 10) rfl
      have s11 := (HV2.out.below hb).get (k := 11) rfl
      have s12 := (HV2.out.below hb).get (k := 12) rfl
      have s13 := (HV2.out.below hb).get (k := 13) rfl
      go_wp2_with fail
      refine hK _ _ ?_ ?_ ?_ ?_
      · rfl
      · exact Below.refl _ _
      · exact rfl
      · trivial
    · intro V W hb hd K hK _
      have h26 : (V 50) = .bool false := hd 26 (by kernel_rfl)
      clear hd
      go_wp2_with fail
      refine hK _ _ ?_ ?_ ?_ ?_
      · rfl
      · exact Below.refl _ _
      · exact rfl
      · trivial
    · intro V W hb hd K hK _
      have h26 : (V 50) = .bool false := hd 26 (by kernel_rfl)
      have h29 : (V 53) = .pointer (some ⟨w.heap.size, 4, none⟩) := hd 29 (by kernel_rfl)
      clear hd
      have s4 := (HV1.out.below hb).get (k := 4) rfl
      have s5 := (HV1.out.below hb).get (k := 5) rfl
      have s6 := (HV1.out.below hb).get (k := 6) rfl
      have s7 := (HV1.out.below hb).get (k := 7) rfl
      have s8 := (HV1.out.below hb).get (k := 8) rfl
      have s9 := (HV1.out.below hb).get (k := 9) rfl
      have s10 := (HV1.out.below hb).get (k := 10) rfl
      have s11 := (HV1.out.below hb).get (k := 11) rfl
      have s12 := (HV1.out.below hb).get (k := 12) rfl
      have s13 := (HV1.out.below hb).get (k := 13) rfl
      go_wp2_with fail
      refine hK _ _ ?_ ?_ ?_ ?_
      · rfl
      · exact Below.refl _ _
      · exact rfl
      · trivial
    · intro V W hb hd K hK _
      have h26 : (V 50) = .bool false := hd 26 (by kernel_rfl)
      have h28 : (V 52) = .agg #[.int .i64 mt, .int .i64 mk, .string mkey, .string mfin, .string mval, .int .i64 mexp, .int .i64 map, .int .i64 mal, .int .i64 maw, .slice vo m1 vc] := hd 28 (by kernel_rfl)
      have h30 : (V 54) = .agg #[.int .i64 mt, .int .i64 mk, .string mkey, .string mfin, .string mval, .int .i64 mexp, .int .i64 map, .int .i64 mal, .int .i64 maw, mv] := hd 30 (by kernel_rfl)
      clear hd
      have HBB := Lib.hid hb
      clear hb
      go_wp2_with fail
      refine (HK1.out W HBB.out).mono ?_
      rintro e w1 ⟨rfl, hb1⟩
      go_wp2_with fail
      refine hK _ _ ?_ ?_ ?_ ?_
      · rfl
      · exact hb1
      · exact rfl
      · trivial
    · intro V W hb hd K hK _
      have h26 : (V 50) = .bool false := hd 26 (by kernel_rfl)
      have h31 : (V 55) = .int .i64 0 := hd 31 (by kernel_rfl)
      clear hd
      go_wp2_with fail
      refine hK _ _ ?_ ?_ ?_ ?_
      · rfl
      · exact Below.refl _ _
      · exact rfl
      · trivial
    · intro V W hb hd K hK _
      have h26 : (V 50) = .bool false := hd 26 (by kernel_rfl)
      have h32 : (V 56) = .bool false := hd 32 (by kernel_rfl)
      clear hd
      go_wp2_with fail
      refine hK _ _ ?_ ?_ ?_ ?_
      · rfl
      · exact Below.refl _ _
      · exact rfl
      · trivial
    · intro V W hb hd K hK _
      have h33 : (V 57) = .bool false := hd 33 (by kernel_rfl)
      clear hd
      go_wp2_with fail
      refine hK _ _ ?_ ?_ ?_ ?_
      · rfl
      · exact Below.refl _ _
      · exact rfl
      · trivial
    · intro V W hb hd K hK _
      have h34 : (V 58) = .bool false := hd 34 (by kernel_rfl)
      clear hd
      go_wp2_with fail
      refine hK _ _ ?_ ?_ ?_ ?_
      · rfl
      · exact Below.refl _ _
      · exact rfl
      · trivial
    · intro V W hb hd K hK _
      have h34 : (V 58) = .bool false := hd 34 (by kernel_rfl)
      have h35 : (V 59) = .pointer (some ⟨w3.heap.size, 25, none⟩) := hd 35 (by kernel_rfl)
      clear hd
      have s25 := (HV2.out.below hb).get (k := 25) rfl
      go_wp2_with fail
      refine hK _ _ ?_ ?_ ?_ ?_
      · rfl
      · exact Below.refl _ _
      · exact rfl
      · trivial
    · intro V W hb hd K hK _
      have h34 : (V 58) = .bool false := hd 34 (by kernel_rfl)
      clear hd
      go_wp2_with fail
      refine hK _ _ ?_ ?_ ?_ ?_
      · rfl
      · exact Below.refl _ _
      · exact rfl
      · trivial
    · intro V W hb hd K hK _
      have h34 : (V 58) = .bool false := hd 34 (by kernel_rfl)
      have h37 : (V 61) = .pointer (some ⟨w.heap.size, 25, none⟩) := hd 37 (by kernel_rfl)
      clear hd
      have s25 := (HV1.out.below hb).get (k := 25) rfl
      go_wp2_with fail
      refine hK _ _ ?_ ?_ ?_ ?_
      · rfl
      · exact Below.refl _ _
      · exact rfl
      · trivial
    · intro V W hb hd K hK _
      have h34 : (V 58) = .bool false := hd 34 (by kernel_rfl)
      have h36 : (V 60) = .slice q1 Q.length q3 := hd 36 (by kernel_rfl)
      have h38 : (V 62) = .slice qo Q.length qc := hd 38 (by kernel_rfl)
      clear hd
      have HBB := Lib.hid hb
      clear hb
      go_wp2_with fail
      refine (HK2.out W HBB.out).mono ?_
      rintro e w1 ⟨rfl, hb1⟩
      go_wp2_with fail
      refine hK _ _ ?_ ?_ ?_ ?_
      · rfl
      · exact hb1
      · exact rfl
      · trivial
    · intro V W hb hd K hK _
      have h34 : (V 58) = .bool false := hd 34 (by kernel_rfl)
      have h39 : (V 63) = .bool true := hd 39 (by kernel_rfl)
      clear hd
      go_wp2_with fail
      refine hK _ _ ?_ ?_ ?_ ?_
      · rfl
      · exact Below.refl _ _
      · exact rfl
      · trivial
    · intro V W hb hd K hK _
      have h34 : (V 58) = .bool false := hd 34 (by kernel_rfl)
      have h40 : (V 64) = .bool false := hd 40 (by kernel_rfl)
      clear hd
      go_wp2_with fail
      refine hK _ _ ?_ ?_ ?_ ?_
      · rfl
      · exact Below.refl _ _
      · exact rfl
      · trivial
    · intro V W hb hd K hK _
      have h41 : (V 65) = .bool false := hd 41 (by kernel_rfl)
      clear hd
      go_wp2_with fail
      refine hK _ _ ?_ ?_ ?_ ?_
      · rfl
      · exact Below.refl _ _
      · exact rfl
      · trivial
    · intro V W hb hd K hK _
      have h42 : (V 66) = .bool false := hd 42 (by kernel_rfl)
      clear hd
      go_wp2_with fail
      refine hK _ _ ?_ ?_ ?_ ?_
      · rfl
      · exact Below.refl _ _
      · exact rfl
      · trivial
    · intro V W hb hd K hK _
      have h42 : (V 66) = .bool false := hd 42 (by kernel_rfl)
      have h43 : (V 67) = .pointer (some ⟨w3.heap.size, 26, none⟩) := hd 43 (by kernel_rfl)
      clear hd
      have s26 := (HV2.out.below hb).get (k := 26) rfl
      go_wp2_with fail
      refine hK _ _ ?_ ?_ ?_ ?_
      · rfl
      · exact Below.refl _ _
      · exact rfl
      · trivial
    · intro V W hb hd K hK _
      have h42 : (V 66) = .bool false := hd 42 (by kernel_rfl)
      clear hd
      go_wp2_with fail
      refine hK _ _ ?_ ?_ ?_ ?_
      · rfl
      · exact Below.refl _ _
      · exact rfl
      · trivial
    · intro V W hb hd K hK _
      have h42 : (V 66) = .bool false := hd 42 (by kernel_rfl)
      have h45 : (V 69) = .pointer (some ⟨w.heap.size, 26, none⟩) := hd 45 (by kernel_rfl)
      clear hd
      have s26 := (HV1.out.below hb).get (k := 26) rfl
      go_wp2_with fail
      refine hK _ _ ?_ ?_ ?_ ?_
      · rfl
      · exact Below.refl _ _
      · exact rfl
      · trivial
    · intro V W hb hd K hK _
      have h42 : (V 66) = .bool false := hd 42 (by kernel_rfl)
      have h44 : (V 68) = .slice l1 NN.length l3 := hd 44 (by kernel_rfl)
      have h46 : (V 70) = .slice no_ NN.length nc := hd 46 (by kernel_rfl)
      clear hd
      have HBB := Lib.hid hb
      clear hb
      go_wp2_with fail
      refine (HK3.out W HBB.out).mono ?_
      rintro e w1 ⟨rfl, hb1⟩
      go_wp2_with fail
      refine hK _ _ ?_ ?_ ?_ ?_
      · rfl
      · exact hb1
      · exact rfl
      · trivial
    · intro V W hb hd K hK _
      have h42 : (V 66) = .bool false := hd 42 (by kernel_rfl)
      have h47 : (V 71) = .bool true := hd 47 (by kernel_rfl)
      clear hd
      go_wp2_with fail
      refine hK _ _ ?_ ?_ ?_ ?_
      · rfl
      · exact Below.refl _ _
      · exact rfl
      · trivial
    · intro V W hb hd K hK _
      have h42 : (V 66) = .bool false := hd 42 (by kernel_rfl)
      have h48 : (V 72) = .bool false := hd 48 (by kernel_rfl)
      clear hd
      go_wp2_with fail
      refine hK _ _ ?_ ?_ ?_ ?_
      · rfl
      · exact Below.refl _ _
      · exact rfl
      · trivial
    · intro V W hb hd K hK _
      have h49 : (V 73) = .bool false := hd 49 (by kernel_rfl)
      clear hd
      go_wp2_with fail
      refine hK _ _ ?_ ?_ ?_ ?_
      · rfl
      · exact Below.refl _ _
      · exact rfl
      · trivial
    · intro V W hb hd K hK _
      have h50 : (V 74) = .bool false := hd 50 (by kernel_rfl)
      clear hd
      go_wp2_with fail
      refine hK _ _ ?_ ?_ ?_ ?_
      · rfl
      · exact Below.refl _ _
      · exact rfl
      · trivial
    · intro V W hb hd K hK _
      have h50 : (V 74) = .bool false := hd 50 (by kernel_rfl)
      have h51 : (V 75) = .pointer (some ⟨w3.heap.size, 31, none⟩) := hd 51 (by kernel_rfl)
      clear hd
      have s31 := (HV2.out.below hb).get (k := 31) rfl
      go_wp2_with fail
      refine hK _ _ ?_ ?_ ?_ ?_
      · rfl
      · exact Below.refl _ _
      · exact rfl
      · trivial
    · intro V W hb hd K hK _
      have h50 : (V 74) = .bool false := hd 50 (by kernel_rfl)
      clear hd
      go_wp2_with fail
      refine hK _ _ ?_ ?_ ?_ ?_
      · rfl
      · exact Below.refl _ _
      · exact rfl
      · trivial
    · intro V W hb hd K hK _
      have h50 : (V 74) = .bool false := hd 50 (by kernel_rfl)
      have h53 : (V 77) = .pointer (some ⟨w.heap.size, 31, none⟩) := hd 53 (by kernel_rfl)
      clear hd
      have s31 := (HV1.out.below hb).get (k := 31) rfl
      go_wp2_with fail
      refine hK _ _ ?_ ?_ ?_ ?_
      · rfl
      · exact Below.refl _ _
      · exact rfl
      · trivial
    · intro V W hb hd K hK _
      have h50 : (V 74) = .bool false := hd 50 (by kernel_rfl)
      have h52 : (V 76) = .slice r1 R.length r3 := hd 52 (by kernel_rfl)
      have h54 : (V 78) = .slice ro R.length rc := hd 54 (by kernel_rfl)
      clear hd
      have HBB := Lib.hid hb
      clear hb
      go_wp2_with fail
      refine (HK4.out W HBB.out).mono ?_
      rintro e w1 ⟨rfl, hb1⟩
      go_wp2_with fail
      refine hK _ _ ?_ ?_ ?_ ?_
      · rfl
      · exact hb1
      · exact rfl
      · trivial
    · intro V W hb hd K hK _
      have h50 : (V 74) = .bool false := hd 50 (by kernel_rfl)
      have h55 : (V 79) = .bool true := hd 55 (by kernel_rfl)
      clear hd
      go_wp2_with fail
      refine hK _ _ ?_ ?_ ?_ ?_
      · rfl
      · exact Below.refl _ _
      · exact rfl
      · trivial
    · intro V W hb hd K hK _
      have h50 : (V 74) = .bool false := hd 50 (by kernel_rfl)
      have h56 : (V 80) = .bool false := hd 56 (by kernel_rfl)
      clear hd
      go_wp2_with fail
      refine hK _ _ ?_ ?_ ?_ ?_
      · rfl
      · exact Below.refl _ _
      · exact rfl
      · trivial
    · intro V W hb hd K hK _
      have h57 : (V 81) = .bool false := hd 57 (by kernel_rfl)
      clear hd
      go_wp2_with fail
      refine hK _ _ ?_ ?_ ?_ ?_
      · rfl
      · exact Below.refl _ _
      · exact rfl
      · trivial
    · intro V W hb hd K hK _
      have h58 : (V 82) = .bool false := hd 58 (by kernel_rfl)
      clear hd
      go_wp2_with fail
      refine hK _ _ ?_ ?_ ?_ ?_
      · rfl
      · exact Below.refl _ _
      · exact rfl
      · trivial
    · intro V W hb hd K hK _
      have h58 : (V 82) = .bool false := hd 58 (by kernel_rfl)
      have h59 : (V 83) = .pointer (some ⟨w3.heap.size, 32, none⟩) := hd 59 (by kernel_rfl)
      clear hd
      have s32 := (HV2.out.below hb).get (k := 32) rfl
      go_wp2_with fail
      refine hK _ _ ?_ ?_ ?_ ?_
      · rfl
      · exact Below.refl _ _
      · exact rfl
      · trivial
    · intro V W hb hd K hK _
      have h58 : (V 82) = .bool false := hd 58 (by kernel_rfl)
      clear hd
      go_wp2_with fail
      refine hK _ _ ?_ ?_ ?_ ?_
      · rfl
      · exact Below.refl _ _
      · exact rfl
      · trivial
    · intro V W hb hd K hK _
      have h58 : (V 82) = .bool false := hd 58 (by kernel_rfl)
      have h61 : (V 85) = .pointer (some ⟨w.heap.size, 32, none⟩) := hd 61 (by kernel_rfl)
      clear hd
      have s32 := (HV1.out.below hb).get (k := 32) rfl
      go_wp2_with fail
      refine hK _ _ ?_ ?_ ?_ ?_
      · rfl
      · exact Below.refl _ _
      · exact rfl
      · trivial
    · intro V W hb hd K hK _
      have h58 : (V 82) = .bool false := hd 58 (by kernel_rfl)
      have h60 : (V 84) = .slice x1 X.length x3 := hd 60 (by kernel_rfl)
      have h62 : (V 86) = .slice xo X.length xc := hd 62 (by kernel_rfl)
      clear hd
      have HBB := Lib.hid hb
      clear hb
      go_wp2_with fail
      refine (HK5.out W HBB.out).mono ?_
      rintro e w1 ⟨rfl, hb1⟩
      go_wp2_with fail
      refine hK _ _ ?_ ?_ ?_ ?_
      · rfl
      · exact hb1
      · exact rfl
      · trivial
    · intro V W hb hd K hK _
      have h58 : (V 82) = .bool false := hd 58 (by kernel_rfl)
      have h63 : (V 87) = .bool true := hd 63 (by kernel_rfl)
      clear hd
      go_wp2_with fail
      refine hK _ _ ?_ ?_ ?_ ?_
      · rfl
      · exact Below.refl _ _
      · exact rfl
      · trivial
    · intro V W hb hd K hK _
      have h58 : (V 82) = .bool false := hd 58 (by kernel_rfl)
      have h64 : (V 88) = .bool false := hd 64 (by kernel_rfl)
      clear hd
      go_wp2_with fail
      refine hK _ _ ?_ ?_ ?_ ?_
      · rfl
      · exact Below.refl _ _
      · exact rfl
      · trivial
    · intro V W hb hd K hK _
      have h65 : (V 89) = .bool false := hd 65 (by kernel_rfl)
      clear hd
      go_wp2_with fail
      refine hK _ _ ?_ ?_ ?_ ?_
      · rfl
      · exact Below.refl _ _
      · exact rfl
      · trivial
    · intro V W hb hd K hK _
      have h66 : (V 90) = .bool false := hd 66 (by kernel_rfl)
      clear hd
      go_wp2_with fail
      refine hK _ _ ?_ ?_ ?_ ?_
      · rfl
      · exact Below.refl _ _
      · exact rfl
      · trivial
    · intro V W hb hd K hK _
      have h66 : (V 90) = .bool false := hd 66 (by kernel_rfl)
      have h67 : (V 91) = .pointer (some ⟨w3.heap.size, 14, none⟩) := hd 67 (by kernel_rfl)
      clear hd
      have s14 := (HV2.out.below hb).get (k := 14) rfl
      have s15 := (HV2.out.below hb).get (k := 15) rfl
      have s16 := (HV2.out.below hb).get (k := 16) rfl
      go_wp2_with fail
      refine hK _ _ ?_ ?_ ?_ ?_
      · rfl
      · exact Below.refl _ _
      · exact rfl
      · trivial
    · intro V W hb hd K hK _
      have h66 : (V 90) = .bool false := hd 66 (by kernel_rfl)
      have h68 : (V 92) = .agg #[.slice f1 f2 f3, .slice i1 i2 i3, .slice j1 j2 j3] := hd 68 (by kernel_rfl)
      clear hd
      have HBB := Lib.hid hb
      clear hb
      go_wp2_with fail
      refine (HK6.out W HBB.out).mono ?_
      rintro e w1 ⟨rfl, hb1⟩
      go_wp2_with fail
      refine hK _ _ ?_ ?_ ?_ ?_
      · rfl
      · exact hb1
      · exact rfl
      · trivial
    · intro V W hb hd K hK _
      have h66 : (V 90) = .bool false := hd 66 (by kernel_rfl)
      clear hd
      go_wp2_with fail
      refine hK _ _ ?_ ?_ ?_ ?_
      · rfl
      · exact Below.refl _ _
      · exact rfl
      · trivial
    · intro V W hb hd K hK _
      have h66 : (V 90) = .bool false := hd 66 (by kernel_rfl)
      have h70 : (V 94) = .pointer (some ⟨w.heap.size, 14, none⟩) := hd 70 (by kernel_rfl)
      clear hd
      have s14 := (HV1.out.below hb).get (k := 14) rfl
      have s15 := (HV1.out.below hb).get (k := 15) rfl
      have s16 := (HV1.out.below hb).get (k := 16) rfl
      go_wp2_with fail
      refine hK _ _ ?_ ?_ ?_ ?_
      · rfl
      · exact Below.refl _ _
      · exact rfl
      · trivial
    · intro V W hb hd K hK _
      have h66 : (V 90) = .bool false := hd 66 (by kernel_rfl)
      have h71 : (V 95) = .agg #[.slice a1 a2 a3, .slice b1 b2 b3, .slice d1 d2 d3] := hd 71 (by kernel_rfl)
      clear hd
      have HBB := Lib.hid hb
      clear hb
      go_wp2_with fail
      refine (HK7.out W HBB.out).mono ?_
      rintro e w1 ⟨rfl, hb1⟩
      go_wp2_with fail
      refine hK _ _ ?_ ?_ ?_ ?_
      · rfl
      · exact hb1
      · exact rfl
      · trivial
    · intro V W hb hd K hK _
      have h66 : (V 90) = .bool false := hd 66 (by kernel_rfl)
      have h69 : (V 93) = .agg #[.slice f1 f2 f3, .slice i1 i2 i3, .slice j1 j2 j3] := hd 69 (by kernel_rfl)
      have h72 : (V 96) = .agg #[.slice a1 a2 a3, .slice b1 b2 b3, .slice d1 d2 d3] := hd 72 (by kernel_rfl)
      clear hd
      have HBB := Lib.hid hb
      clear hb
      go_wp2_with fail
      refine (HK8.out W HBB.out).mono ?_
      rintro e w1 ⟨rfl, hb1⟩
      go_wp2_with fail
      refine hK _ _ ?_ ?_ ?_ ?_
      · rfl
      · exact hb1
      · exact rfl
      · trivial
    · intro V W hb hd K hK _
      have h66 : (V 90) = .bool false := hd 66 (by kernel_rfl)
      have h73 : (V 97) = .bool true := hd 73 (by kernel_rfl)
      clear hd
      go_wp2_with fail
      refine hK _ _ ?_ ?_ ?_ ?_
      · rfl
      · exact Below.refl _ _
      · exact rfl
      · trivial
    · intro V W hb hd hap
      have h66 : (V 90) = .bool false := hd 66 (by decide)
      have h74 : (V 98) = .bool false := hd 74 (by decide)
      clear hd hap
      simp only [List.drop_succ_cons, List.drop_zero]
      have hB5 : Below w.heap.size w W := below_then HB4.out (Nat.le_refl _) hb
      have HLDX := Lib.hid (fun (Wx : World) (h : VarAt Wx w.heap.size 39 [.int .i64 kind, .int .i64 node, .int .i64 rng, .int .i64 op, .int .i64 mt, .int .i64 mk, .string mkey, .string mfin, .string mval, .int .i64 mexp, .int .i64 map, .int .i64 mal, .int .i64 maw, mv, .slice a1 a2 a3, .slice b1 b2 b3, .slice d1 d2 d3, .int .i64 sp, .int .i64 sl, .int .i64 sw, .int .i64 bp, .int .i64 bl, .int .i64 bw, .bool quar, .int .i64 why, .slice qo Q.length qc, .slice no_ NN.length nc, .int .i64 no, .int .i64 table, .string key, .string fin, .slice ro R.length rc, .slice xo X.length xc]) => (show (Instr.loadAt 39 (.pointer (some ⟨w.heap.size, 0, none⟩))).run Tryz.prog Wx = .ok V1 Wx by
        rw [← HLA.out] at h
        rw [HVV.out.1]
        exact h.loadAll 39 33 (by rw [HLA.out]; rfl) _ Tryz.underlying39 rfl size_Ev))
      have hline := fun (Wx : World) (h : Below w.heap.size w Wx) => line_any ⟨kind, node, rng, op, (⟨mt, mk, mkey, mfin, mval, mexp, ⟨map, mal, maw⟩, movr⟩, mv), .slice a1 a2 a3, .slice b1 b2 b3, .slice d1 d2 d3, ⟨sp, sl, sw⟩, ⟨bp, bl, bw⟩, quar, why, .slice qo Q.length qc, .slice no_ NN.length nc, no, table, key, fin, .slice ro R.length rc, .slice xo X.length xc⟩ Q R Wx (HT.out.below h) HS.out.1 (Lst.below HE.out.2.1 h) (Lst.below HE.out.2.2.2.1 h) (by have := HS.out.2.1; omega) (by have := HS.out.2.2.2.1; omega) (fun r hr => ⟨by have := (HS.out.2.2.2.2.1 r hr).1; omega, by have := (HS.out.2.2.2.2.1 r hr).2; omega⟩)
      obtain ⟨TX, hTX⟩ : ∃ TX, TX = lineF ⟨kind, node, rng, op, (⟨mt, mk, mkey, mfin, mval, mexp, ⟨map, mal, maw⟩, movr⟩, mv), .slice a1 a2 a3, .slice b1 b2 b3, .slice d1 d2 d3, ⟨sp, sl, sw⟩, ⟨bp, bl, bw⟩, quar, why, .slice qo Q.length qc, .slice no_ NN.length nc, no, table, key, fin, .slice ro R.length rc, .slice xo X.length xc⟩ Q R := ⟨_, rfl⟩
      rw [← hTX, ← HVV.out.2] at hline
      have HLINE := Lib.hid hline
      have HI5 := Lib.hid (show CopI w w3.heap.size W1.heap.size [.int .i64 kind, .int .i64 node, .int .i64 rng, .int .i64 op, .int .i64 mt, .int .i64 mk, .string mkey, .string mfin, .string mval, .int .i64 mexp, .int .i64 map, .int .i64 mal, .int .i64 maw, mv, .slice a1 a2 a3, .slice b1 b2 b3, .slice d1 d2 d3, .int .i64 sp, .int .i64 sl, .int .i64 sw, .int .i64 bp, .int .i64 bl, .int .i64 bw, .bool quar, .int .i64 why, .slice qo Q.length qc, .slice no_ NN.length nc, .int .i64 no, .int .i64 table, .string key, .string fin, .slice ro R.length rc, .slice xo X.length xc] [.int .i64 kind, .int .i64 node, .int .i64 rng, .int .i64 op, .int .i64 mt, .int .i64 mk, .string mkey, .string mfin, .string mval, .int .i64 mexp, .int .i64 map, .int .i64 mal, .int .i64 maw, .slice vo m1 vc, .slice f1 f2 f3, .slice i1 i2 i3, .slice j1 j2 j3, .int .i64 sp, .int .i64 sl, .int .i64 sw, .int .i64 bp, .int .i64 bl, .int .i64 bw, .bool quar, .int .i64 why, .slice q1 Q.length q3, .slice l1 NN.length l3, .int .i64 no, .int .i64 table, .string key, .string fin, .slice r1 R.length r3, .slice x1 X.length x3] (.slice q1 Q.length q3) (.slice r1 R.length r3) Q.length R.length W from ⟨HV1.out.below hb, HV2.out.below hb, hB5, ⟨Q, row_below HO4.out.1 hb⟩, ⟨_, row_below HO4.out.2.2.1 hb⟩⟩)
      have HLD5 := Lib.hid (HLDX.out W (HV1.out.below hb))
      have hbase := HB1.out.size
      have hql := HS.out.2.1
      have hrl := HS.out.2.2.2.1
      obtain ⟨nQ, hnQ⟩ : ∃ n, n = Q.length := ⟨_, rfl⟩
      obtain ⟨nR, hnR⟩ : ∃ n, n = R.length := ⟨_, rfl⟩
      rw [← hnQ] at hql
      rw [← hnR] at hrl
      have HNQ := Lib.hid hnQ
      have HNR := Lib.hid hnR
      have HB5 := Lib.hid hB5
      clear hline hTX hB5 hb hnQ hnR
      go_wp2_with (refine wpList_load_run rfl 39 _ rfl (.pointer (some ⟨w.heap.size, 0, none⟩)) V1 rfl HLD5.out ?_)
      refine (HLINE.out W HB5.out).mono ?_
      rintro e w6 ⟨rfl, hb6⟩
      have HI6 := Lib.hid (show CopI w w3.heap.size W1.heap.size [.int .i64 kind, .int .i64 node, .int .i64 rng, .int .i64 op, .int .i64 mt, .int .i64 mk, .string mkey, .string mfin, .string mval, .int .i64 mexp, .int .i64 map, .int .i64 mal, .int .i64 maw, mv, .slice a1 a2 a3, .slice b1 b2 b3, .slice d1 d2 d3, .int .i64 sp, .int .i64 sl, .int .i64 sw, .int .i64 bp, .int .i64 bl, .int .i64 bw, .bool quar, .int .i64 why, .slice qo Q.length qc, .slice no_ NN.length nc, .int .i64 no, .int .i64 table, .string key, .string fin, .slice ro R.length rc, .slice xo X.length xc] [.int .i64 kind, .int .i64 node, .int .i64 rng, .int .i64 op, .int .i64 mt, .int .i64 mk, .string mkey, .string mfin, .string mval, .int .i64 mexp, .int .i64 map, .int .i64 mal, .int .i64 maw, .slice vo m1 vc, .slice f1 f2 f3, .slice i1 i2 i3, .slice j1 j2 j3, .int .i64 sp, .int .i64 sl, .int .i64 sw, .int .i64 bp, .int .i64 bl, .int .i64 bw, .bool quar, .int .i64 why, .slice q1 Q.length q3, .slice l1 NN.length l3, .int .i64 no, .int .i64 table, .string key, .string fin, .slice r1 R.length r3, .slice x1 X.length x3] (.slice q1 Q.length q3) (.slice r1 R.length r3) Q.length R.length w6 from ⟨HI5.out.1.below hb6, HI5.out.2.1.below hb6, below_then HB5.out (Nat.le_refl _) hb6, HI5.out.2.2.2.1.imp fun _ h => row_below h hb6, HI5.out.2.2.2.2.imp fun _ h => row_below h hb6⟩)
      clear hb6
      go_wp2_with fail
      go_loopw [5] (fun iv wr => ∃ k : Nat, k ≤ nQ ∧ iv = .int .i64 k ∧ Hid (CopI w w3.heap.size W1.heap.size [.int .i64 kind, .int .i64 node, .int .i64 rng, .int .i64 op, .int .i64 mt, .int .i64 mk, .string mkey, .string mfin, .string mval, .int .i64 mexp, .int .i64 map, .int .i64 mal, .int .i64 maw, mv, .slice a1 a2 a3, .slice b1 b2 b3, .slice d1 d2 d3, .int .i64 sp, .int .i64 sl, .int .i64 sw, .int .i64 bp, .int .i64 bl, .int .i64 bw, .bool quar, .int .i64 why, .slice qo Q.length qc, .slice no_ NN.length nc, .int .i64 no, .int .i64 table, .string key, .string fin, .slice ro R.length rc, .slice xo X.length xc] [.int .i64 kind, .int .i64 node, .int .i64 rng, .int .i64 op, .int .i64 mt, .int .i64 mk, .string mkey, .string mfin, .string mval, .int .i64 mexp, .int .i64 map, .int .i64 mal, .int .i64 maw, .slice vo m1 vc, .slice f1 f2 f3, .slice i1 i2 i3, .slice j1 j2 j3, .int .i64 sp, .int .i64 sl, .int .i64 sw, .int .i64 bp, .int .i64 bl, .int .i64 bw, .bool quar, .int .i64 why, .slice q1 Q.length q3, .slice l1 NN.length l3, .int .i64 no, .int .i64 table, .string key, .string fin, .slice r1 R.length r3, .slice x1 X.length x3] (.slice q1 Q.length q3) (.slice r1 R.length r3) Q.length R.length wr)) (fun iv _ => nQ - (intOf iv).toNat)
      case atStart => exact ⟨0, Nat.zero_le _, rfl, HI6⟩
      case round =>
        obtain ⟨k, hk, rfl, hI⟩ := hrel
        rw [← HNQ.out, ← HNR.out] at hI
        have s25 : wr.cell? ⟨w3.heap.size, 25, none⟩ = some (.slice q1 nQ q3) := hI.out.2.1.get (k := 25) rfl
        by_cases hlt : k < nQ
        · obtain ⟨Q', hown⟩ := hI.out.2.2.2.1
          obtain ⟨g, rfl⟩ := own_some hown (by omega)
          have hc := hown.cellAt k (by omega)
          have hf := hown.frozenAt k
          have hl := hown.1
          rw [flat_enI] at hc hl
          rw [List.length_map, Nat.mul_one] at hl
          obtain ⟨x, hx⟩ : ∃ x, Q'[k]? = some x := ⟨_, List.getElem?_eq_getElem (by omega)⟩
          rw [List.getElem?_map, hx] at hc
          have hc2 : wr.cell? ⟨g, k, none⟩ = some (.int .i64 x) := hc
          have HI := Lib.hid (fun y => hI.out.q hbase k y)
          clear hc hl hown hx hI
          go_wp2_with fail
          go_roundw
          case rel => exact ⟨k + 1, by omega, by go_num, Lib.hid (by rw [← HNQ.out, ← HNR.out]; exact HI.out _)⟩
          case measure => simp [intOf]; omega
        · obtain rfl : nQ = k := by omega
          obtain ⟨wA, hwA⟩ : ∃ W, W = wr := ⟨_, rfl⟩
          subst hwA
          have HIA := Lib.hid hI.out
          clear hI
          go_wp2_with fail
          go_loopw [6] (fun iv wr => ∃ k : Nat, k ≤ nR ∧ iv = .int .i64 k ∧ Hid (CopI w w3.heap.size W1.heap.size [.int .i64 kind, .int .i64 node, .int .i64 rng, .int .i64 op, .int .i64 mt, .int .i64 mk, .string mkey, .string mfin, .string mval, .int .i64 mexp, .int .i64 map, .int .i64 mal, .int .i64 maw, mv, .slice a1 a2 a3, .slice b1 b2 b3, .slice d1 d2 d3, .int .i64 sp, .int .i64 sl, .int .i64 sw, .int .i64 bp, .int .i64 bl, .int .i64 bw, .bool quar, .int .i64 why, .slice qo nQ qc, .slice no_ NN.length nc, .int .i64 no, .int .i64 table, .string key, .string fin, .slice ro nR rc, .slice xo X.length xc] [.int .i64 kind, .int .i64 node, .int .i64 rng, .int .i64 op, .int .i64 mt, .int .i64 mk, .string mkey, .string mfin, .string mval, .int .i64 mexp, .int .i64 map, .int .i64 mal, .int .i64 maw, .slice vo m1 vc, .slice f1 f2 f3, .slice i1 i2 i3, .slice j1 j2 j3, .int .i64 sp, .int .i64 sl, .int .i64 sw, .int .i64 bp, .int .i64 bl, .int .i64 bw, .bool quar, .int .i64 why, .slice q1 nQ q3, .slice l1 NN.length l3, .int .i64 no, .int .i64 table, .string key, .string fin, .slice r1 nR r3, .slice x1 X.length x3] (.slice q1 nQ q3) (.slice r1 nR r3) nQ nR wr)) (fun iv _ => nR - (intOf iv).toNat)
          case atStart => exact ⟨0, Nat.zero_le _, rfl, HIA⟩
          case round =>
            obtain ⟨k, hk, rfl, hI⟩ := hrel
            have s31 : wr.cell? ⟨w3.heap.size, 31, none⟩ = some (.slice r1 nR r3) := hI.out.2.1.get (k := 31) rfl
            by_cases hlt : k < nR
            · obtain ⟨xs, hown⟩ := hI.out.2.2.2.2
              obtain ⟨g, rfl⟩ := own_some hown (by omega)
              have hc := hown.cellAt (k * 5 + 1) (by omega)
              have hf := hown.frozenAt (k * 5 + 1)
              have hl := hown.1
              obtain ⟨x, hx⟩ : ∃ x, xs[k * 5 + 1]? = some x := ⟨_, List.getElem?_eq_getElem (by omega)⟩
              rw [hx] at hc
              have HI := Lib.hid (fun y => hI.out.r hbase (k * 5 + 1) y)
              clear hl hown hx hI
              go_wp2_with fail
              go_roundw
              case rel => exact ⟨k + 1, by omega, by go_num, Lib.hid (HI.out _)⟩
              case measure => simp [intOf]; omega
            · obtain rfl : nR = k := by omega
              have HIB := hI
              clear hI
              have HLD9 := Lib.hid (HLDX.out wr (by have h := HIB.out.1; rw [HNQ.out, HNR.out] at h; exact h))
              go_wp2_with (refine wpList_load_run rfl 39 _ rfl (.pointer (some ⟨w.heap.size, 0, none⟩)) V1 rfl HLD9.out ?_)
              refine (HLINE.out wr HIB.out.2.2.1).mono ?_
              rintro e w9 ⟨rfl, hb9⟩
              have HB9 := Lib.hid (below_then HIB.out.2.2.1 (Nat.le_refl _) hb9)
              clear hb9
              go_wp2_with fail
              go_ret
              exact ⟨by simp, HB9.out⟩
end Go.Proofs.YtljlbkichcjlfaaGreatDoor.Trc
