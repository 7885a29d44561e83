/- Layer 6 (dots): Covers, Same. -/
import Derived.Test.YtihfcohebgemdaaDotCov
set_option linter.unusedSimpArgs false
set_option linter.unusedVariables false
namespace Go.Proofs.Ytihfcohebgemdaa.Dots
open Go.RowKit Go.Maps Go.Sort Go.Shelf Go.Proofs.Ytihfcohebgemdaa.Vec Go.Proofs.Ytihfcohebgemdaa.Spare Go.Proofs.Ytihfcohebgemdaa.Ints

attribute [local go_sem] Oper.semAt_some

set_option maxRecDepth 100000 in
set_option maxHeartbeats 4000000 in
theorem dots_covers_any (va vb : Value) (A B : List P) (w : World) (hva : SAt w va A) (hvb : SAt w vb B) (hA : Nice A) (hB : Nice B) :
    Calls Try.prog 21 #[va, vb] w fun e w' => e = .returned (.bool (coversD A B)) ∧ Below w.heap.size w w' := by
  have gB := hB.kn.1
  have sB := hB.kn.2.1
  have lB := hB.kn.2.2
  have gA := hA.kn.1
  have HVA := Lib.hid hva
  have HVB := Lib.hid hvb
  obtain ⟨oa, ao, ac, eva, ha1, ha2⟩ := hva
  obtain ⟨ob, bo, bc, evb, hb1, hb2⟩ := hvb
  have hab := ha1.lt
  have hbb := hb1.lt
  obtain ⟨LQ, hLQ⟩ := to_Q gB sB
  subst eva evb
  obtain ⟨na, hna⟩ : ∃ n, n = (rs A).length := ⟨_, rfl⟩
  obtain ⟨nb, hnb⟩ : ∃ n, n = (rs B).length := ⟨_, rfl⟩
  rw [← hna] at HVA ⊢
  rw [← hnb] at HVB ⊢
  rw [← hnb] at hb2
  have HNB := Lib.hid hnb
  have HB2 := Lib.hid hb2
  have hca := HVA.out
  clear hna hnb ha2 hb2
  refine (callsIn_wide (n := 9)).1 ?_
  refine callsIn_of_wp_marks Try.func21 rfl trivial ?_ rfl
  simp only [Try.ntmps21, List.size_toArray, List.length_cons, List.length_nil, Nat.reduceAdd, Nat.reduceSub, Array.replicate_succ, Array.replicate_zero, List.push_toArray, List.append_toArray, List.nil_append, List.cons_append]
  gi_wp2_with (first
    | (refine ⟨trivial, ?_⟩; gi_at_call 52; refine (dots_in _ _ _).mono ?_; rintro e w' ⟨rfl, rfl⟩))
  obtain ⟨W0, hW0⟩ : ∃ W0, W0 = (((w.alloc (.cells #[.map oa, .slice ao na ac] 40)).alloc (.cells #[.map ob, .slice bo nb bc] 40)).alloc (.cells #[.bool false] 4)).alloc (.cells #[.map ob] 38) := ⟨_, rfl⟩
  rw [← hW0]
  have hs0 : W0.heap.size = w.heap.size + 1 + 1 + 1 + 1 := by rw [hW0]; simp
  have hb0 : Below w.heap.size w W0 := by rw [hW0]; exact ((((Below.refl _ _).alloc (Nat.le_refl _) _).alloc (by simp) _).alloc (by simp; omega) _).alloc (by simp; omega) _
  have bxa : SetIn W0 w.heap.size (.agg #[.map oa, .slice ao na ac]) := by
    rw [hW0]
    refine ⟨oa, ao, na, ac, rfl, ?_⟩
    exact ((Below.heap_alloc _ _ w.heap.size (by simp; omega)).trans ((Below.heap_alloc _ _ w.heap.size (by simp; omega)).trans ((Below.heap_alloc _ _ w.heap.size (by simp)).trans (heap_alloc_new w _))))
  have bxb : SetIn W0 (w.heap.size + 1) (.agg #[.map ob, .slice bo nb bc]) := by
    rw [hW0]
    refine ⟨ob, bo, nb, bc, rfl, ?_⟩
    have h := heap_alloc_new (w.alloc (.cells #[.map oa, .slice ao na ac] 40)) (.cells #[.map ob, .slice bo nb bc] 40)
    rw [World.size_alloc] at h
    exact (Below.heap_alloc _ _ (w.heap.size + 1) (by simp)).trans ((Below.heap_alloc _ _ (w.heap.size + 1) (by simp)).trans h)
  have bxr : Boxed W0 (w.heap.size + 1 + 1) 4 (.bool false) := by
    rw [hW0]
    have := Boxed.new ((w.alloc (.cells #[.map oa, .slice ao na ac] 40)).alloc (.cells #[.map ob, .slice bo nb bc] 40)) 4 (.bool false)
    simp only [World.size_alloc] at this
    exact this.alloc _
  have bxv : Boxed W0 (w.heap.size + 1 + 1 + 1) 38 (.map ob) := by
    rw [hW0]
    have := Boxed.new (((w.alloc (.cells #[.map oa, .slice ao na ac] 40)).alloc (.cells #[.map ob, .slice bo nb bc] 40)).alloc (.cells #[.bool false] 4)) 38 (.map ob)
    simp only [World.size_alloc] at this
    exact this
  have hva0 : OMap W0 oa (kn A) := ha1.below hb0
  have hvb0 : OMap W0 ob (kn B) := hb1.below hb0
  clear hW0
  refine wpIn_rangeFunc_ownH rfl (by omega) (gf := 77) (lb := #[.pointer (some ⟨w.heap.size + 1 + 1 + 1, 0, none⟩)]) rfl trivial (enters_of Try.func77 (by kernel_rfl) rfl)
    (dots_stops _ (by omega) (w.heap.size + 1 + 1 + 1) ob [] (kn B) LQ hLQ (by omega) gB.1 W0 bxv hvb0 (fun i hi => by cases hi)) KV.trans (fun W l o o' hl hW ho _ => KV.put (fun B hB => by cases hB) W l o o' hl hW ho) (Below.refl _ _) (fun _ => rfl)
    (fun pre W => ((SetIn W w.heap.size (.agg #[.map oa, .slice ao na ac]) ∧ SetIn W (w.heap.size + 1) (.agg #[.map ob, .slice bo nb bc])) ∧ Boxed W (w.heap.size + 1 + 1) 4 (.bool false) ∧ KnownIn A (vals pre)) ∧ Below w.heap.size W0 W)
    (fun c pre W => ((c = .ret ∧ ¬ KnownIn A (vals pre)) ∧ Boxed W (w.heap.size + 1 + 1) 4 (.bool false)) ∧ Below w.heap.size W0 W)
    (OwnFrom.and (fun s X Y row hs hgr hr => ⟨⟨hs.1.1.own hgr (fun r e => (hr r e).2), hs.1.2.own hgr (fun r e => (hr r e).2)⟩, own_box hs.2.1 hgr (fun r e => (hr r e).2), hs.2.2⟩) (ownFrom_below (by omega) (by omega)))
    (fun c => OwnFrom.and (fun s X Y row hs hgr hr => ⟨hs.1, own_box hs.2 hgr (fun r e => (hr r e).2)⟩) (ownFrom_below (by omega) (by omega)))
    ⟨⟨⟨bxa, bxb⟩, bxr, fun x hx => by cases hx⟩, Below.refl _ _⟩
    (fun x a' W => ∃ q, DotAt W q x.1 ∧ W0.heap.size ≤ q ∧ a' = { tmps := #[.agg #[.map oa, .slice ao na ac], .agg #[.map ob, .slice bo nb bc], .pointer (some ⟨w.heap.size, 0, none⟩), .pointer (some ⟨w.heap.size + 1, 0, none⟩), .pointer (some ⟨w.heap.size + 1 + 1, 0, none⟩), .pointer (some ⟨q, 0, none⟩), undef, .pointer (some ⟨w.heap.size + 1, 0, none⟩), .map ob, .func (.func 77) #[] #[.pointer (some ⟨w.heap.size + 1 + 1 + 1, 0, none⟩)], .agg #[.int .i64 x.1.who, .int .i64 x.1.n], undef, undef, undef, undef, undef, undef, undef, undef, undef, undef, undef, undef, undef, undef, undef, undef, undef, undef, undef, undef, undef, undef, undef, undef], defers := [] })
    (fun x a' _ X Y row hs hgr hr => by obtain ⟨q, e1, e2, e3⟩ := hs; exact ⟨q, dotAt_own e1 hgr (fun r e => (hr r e).2), e2, e3⟩)
    ?assign ?body ?done ?stop
  case assign =>
    rintro l pre x W K ⟨⟨⟨c0, c1⟩, c2, c3⟩, hB⟩ hK
    have hs := hB.size
    gi_wp2
    exact hK _ _ ((KeepsOthers.alloc _ _).from _) (kv_below (fun B hB => by cases hB) ((Below.refl _ _).alloc (Nat.le_refl _) _)) ⟨⟨⟨c0.below ((Below.refl _ _).alloc (Nat.le_refl _) _), c1.below ((Below.refl _ _).alloc (Nat.le_refl _) _)⟩, c2.alloc _, c3⟩, hB.alloc (by omega) _⟩ ⟨W.heap.size, World.alloc_heap_new W _, hs, rfl⟩
  case body =>
    rintro l pre x a' W hl _ ⟨⟨⟨c0, c1⟩, c2, c3⟩, hB⟩ ⟨q, hq, hq0, rfl⟩ hlt
    have hs := hB.size
    have hxb := x.bd
    have hxs := x.2.2
    obtain ⟨d0, d1⟩ := hq.cells
    have C := Lib.hid (And.intro c0 (And.intro c1 (And.intro c2 (And.intro c3 hB))))
    have HQ := Lib.hid hq
    have hwW : Below w.heap.size w W := hb0.trans hB
    have HWW := Lib.hid hwW
    have hlook := (ha1.below hwW).at (x := x.1.who) (by omega) hxs
    have hgn := gA.nonneg x.1.who
    have HHK := Lib.hid (fun j (h1 : 1 ≤ j) (h2 : j ≤ getF (kn A) x.1.who) => (mem_parts hA.fine ⟨x.1.who, j⟩).2 (Or.inl ⟨(right_iff _).2 ⟨hxb.1, h1, by show j ≤ _; omega⟩, h2⟩))
    obtain ⟨g, hg⟩ : ∃ g, g = getF (kn A) x.1.who := ⟨_, rfl⟩
    rw [← hg] at hlook hgn HHK
    have g0 : W.cell? ⟨w.heap.size, 0, none⟩ = some (.map oa) := by
      obtain ⟨o, ao', n', ac', e, h⟩ := c0
      injection e with e
      cases e
      rw [cell_of_row W _ 0 _ _ (0, 0) h]; rfl
    clear c0 c1 c2 c3 hg hq hwW
    gi_wp2
    gi_loopw [6] (fun iv wr => ∃ j : Int, iv = .int .i64 j ∧ g + 1 ≤ j ∧ j ≤ max (g + 1) (x.1.n + 1) ∧ Hid (∀ i, 1 ≤ i → i < j → (⟨x.1.who, i⟩ : P) ∈ A) ∧ Hid (Below W.heap.size W wr)) (fun iv _ => (x.1.n + 1 - vInt iv).toNat)
    case atStart => exact ⟨g + 1, rfl, by omega, by omega, Lib.hid (fun i h1 h2 => HHK.out i h1 (by omega)), Lib.hid (Below.refl _ _)⟩
    case round =>
      obtain ⟨j, rfl, hj1, hj2, hin, hb⟩ := hrel
      have hbs := hb.out.size
      obtain ⟨d0', d1'⟩ := (HQ.out.below hb.out).cells
      have hc0 := C.out.1.below hb.out
      have g0' : wr.cell? ⟨w.heap.size, 0, none⟩ = some (.map oa) ∧ wr.cell? ⟨w.heap.size, 1, none⟩ = some (.slice ao na ac) := by
        obtain ⟨o, ao', n', ac', e, h⟩ := hc0
        injection e with e
        cases e
        exact ⟨by rw [cell_of_row wr _ 0 _ _ (0, 0) h]; rfl, by rw [cell_of_row wr _ 1 _ _ (0, 0) h]; rfl⟩
      obtain ⟨g0', g1'⟩ := g0'
      clear hc0 d0 d1 g0 hlook
      by_cases hjn : j ≤ x.1.n
      · obtain ⟨r, hr⟩ : ∃ r, hasD A ⟨x.1.who, j⟩ = r := ⟨_, rfl⟩
        have HHAS := Lib.hid (has_lit r _ A ⟨x.1.who, j⟩ wr hr (HVA.out.below (HWW.out.trans (hb.out.mono HWW.out.size))) hA (by show _ ≤ x.1.who; omega) hxs)
        have HR := Lib.hid hr
        clear hr
        cases r
        · gi_wp2_with (refine ⟨trivial, ?_⟩; gi_at_call 16; refine (CallsIn.inRound l (callsIn_wide.2 HHAS.out)).mono ?_; rintro e w4 ⟨rfl, hb4⟩; have hc2 := box_below (box_below C.out.2.2.1 hb.out) hb4; have e1 := hc2.cell; have f1 := hc2.frozen)
          have hb6 : Below W.heap.size W w4 := below_then hb.out (Nat.le_refl _) hb4
          exact ⟨(KeepsFrom.of_grownBy (row := none) ⟨hb6.os, hb6.tape, hb6.output, hb6.size, fun i hi _ => hb6.block i hi⟩ (fun j e => by cases e)).trans ((KeepsOthers.setCell _ _ _).from _), ⟨⟨rfl, fun hk => by
            have h1 := hk x.1 (by rw [vals_snoc]; simp) j (by omega) hjn
            have h2 := (hasD_iff A _).2 h1
            rw [HR.out] at h2
            cases h2⟩, hc2.set _⟩, (below_then C.out.2.2.2.2 (by omega) hb6).setCell (p := ⟨w.heap.size + 1 + 1, 0, none⟩) (by simp; omega) _⟩
        · have HMEM := Lib.hid ((hasD_iff A ⟨x.1.who, j⟩).1 HR.out)
          gi_wp2_with (refine ⟨trivial, ?_⟩; gi_at_call 16; refine (CallsIn.inRound l (callsIn_wide.2 HHAS.out)).mono ?_; rintro e w4 ⟨rfl, hb4⟩)
          go_roundw
          case rel => exact ⟨j + 1, by go_num, by omega, by omega, Lib.hid (fun i h1 h2 => by
            by_cases e : i = j
            · subst e; exact HMEM.out
            · exact hin.out i h1 (by omega)), Lib.hid (below_then hb.out (Nat.le_refl _) hb4)⟩
          case measure => simp [vInt]; omega
      · have HJ := Lib.hid (fun i (h1 : 1 ≤ i) (h2 : i ≤ x.1.n) => hin.out i h1 (by omega))
        gi_wp2
        have hb6 := hb.out
        exact ⟨KeepsFrom.of_grownBy (row := none) ⟨hb6.os, hb6.tape, hb6.output, hb6.size, fun i hi _ => hb6.block i hi⟩ (fun j e => by cases e), kv_below (fun B hB => by cases hB) hb6, ⟨⟨C.out.1.below hb6, C.out.2.1.below hb6⟩, box_below C.out.2.2.1 hb6, fun y hy i h1 h2 => by
          rw [vals_snoc] at hy
          rcases List.mem_append.1 hy with h | h
          · exact C.out.2.2.2.1 y h i h1 h2
          · simp at h; subst h; exact HJ.out i h1 h2⟩, below_then C.out.2.2.2.2 (by omega) hb6⟩
  case done =>
    rintro D ys W hD rfl ⟨⟨⟨c0, c1⟩, c2, c3⟩, hBl⟩ hK
    have hvy : vals ys = kn B := hLQ.symm
    rw [hvy] at c3
    have hs := hBl.size
    have HWW := Lib.hid (hb0.trans hBl)
    obtain ⟨r, hr⟩ : ∃ r, (rs B).any (fun d => !hasD A d) = r := ⟨_, rfl⟩
    have hcon := contains_any (.slice bo nb bc) (rs B) 54 #[.pointer (some ⟨w.heap.size, 0, none⟩)] (fun d => !hasD A d) W (Lst.below HB2.out HWW.out) (by have := hB.rs.2.2; omega)
      (fun x hx w' hb' => covers1_any w.heap.size _ A x w' (c0.below hb') (HVA.out.below (HWW.out.trans (hb'.mono HWW.out.size))) hA (by have := (right_iff x).1 (hB.rs.1.ok x hx); omega) (hB.rs.2.1 x hx)) (enters_of Try.func54 (by kernel_rfl) rfl)
    rw [hr] at hcon
    have HCON := Lib.hid hcon
    have HR := Lib.hid (show coversD A B = !r from by
      have h := covers_eq hA hB
      cases r with
      | true =>
        obtain ⟨x, hx, e⟩ := List.any_eq_true.1 hr
        cases q : coversD A B with
        | false => rfl
        | true =>
          have h2 := (hasD_iff A x).2 ((h.1 q).2 x hx)
          rw [h2] at e
          cases e
      | false =>
        refine h.2 ⟨c3, fun x hx => ?_⟩
        have := List.any_eq_false.1 hr x hx
        exact (hasD_iff A x).1 (by simpa using this))
    have g1 : W.cell? ⟨w.heap.size + 1, 1, none⟩ = some (.slice bo nb bc) := by
      obtain ⟨o, ao', n', ac', e, h⟩ := c1
      injection e with e
      cases e
      rw [cell_of_row W _ 1 _ _ (0, 0) h]; rfl
    have hDl : D < W.heap.size := (Array.getElem?_eq_some_iff.1 hK).1
    clear hcon hr c3 hvy
    gi_wp2_with (refine ⟨trivial, ?_⟩; gi_at_call 53; refine (callsIn_wide.2 HCON.out).mono ?_; rintro e w5 ⟨rfl, hb5⟩; have hc2 := box_below c2 hb5; have e1 := hc2.cell; have f1 := hc2.frozen)
    have hK5 := (hb5.block D hDl).trans hK
    have hK' := (KeepsOthers.setCell w5 ⟨w.heap.size + 1 + 1, 0, none⟩ (.bool (!r))).same D _ hK5 rfl
    refine ⟨by simp, .inl ⟨_, _, rfl, run_takeDeferred hK', ?_⟩⟩
    have e2 := (own_box (hc2.set (.bool (!r))) (grownBy_putObj' _ D (.deferred none)) (fun r e => by cases e; exact ⟨_, hK', rfl⟩)).cell
    have hB5 := below_then hBl (by omega) hb5
    exact ⟨.bool (!r), by simp [results, Try.f21, go_sem, e2], by rw [HR.out], hb0.trans ((hB5.setCell (p := ⟨w.heap.size + 1 + 1, 0, none⟩) (by simp; omega) _).trans (belowK_b (w := w) (Nat.le_refl _) _ D _ _ (by omega) hK' rfl rfl))⟩
  case stop =>
    rintro D c pre W hD ⟨k, hk, hpre⟩ ⟨⟨⟨rfl, hnot⟩, c1⟩, hBl⟩ hK
    have hcov : coversD A B = false := by
      cases hcv : coversD A B with
      | false => rfl
      | true =>
        exfalso
        refine hnot fun y hy => ((covers_eq hA hB).1 hcv).1 y ?_
        rw [hLQ]
        obtain ⟨z, hz, rfl⟩ := List.mem_map.1 hy
        exact List.mem_map.2 ⟨z, List.mem_of_mem_take (by rw [← hpre]; exact hz), rfl⟩
    have HCOV := Lib.hid hcov
    clear hcov hnot hpre
    gi_wp2
    refine ⟨by simp, .inl ⟨_, _, rfl, run_takeDeferred hK, ?_⟩⟩
    have e1 := (own_box c1 (grownBy_putObj' W D (.deferred none)) (fun r e => by cases e; exact ⟨_, hK, rfl⟩)).cell
    exact ⟨.bool false, by simp [results, Try.f21, go_sem, e1], by rw [HCOV.out], hb0.trans (hBl.trans (belowK_b (w := w) (Nat.le_refl _) W D _ _ (by omega) hK rfl rfl))⟩
theorem covers_lit (q : Bool) (va vb : Value) (A B : List P) (w : World) (h : coversD A B = q) (hva : SAt w va A) (hvb : SAt w vb B) (hA : Nice A) (hB : Nice B) :
    Calls Try.prog 21 #[va, vb] w fun e w' => e = .returned (.bool q) ∧ Below w.heap.size w w' := by
  subst h; exact dots_covers_any va vb A B w hva hvb hA hB

theorem order_zero {K K' : List P} (hK : Vec.Good K) (hK' : Vec.Good K') : (orderF K K' == 0) = decide (K = K') := by
  have h1 : coversF K K' = true ↔ ∀ x ∈ K', x.n ≤ getF K x.who := by unfold coversF; simp
  have h2 : coversF K' K = true ↔ ∀ x ∈ K, x.n ≤ getF K' x.who := by unfold coversF; simp
  by_cases e : K = K'
  · subst e
    have h3 : coversF K K = true := h1.2 fun x hx => by rw [getF_some hK.1 hx]; omega
    simp [orderF, h3]
  · have hn : ¬ (coversF K K' = true ∧ coversF K' K = true) := fun ⟨a, b⟩ => e (Vec.Good.ext hK hK' fun w => by
      have a' := h1.1 a
      have b' := h2.1 b
      have n1 := hK.nonneg w
      have n2 := hK'.nonneg w
      rcases getF_cases K w with c1 | ⟨x, hx, hw, hxn⟩ <;> rcases getF_cases K' w with c2 | ⟨y, hy, hw2, hyn⟩
      · omega
      · have := a' y hy; rw [hw2] at this; omega
      · have := b' x hx; rw [hw] at this; omega
      · have q1 := a' y hy; have q2 := b' x hx; rw [hw2] at q1; rw [hw] at q2; omega)
    rw [decide_eq_false e]
    unfold orderF
    rw [if_neg hn]
    split
    · rfl
    · split <;> rfl

def sameD (A B : List P) : Bool := decide (A = B)
set_option maxHeartbeats 1000000 in
theorem dots_same_any (va vb : Value) (A B : List P) (w : World) (hva : SAt w va A) (hvb : SAt w vb B) (hA : Nice A) (hB : Nice B) :
    Calls Try.prog 23 #[va, vb] w fun e w' => e = .returned (.bool (sameD A B)) ∧ Below w.heap.size w w' := by
  obtain ⟨oa, ao, ac, rfl, ha1, ha2⟩ := hva
  obtain ⟨ob, bo, bc, rfl, hb1, hb2⟩ := hvb
  have hsp := same_parts hA.fine hB.fine
  have HCP := Lib.hid (fun w' (hb : Below w.heap.size w w') => compare_any oa ob (kn A) (kn B) w' hA.kn.1 hA.kn.2.1 hB.kn.1 hB.kn.2.1 (ha1.below hb) (hb1.below hb) (by have := hA.kn.2.2; omega) (by have := hB.kn.2.2; omega))
  have HEQ := Lib.hid (fun w' (hb : Below w.heap.size w w') => equal_any ao bo ac bc (rs A) (rs B) w' (Lst.below ha2 hb) (Lst.below hb2 hb) (by have := hA.rs.2.2; omega) (by have := hB.rs.2.2; omega))
  have hz := order_zero hA.kn.1 hB.kn.1
  have hr := eqR_iff (rs A) (rs B)
  have hbw : Below w.heap.size w ((w.alloc (.cells #[.map oa, .slice ao (rs A).length ac] 40)).alloc (.cells #[.map ob, .slice bo (rs B).length bc] 40)) := ((Below.refl _ _).alloc (Nat.le_refl _) _).alloc (by simp) _
  have HBW := Lib.hid hbw
  obtain ⟨c, hc⟩ : ∃ c, c = orderF (kn A) (kn B) := ⟨_, rfl⟩
  obtain ⟨q, hq⟩ : ∃ q, q = eqR (rs A) (rs B) := ⟨_, rfl⟩
  rw [← hc] at HCP hz
  rw [← hq] at HEQ hr
  have HS := Lib.hid (show sameD A B = ((c == 0) && q) from by
    unfold sameD
    rw [hz]
    by_cases e1 : kn A = kn B
    · cases q
      · rw [Bool.and_false]; exact decide_eq_false fun e => by have := hr.2 (hsp.1 e).2; cases this
      · rw [decide_eq_true e1]; exact decide_eq_true (hsp.2 ⟨e1, hr.1 rfl⟩)
    · rw [decide_eq_false e1, Bool.false_and]; exact decide_eq_false fun e => e1 (hsp.1 e).1)
  rw [HS.out]
  clear hsp hz hr hc hq hbw ha1 ha2 hb1 hb2 HS
  cases hcz : (c == 0)
  · go_enter Try.func23, Try.ntmps23
    go_wp2_with fail
    refine (HCP.out _ HBW.out).mono ?_
    rintro e w2 ⟨rfl, hb2⟩
    have HB2 := Lib.hid (below_then HBW.out (by simp) hb2)
    clear hb2
    go_wp2_with fail
    go_ret
    exact ⟨rfl, HB2.out⟩
  · go_enter Try.func23, Try.ntmps23
    go_wp2_with fail
    refine (HCP.out _ HBW.out).mono ?_
    rintro e w2 ⟨rfl, hb2⟩
    have HB2 := Lib.hid (below_then HBW.out (by simp) hb2)
    have c0 := (hb2.cell (p := ⟨w.heap.size, 1, none⟩) (by simp; omega)).trans (show ((w.alloc (.cells #[.map oa, .slice ao (rs A).length ac] 40)).alloc (.cells #[.map ob, .slice bo (rs B).length bc] 40)).cell? ⟨w.heap.size, 1, none⟩ = some (.slice ao (rs A).length ac) by go_simp)
    have c1 := (hb2.cell (p := ⟨w.heap.size + 1, 1, none⟩) (by simp)).trans (show ((w.alloc (.cells #[.map oa, .slice ao (rs A).length ac] 40)).alloc (.cells #[.map ob, .slice bo (rs B).length bc] 40)).cell? ⟨w.heap.size + 1, 1, none⟩ = some (.slice bo (rs B).length bc) by go_simp)
    clear hb2
    go_wp2_with fail
    refine (HEQ.out _ HB2.out).mono ?_
    rintro e w3 ⟨rfl, hb3⟩
    have HB3 := Lib.hid (below_then HB2.out (Nat.le_refl _) hb3)
    clear hb3
    go_wp2_with fail
    go_ret
    exact ⟨by simp, HB3.out⟩
theorem same_lit (q : Bool) (va vb : Value) (A B : List P) (w : World) (h : sameD A B = q) (hva : SAt w va A) (hvb : SAt w vb B) (hA : Nice A) (hB : Nice B) :
    Calls Try.prog 23 #[va, vb] w fun e w' => e = .returned (.bool q) ∧ Below w.heap.size w w' := by
  subst h; exact dots_same_any va vb A B w hva hvb hA hB
end Go.Proofs.Ytihfcohebgemdaa.Dots
