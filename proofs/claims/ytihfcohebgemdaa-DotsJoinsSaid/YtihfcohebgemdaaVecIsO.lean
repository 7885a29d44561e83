/- The walks of layer 5 (vector): the law's Is, of a vector and its own row (over VecO). -/
import Derived.Test.YtihfcohebgemdaaVecO
import Derived.Test.YtihfcohebgemdaaRoundQuiet
namespace Go.Proofs.Ytihfcohebgemdaa.Vec
open Go.RowKit Go.Maps Go.Sort Go.Shelf Go.Proofs.Ytihfcohebgemdaa.Ints

attribute [local go_sem] Oper.semAt_some

theorem vals_len (l : List Q) : (vals l).length = l.length := List.length_map _
theorem is_step {L : List P} {pre : List Q} {x : Q} (hp : vals pre = L.take pre.length) {y : P} (hy : L[pre.length]? = some y) : vals (pre ++ [x]) = L.take (pre ++ [x]).length ↔ x.1 = y := by
  have hlt := (List.getElem?_eq_some_iff.1 hy).1
  have hye := (List.getElem?_eq_some_iff.1 hy).2
  rw [vals_snoc, hp, List.length_append, List.length_singleton, List.take_succ_eq_append_getElem hlt, hye]
  constructor
  · intro h
    have := List.append_cancel_left h
    simpa using this
  · intro h; rw [h]

theorem kv_set {base B : Nat} {W : World} {t : TypeId} {v v' : Value} (hB : Boxed W B t v) (hv : v'.ownBlock = none) : KV base [B] W (W.setCell ⟨B, 0, none⟩ v') :=
  kv_grown (grownBy_setCell' W B v') (fun r e => by cases e; exact Or.inl (by simp)) (fun i _ hm => by
    rcases hm with h | ⟨B', h1, h2⟩
    · exact Or.inl h
    · obtain rfl : B' = B := by simpa using h1
      rw [blk_box (hB.set v'), hv] at h2
      cases h2)

set_option linter.unusedSimpArgs false
set_option linter.unusedVariables false
set_option maxRecDepth 100000 in
set_option maxHeartbeats 4000000 in
theorem is_any (b : Nat) (ao : Option Addr) (ac : Nat) (L : List P) (w : World) (gl : Good L) (sl : Sm L) (hv : VMap w b L) (ha : DRow w (.slice ao L.length ac) L) (h1 : L.length ≤ 1000) :
    Calls Try.prog 38 #[.map (some b), .slice ao L.length ac] w fun e w' => e = .returned (.bool true) ∧ Below w.heap.size w w' := by
  have hbb := hv.lt
  obtain ⟨LQ, hLQ⟩ := to_Q gl sl
  have HLQ := Lib.hid hLQ
  clear hLQ
  have hnil := fun g lb w => eq_nilFunc Try.underlying75 g lb w
  have HA := Lib.hid ha
  clear ha
  refine (callsIn_wide (n := 9)).1 ?_
  refine callsIn_of_wp_marks Try.func38 rfl trivial ?_ rfl
  simp only [Try.ntmps38, List.size_toArray, List.length_cons, List.length_nil, Nat.reduceAdd, Nat.reduceSub, Array.replicate_succ, Array.replicate_zero, List.push_toArray, List.append_toArray, List.nil_append, List.cons_append]
  gi_wp2_with (first
    | (refine ⟨trivial, ?_⟩; gi_at_call 52; refine (dots_in _ _ _).mono ?_; rintro e w' ⟨rfl, rfl⟩))
  obtain ⟨W0, hW0⟩ : ∃ W0, W0 = (((w.alloc (.cells #[.slice ao L.length ac] 34)).alloc (.cells #[.bool false] 4)).alloc (.cells #[.int .i64 0] 3)).alloc (.cells #[.map (some b)] 38) := ⟨_, rfl⟩
  rw [← hW0]
  have hs0 : W0.heap.size = w.heap.size + 1 + 1 + 1 + 1 := by rw [hW0]; simp
  have hb0 : Below w.heap.size w W0 := by rw [hW0]; exact ((((Below.refl _ _).alloc (Nat.le_refl _) _).alloc (by simp) _).alloc (by simp; omega) _).alloc (by simp; omega) _
  have bxs : Boxed W0 w.heap.size 34 (.slice ao L.length ac) := by rw [hW0]; exact (((Boxed.new w 34 (.slice ao L.length ac)).alloc _).alloc _).alloc _
  have bxr : Boxed W0 (w.heap.size + 1) 4 (.bool false) := by
    rw [hW0]
    have := Boxed.new (w.alloc (.cells #[.slice ao L.length ac] 34)) 4 (.bool false)
    simp only [World.size_alloc] at this
    exact (this.alloc _).alloc _
  have bxi : Boxed W0 (w.heap.size + 1 + 1) 3 (.int .i64 0) := by
    rw [hW0]
    have := Boxed.new ((w.alloc (.cells #[.slice ao L.length ac] 34)).alloc (.cells #[.bool false] 4)) 3 (.int .i64 0)
    simp only [World.size_alloc] at this
    exact this.alloc _
  have bxb : Boxed W0 (w.heap.size + 1 + 1 + 1) 38 (.map (some b)) := by
    rw [hW0]
    have := Boxed.new (((w.alloc (.cells #[.slice ao L.length ac] 34)).alloc (.cells #[.bool false] 4)).alloc (.cells #[.int .i64 0] 3)) 38 (.map (some b))
    simp only [World.size_alloc] at this
    exact this
  have hv0 : VMap W0 b L := hv.below hb0
  clear hW0 hnil
  have hBs : ∀ i ∈ [w.heap.size + 1 + 1], i < W0.heap.size := by intro i hi; simp at hi; omega
  refine wpIn_rangeFunc_ownH rfl (by omega) (gf := 77) (lb := #[.pointer (some ⟨w.heap.size + 1 + 1 + 1, 0, none⟩)]) rfl trivial (enters_of Try.func77 (by kernel_rfl) rfl)
    (dots_stops _ (by omega) (w.heap.size + 1 + 1 + 1) (some b) [w.heap.size + 1 + 1] L LQ HLQ.out (by omega) gl.1 W0 bxb hv0 (fun i hi => by
      obtain rfl : i = w.heap.size + 1 + 1 := by simpa using hi
      exact ⟨by omega, by omega, fun e => by injection e with e; omega, fun j hj => by rw [blk_box bxi] at hj; cases hj⟩)) KV.trans (fun W l o o' hl hW ho _ => KV.put hBs W l o o' hl hW ho) (Below.refl _ _) (fun _ => rfl)
    (fun pre W => (((Boxed W w.heap.size 34 (.slice ao L.length ac) ∧ Boxed W (w.heap.size + 1) 4 (.bool false)) ∧ Boxed W (w.heap.size + 1 + 1) 3 (.int .i64 (pre.length : Int))) ∧ VMap W b L ∧ vals pre = L.take pre.length) ∧ Below w.heap.size W0 W)
    (fun c pre W => (c = .ret ∧ vals pre ≠ L.take pre.length) ∧ Below w.heap.size W0 W)
    (OwnFrom.and (fun s X Y row hs hgr hr => ⟨⟨⟨own_box hs.1.1.1 hgr (fun r e => (hr r e).2), own_box hs.1.1.2 hgr (fun r e => (hr r e).2)⟩, own_box hs.1.2 hgr (fun r e => (hr r e).2)⟩, hs.2.1.own (B := W0.heap.size) (by omega) hgr (fun r e => (hr r e).1), hs.2.2⟩) (ownFrom_below (by omega) (by omega)))
    (fun c => OwnFrom.and (fun s X Y row hs hgr hr => hs) (ownFrom_below (by omega) (by omega)))
    ⟨⟨⟨⟨bxs, bxr⟩, bxi⟩, hv0, rfl⟩, Below.refl _ _⟩
    (fun x a' W => ∃ q, DotAt W q x.1 ∧ W0.heap.size ≤ q ∧ a' = { tmps := #[.map (some b), .slice ao L.length ac, undef, .pointer (some ⟨w.heap.size, 0, none⟩), .pointer (some ⟨w.heap.size + 1, 0, none⟩), .pointer (some ⟨w.heap.size + 1 + 1, 0, none⟩), .func (.func 77) #[] #[.pointer (some ⟨w.heap.size + 1 + 1 + 1, 0, none⟩)], .pointer (some ⟨q, 0, none⟩), .map (some b), .func (.func 77) #[] #[.pointer (some ⟨w.heap.size + 1 + 1 + 1, 0, none⟩)], .func (.func 77) #[] #[.pointer (some ⟨w.heap.size + 1 + 1 + 1, 0, none⟩)], .bool false, .func (.func 77) #[] #[.pointer (some ⟨w.heap.size + 1 + 1 + 1, 0, none⟩)], .agg #[.int .i64 x.1.who, .int .i64 x.1.n], undef, undef, undef, undef, undef, undef, undef, undef, undef, undef, undef, undef, undef, undef, undef, undef, undef, undef, undef, undef, undef, undef, undef, undef, undef, undef, undef, undef, undef, undef, undef, undef, undef, undef, undef, undef, undef], defers := [] })
    (fun x a' _ X Y row hs hgr hr => by obtain ⟨q, e1, e2, e3⟩ := hs; exact ⟨q, dotAt_own e1 hgr (fun r e => (hr r e).2), e2, e3⟩)
    ?assign ?body ?done ?stop
  case assign =>
    rintro l pre x W K ⟨⟨⟨⟨c0, c1⟩, c2⟩, c3, c4⟩, hB⟩ hK
    have hs := hB.size
    gi_wp2
    exact hK _ _ ((KeepsOthers.alloc _ _).from _) (kv_below (fun B hB => by have := hBs B hB; omega) ((Below.refl _ _).alloc (Nat.le_refl _) _)) ⟨⟨⟨⟨c0.alloc _, c1.alloc _⟩, c2.alloc _⟩, c3.below ((Below.refl _ _).alloc (Nat.le_refl _) _), c4⟩, hB.alloc (by omega) _⟩ ⟨W.heap.size, World.alloc_heap_new W _, hs, rfl⟩
  case body =>
    rintro l pre x a' W hl _ ⟨⟨⟨⟨c0, c1⟩, c2⟩, c3, c4⟩, hB⟩ ⟨q, hq, hq0, rfl⟩ hlt
    have hs := hB.size
    have hrow := Lst.below HA.out (hb0.trans hB)
    obtain ⟨db, doff, rfl, hdb, e0, e1⟩ := dot_at hrow (List.getElem?_eq_getElem hlt)
    have hst := is_step (x := x) c4 (List.getElem?_eq_getElem hlt)
    obtain ⟨y, hy⟩ : ∃ y, y = L[pre.length] := ⟨_, rfl⟩
    rw [← hy] at e0 e1 hst
    have hpl : ((pre ++ [x]).length : Int) = (pre.length : Int) + 1 := by simp
    have HS := Lib.hid (And.intro hst hpl)
    obtain ⟨k, hk⟩ : ∃ k : Nat, k = pre.length := ⟨_, rfl⟩
    rw [← hk] at e0 e1 c2 hlt
    have HK := Lib.hid hk
    obtain ⟨d0, d1⟩ := hq.cells
    have g0 := c0.cell
    have g1 := c1.cell
    have f1 := c1.frozen
    have g2 := c2.cell
    have f2 := c2.frozen
    have C := Lib.hid (And.intro c0 (And.intro c1 (And.intro c2 c3)))
    have hge : decide ((L.length : Int) ≤ (k : Int)) = false := decide_eq_false (by omega)
    have hgeN : decide (L.length ≤ k) = false := decide_eq_false (by omega)
    have hki : (k : Int) < (L.length : Int) := by omega
    have hk0 : (0 : Int) ≤ (k : Int) := by omega
    clear hst hpl hk hy c0 c1 c2 c3 c4 hrow
    by_cases hw : x.1.who = y.who
    · by_cases hn : x.1.n = y.n
      · have hxy : x.1 = y := by obtain ⟨x, hx⟩ := x; cases x; cases y; simp_all
        have HXY := Lib.hid hxy
        clear hxy
        gi_wp2
        refine wpIn_region_quiet_round (by kernel_rfl) (by kernel_rfl) (by kernel_rfl) ?_
        repeat (gi_big_quiet_step (fail))
        refine wpQuietIn_nil ?_
        rintro _ ⟨nq, rfl⟩
        gi_wp2
        have hbd : Below W.heap.size W (W.drewN nq) := below_drewN (Below.refl _ _) _
        have hkd : KeepsFrom W0.heap.size W (W.drewN nq) := KeepsFrom.of_grownBy (row := none) ⟨hbd.os, hbd.tape, hbd.output, hbd.size, fun i hi _ => hbd.block i hi⟩ (fun j e => by cases e)
        have hBd : Below w.heap.size W0 (W.drewN nq) := below_then hB (by omega) hbd
        exact ⟨hkd.trans ((KeepsOthers.setCell _ _ _).from _), (kv_below (fun B hB' => by have := hBs B hB'; omega) hbd).trans (kv_set (box_below C.out.2.2.1 hbd) rfl),
          ⟨⟨⟨(box_below C.out.1 hbd).kept (grownBy_setCell' _ _ _) (fun e => by injection e with e; omega), (box_below C.out.2.1 hbd).kept (grownBy_setCell' _ _ _) (fun e => by injection e with e; omega)⟩, by rw [HS.out.2, ← HK.out]; exact (box_below C.out.2.2.1 hbd).set _⟩, (C.out.2.2.2.below hbd).kept (grownBy_setCell' _ _ _) (by simp; omega), HS.out.1.2 HXY.out⟩,
          hBd.setCell (p := ⟨w.heap.size + 1 + 1, 0, none⟩) (by simp; omega) _⟩
      · have hne : x.1 ≠ y := fun e => hn (by rw [e])
        have HNE := Lib.hid hne
        clear hne
        gi_wp2
        refine wpIn_region_quiet_round (by kernel_rfl) (by kernel_rfl) (by kernel_rfl) ?_
        repeat (gi_big_quiet_step (fail))
        refine wpQuietIn_nil ?_
        rintro _ ⟨nq, rfl⟩
        gi_wp2
        have hbd : Below W.heap.size W (W.drewN nq) := below_drewN (Below.refl _ _) _
        have hkd : KeepsFrom W0.heap.size W (W.drewN nq) := KeepsFrom.of_grownBy (row := none) ⟨hbd.os, hbd.tape, hbd.output, hbd.size, fun i hi _ => hbd.block i hi⟩ (fun j e => by cases e)
        have hBd : Below w.heap.size W0 (W.drewN nq) := below_then hB (by omega) hbd
        exact ⟨hkd.trans ((KeepsOthers.setCell _ _ _).from _), ⟨rfl, fun h => HNE.out (HS.out.1.1 h)⟩, hBd.setCell (p := ⟨w.heap.size + 1, 0, none⟩) (by simp) _⟩
    · have hne : x.1 ≠ y := fun e => hw (by rw [e])
      have HNE := Lib.hid hne
      have hwd : (x.1.who != y.who) = true := by simp [hw]
      clear hne
      gi_wp2
      refine wpIn_region_quiet_round (by kernel_rfl) (by kernel_rfl) (by kernel_rfl) ?_
      repeat (gi_big_quiet_step (fail))
      refine wpQuietIn_nil ?_
      rintro _ ⟨nq, rfl⟩
      gi_wp2
      have hbd : Below W.heap.size W (W.drewN nq) := below_drewN (Below.refl _ _) _
      have hkd : KeepsFrom W0.heap.size W (W.drewN nq) := KeepsFrom.of_grownBy (row := none) ⟨hbd.os, hbd.tape, hbd.output, hbd.size, fun i hi _ => hbd.block i hi⟩ (fun j e => by cases e)
      have hBd : Below w.heap.size W0 (W.drewN nq) := below_then hB (by omega) hbd
      exact ⟨hkd.trans ((KeepsOthers.setCell _ _ _).from _), ⟨rfl, fun h => HNE.out (HS.out.1.1 h)⟩, hBd.setCell (p := ⟨w.heap.size + 1, 0, none⟩) (by simp) _⟩
  case done =>
    rintro D ys W hD rfl ⟨⟨⟨⟨c0, c1⟩, c2⟩, c3, c4⟩, hB⟩ hK
    have hly : ys.length = L.length := by have := congrArg List.length HLQ.out; rw [List.length_map] at this; exact this.symm
    rw [hly] at c2
    have hs := hB.size
    have g0 := c0.cell
    have g1 := c1.cell
    have f1 := c1.frozen
    have g2 := c2.cell
    have hlen := fun ty => c3.len ty
    clear c4 hly
    gi_wp2
    have hK' := (KeepsOthers.setCell W ⟨w.heap.size + 1, 0, none⟩ (.bool true)).same D _ hK rfl
    refine ⟨by simp, .inl ⟨_, _, rfl, run_takeDeferred hK', ?_⟩⟩
    have e1 := (own_box (c1.set (.bool true)) (grownBy_putObj' _ D (.deferred none)) (fun r e => by cases e; exact ⟨_, hK', rfl⟩)).cell
    exact ⟨.bool true, by simp [results, Try.f38, go_sem, e1], rfl, hb0.trans ((hB.setCell (p := ⟨w.heap.size + 1, 0, none⟩) (by simp) _).trans (belowK_b (w := w) (Nat.le_refl _) _ D _ _ (by omega) hK' rfl rfl))⟩
  case stop =>
    rintro D c pre W hD ⟨k, hk, hpre⟩ ⟨⟨rfl, hne⟩, hB⟩ hK
    exfalso
    apply hne
    have hly : LQ.length = L.length := by have := congrArg List.length HLQ.out; rw [List.length_map] at this; exact this.symm
    have hpl : pre.length = k := by rw [hpre, List.length_take]; omega
    rw [hpl, hpre]
    unfold vals
    rw [List.map_take, ← HLQ.out]
end Go.Proofs.Ytihfcohebgemdaa.Vec
