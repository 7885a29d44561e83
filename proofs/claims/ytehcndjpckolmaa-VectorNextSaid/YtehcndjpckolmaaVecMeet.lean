/- The walks of layer 5 (vector): Meet. -/
import Derived.Test.YtehcndjpckolmaaVecJoin
namespace Go.Proofs.Ytehcndjpckolmaa.Vec
open Go.RowKit Go.Maps Go.Sort Go.Shelf Go.Proofs.Ytehcndjpckolmaa.Ints

attribute [local go_sem] Oper.semAt_some

/-- One write more, as Meet takes it. -/
def stepM (B out : List P) (x : P) : List P := if 0 < min x.n (getF B x.who) then setF out ⟨x.who, min x.n (getF B x.who)⟩ else out
def meetG (B l : List P) : List P := l.foldl (stepM B) []
theorem setF_end {d : P} : ∀ {l : List P}, (∀ x ∈ l, x.who < d.who) → setF l d = l ++ [d]
  | [], _ => rfl
  | x :: t, h => by
    have hx := h x (by simp)
    have ih := setF_end (d := d) (l := t) fun y hy => h y (by simp [hy])
    unfold setF setG
    rw [decide_eq_false (by omega), show (x.who != d.who) = true by simp; omega]
    simp only [Bool.not_false, Bool.and_false, Bool.or_false, Bool.false_eq_true, if_false, List.nil_append, if_true, List.singleton_append, List.cons_append]
    exact congrArg _ ih
theorem meetG_eq {A : List P} (B : List P) (hA : Rises A) : meetG B A = meetF A B := by
  have h : ∀ (t out : List P), Rises t → (∀ x ∈ out, ∀ y ∈ t, x.who < y.who) → t.foldl (stepM B) out = out ++ meetF t B := by
    intro t
    induction t with
    | nil => intro out _ _; show out = out ++ []; simp
    | cons y t ih =>
      intro out ht ho
      have hp := List.pairwise_cons.1 ht
      rw [List.foldl_cons]
      show t.foldl (stepM B) (stepM B out y) = out ++ ((if 0 < min y.n (getF B y.who) then [⟨y.who, min y.n (getF B y.who)⟩] else []) ++ meetF t B)
      unfold stepM
      split
      · rw [setF_end (d := ⟨y.who, min y.n (getF B y.who)⟩) (l := out) (fun x hx => ho x hx y (by simp))]
        have := ih (out ++ [⟨y.who, min y.n (getF B y.who)⟩]) hp.2 (fun x hx z hz => by
          rcases List.mem_append.1 hx with h | h
          · exact ho x h z (by simp [hz])
          · simp at h; subst h; exact hp.1 z hz)
        unfold stepM at this
        rw [this]
        simp
      · have := ih out hp.2 (fun x hx z hz => ho x hx z (by simp [hz]))
        unfold stepM at this
        rw [this]
        simp
  have := h A [] hA (by simp)
  simpa [meetG] using this
theorem meetG_snoc (B l : List P) (x : P) : meetG B (l ++ [x]) = stepM B (meetG B l) x := by unfold meetG; rw [List.foldl_append]; rfl
theorem meetG_len (B : List P) : ∀ (l out : List P), (l.foldl (stepM B) out).length ≤ out.length + l.length
  | [], out => by simp
  | x :: t, out => by
    have h2 := meetG_len B t (stepM B out x)
    have h1 : (stepM B out x).length ≤ out.length + 1 := by
      unfold stepM
      split
      · exact setF_len _ _
      · omega
    rw [List.foldl_cons, List.length_cons]
    omega
theorem meetG_len2 (B : List P) (pre : List Q) {L : List P} (h : pre.length < L.length) : (meetG B (vals pre)).length ≤ L.length := by
  have := meetG_len B (vals pre) []
  have h2 : (vals pre).length = pre.length := List.length_map _
  simp only [List.length_nil] at this
  show ((vals pre).foldl (stepM B) []).length ≤ _
  omega
theorem meetG_rises (B : List P) : ∀ (l out : List P), Rises out → Rises (l.foldl (stepM B) out)
  | [], _, h => h
  | x :: t, out, h => by
    refine meetG_rises B t _ ?_
    unfold stepM
    split
    · exact (set_good h).1
    · exact h

set_option maxRecDepth 100000 in
set_option maxHeartbeats 4000000 in
theorem meet_any (ba bb : Nat) (A B : List P) (w : World) (ga : Good A) (sa : Sm A) (gb : Good B) (ha : VMap w ba A) (hb : VMap w bb B) (h1 : A.length ≤ 400) :
    Calls Try.prog 57 #[.map (some ba), .map (some bb)] w (MapPost w (meetF A B)) := by
  have hba := ha.lt
  have hbb := hb.lt
  have hmm := @run_makeMap Try.prog
  obtain ⟨LQ, hLQ⟩ := to_Q ga sa
  refine (callsIn_wide (n := 9)).1 ?_
  refine callsIn_of_wp_marks Try.func57 rfl trivial ?_ rfl
  simp only [Try.ntmps57, List.size_toArray, List.length_cons, List.length_nil, Nat.reduceAdd, Nat.reduceSub, Array.replicate_succ, Array.replicate_zero, List.push_toArray, List.append_toArray, List.nil_append, List.cons_append]
  gi_wp2_with (first
    | (refine ⟨trivial, ?_⟩; gi_at_call 84; refine (dots_in _ _ _).mono ?_; rintro e w' ⟨rfl, rfl⟩))
  obtain ⟨W0, hW0⟩ : ∃ W0, W0 = (((w.alloc (.cells #[.map (some bb)] 85)).alloc (.map #[] 0)).alloc (.cells #[.map (some (w.heap.size + 1))] 85)).alloc (.cells #[.map (some ba)] 85) := ⟨_, rfl⟩
  rw [← hW0]
  have hs0 : W0.heap.size = w.heap.size + 1 + 1 + 1 + 1 := by rw [hW0]; simp
  have hb0 : Below w.heap.size w W0 := by rw [hW0]; exact ((((Below.refl _ _).alloc (Nat.le_refl _) _).alloc (by simp) _).alloc (by simp; omega) _).alloc (by simp; omega) _
  have bxb : Boxed W0 w.heap.size 85 (.map (some bb)) := by rw [hW0]; exact (((Boxed.new w 85 (.map (some bb))).alloc _).alloc _).alloc _
  have bxv : Boxed W0 (w.heap.size + 1 + 1) 85 (.map (some (w.heap.size + 1))) := by
    rw [hW0]
    have := Boxed.new ((w.alloc (.cells #[.map (some bb)] 85)).alloc (.map #[] 0)) 85 (.map (some (w.heap.size + 1)))
    simp only [World.size_alloc] at this
    exact this.alloc _
  have bxa : Boxed W0 (w.heap.size + 1 + 1 + 1) 85 (.map (some ba)) := by
    rw [hW0]
    have := Boxed.new (((w.alloc (.cells #[.map (some bb)] 85)).alloc (.map #[] 0)).alloc (.cells #[.map (some (w.heap.size + 1))] 85)) 85 (.map (some ba))
    simp only [World.size_alloc] at this
    exact this
  have hv0 : VMap W0 (w.heap.size + 1) [] := by
    have h : VMap ((w.alloc (.cells #[.map (some bb)] 85)).alloc (.map #[] 0)) (w.alloc (.cells #[.map (some bb)] 85)).heap.size [] := World.ownsMap_made _ _ _ _
    rw [World.size_alloc] at h
    rw [hW0]
    exact (h.below ((Below.refl _ _).alloc (Nat.le_refl _) _)).below ((Below.refl _ _).alloc (Nat.le_refl _) _)
  have hva0 : VMap W0 ba A := ha.below hb0
  have hvb0 : VMap W0 bb B := hb.below hb0
  clear hW0 hmm
  have hBs : ∀ i ∈ [w.heap.size + 1], i < W0.heap.size := by intro i hi; simp at hi; omega
  refine wpIn_rangeFunc_ownH rfl (by omega) (gf := 100) (lb := #[.pointer (some ⟨w.heap.size + 1 + 1 + 1, 0, none⟩)]) rfl trivial (enters_of Try.func100 (by kernel_rfl) rfl)
    (dots_stops _ (by omega) (w.heap.size + 1 + 1 + 1) ba [w.heap.size + 1] A LQ hLQ (by omega) ga.1 W0 bxa hva0 (fun i hi => by
      obtain rfl : i = w.heap.size + 1 := by simpa using hi
      exact ⟨by omega, by omega, by omega, fun j hj => by rw [blk_map hv0] at hj; cases hj⟩)) KV.trans (fun W l o o' hl hW ho _ => KV.put hBs W l o o' hl hW ho) (Below.refl _ _) (fun _ => rfl)
    (fun pre W => ((Boxed W w.heap.size 85 (.map (some bb)) ∧ Boxed W (w.heap.size + 1 + 1) 85 (.map (some (w.heap.size + 1)))) ∧ VMap W (w.heap.size + 1) (meetG B (vals pre)) ∧ VMap W bb B) ∧ Below w.heap.size W0 W)
    (fun _ _ _ => False)
    (OwnFrom.and (fun s X Y row hs hgr hr => ⟨⟨own_box hs.1.1 hgr (fun r e => (hr r e).2), own_box hs.1.2 hgr (fun r e => (hr r e).2)⟩, hs.2.1.own (B := W0.heap.size) (by omega) hgr (fun r e => (hr r e).1), hs.2.2.own (B := W0.heap.size) (by omega) hgr (fun r e => (hr r e).1)⟩) (ownFrom_below (by omega) (by omega)))
    (fun c s X Y row hs _ _ => hs)
    ⟨⟨⟨bxb, bxv⟩, hv0, hvb0⟩, Below.refl _ _⟩
    (fun x a' W => ∃ q, DotAt W q x.1 ∧ W0.heap.size ≤ q ∧ a' = { tmps := #[.map (some ba), .map (some bb), undef, .pointer (some ⟨w.heap.size, 0, none⟩), .map none, .pointer (some ⟨w.heap.size + 1 + 1, 0, none⟩), .pointer (some ⟨q, 0, none⟩), undef, .map (some (w.heap.size + 1)), .map (some ba), .func (.func 100) #[] #[.pointer (some ⟨w.heap.size + 1 + 1 + 1, 0, none⟩)], .agg #[.int .i64 x.1.who, .int .i64 x.1.n], undef, undef, undef, undef, undef, undef, undef, undef, undef, undef, undef, undef, undef, undef, undef, undef, undef, undef], defers := [] })
    (fun x a' _ X Y row hs hgr hr => by obtain ⟨q, e1, e2, e3⟩ := hs; exact ⟨q, dotAt_own e1 hgr (fun r e => (hr r e).2), e2, e3⟩)
    ?assign ?body ?done ?stop
  case assign =>
    rintro l pre x W K ⟨⟨⟨c0, c1⟩, c2, c3⟩, hB⟩ hK
    have hs := hB.size
    gi_wp2
    exact hK _ _ ((KeepsOthers.alloc _ _).from _) (kv_below (fun B hB => by have := hBs B hB; omega) ((Below.refl _ _).alloc (Nat.le_refl _) _)) ⟨⟨⟨c0.alloc _, c1.alloc _⟩, c2.below ((Below.refl _ _).alloc (Nat.le_refl _) _), c3.below ((Below.refl _ _).alloc (Nat.le_refl _) _)⟩, hB.alloc (by omega) _⟩ ⟨W.heap.size, World.alloc_heap_new W _, hs, rfl⟩
  case body =>
    rintro l pre x a' W hl _ ⟨⟨⟨c0, c1⟩, c2, c3⟩, hB⟩ ⟨q, hq, hq0, rfl⟩ hlt
    have hs := hB.size
    have hxb := x.bd
    have hxs := x.2.2
    have hlen := meetG_len2 B pre hlt
    have HR := Lib.hid (meetG_rises B (vals pre) [] List.Pairwise.nil)
    have hjs := meetG_snoc B (vals pre) x.1
    rw [← vals_snoc] at hjs
    change Hid (Rises (meetG B (vals pre))) at HR
    generalize meetG B (vals pre) = out at *
    obtain ⟨d0, d1⟩ := hq.cells
    have g0 := c0.cell
    have hkey := key (x := x.1.who) (by omega) hxs
    obtain ⟨c, hrun, hat, hwc⟩ := c3.lookup_int law Try.underlying85 Try.underlying3 (Try.zeroValue3 _) hkey
    obtain rfl := dat_get hat
    have hgn := gb.nonneg x.1.who
    unfold stepM at hjs
    obtain ⟨m, hm⟩ : ∃ m, m = getF B x.1.who := ⟨_, rfl⟩
    rw [← hm] at hjs hrun hgn hat
    clear hat hwc hm
    by_cases hpos : 0 < min x.1.n m
    · rw [if_pos hpos] at hjs
      have HJ := Lib.hid hjs
      clear hjs
      have hval : plainElem (H := Unit) Try.prog 3 (.int .i64 (min x.1.n m)) = some (.lit (.int .i64 (min x.1.n m)), []) := plainElem_int Try.underlying3 (wf64 (by omega) (by omega))
      gi_wp2_with (first
        | (refine ⟨trivial, ?_⟩; gi_at_call 48; refine (CallsIn.inRound l (callsIn_wide.2 (right_lit true x.1 _ x.2.1))).mono ?_; rintro e w4 ⟨rfl, hb4⟩; have hv4 := c2.below hb4; obtain ⟨q0, q1⟩ := (hq.below hb4).cells; have q2 := (box_below c1 hb4).cell)
        | (gi_at_mapUpdate; refine wpListIn_mapUpdate_own _ rfl _ _ _ 85 rfl 3 3 law Try.underlying85 _ (w.heap.size + 1) out.length (dat out) rfl hv4 (by unfold maxLen; omega) _ _ (.int .i64 x.1.who) rfl rfl hkey _ [] hval ?_; intro w5 hown5 hgrow5))
      rw [dat_put HR.out ⟨x.1.who, min x.1.n m⟩, ← HJ.out] at hown5
      have hs4 := hb4.size
      have hq5 := hgrow5.size
      have hk4 : KeepsFrom W0.heap.size W w5 := (KeepsFrom.of_grownBy (row := none) ⟨hb4.os, hb4.tape, hb4.output, hb4.size, fun i hi _ => hb4.block i hi⟩ (fun j e => by cases e)).trans (KeepsFrom.of_grownBy hgrow5 (fun j e => by cases e; omega))
      have hk5 : KV W0.heap.size [w.heap.size + 1] W w5 := (kv_below (fun B hB => by have := hBs B hB; omega) hb4).trans (kv_grown hgrow5 (fun r e => by cases e; exact Or.inl (by simp)) (fun i hi hm => by
        rcases hm with h | ⟨B', hB1, hB2⟩
        · exact Or.inl h
        · obtain rfl : B' = w.heap.size + 1 := by simpa using hB1
          rw [blk_map (own_tight hown5)] at hB2
          cases hB2))
      exact ⟨hk4, hk5, ⟨⟨(box_below c0 hb4).kept hgrow5 (by simp), (box_below c1 hb4).kept hgrow5 (by simp)⟩, own_tight hown5, (c3.below hb4).kept hgrow5 (by simp; omega)⟩, (below_then hB (by omega) hb4).grown hgrow5 (by omega) (fun k hk => by cases hk; omega)⟩
    · rw [if_neg hpos] at hjs
      have HJ := Lib.hid hjs
      clear hjs
      gi_wp2_with (first
        | (refine ⟨trivial, ?_⟩; gi_at_call 48; refine (CallsIn.inRound l (callsIn_wide.2 (right_lit true x.1 _ x.2.1))).mono ?_; rintro e w4 ⟨rfl, hb4⟩; have hv4 := c2.below hb4; obtain ⟨q0, q1⟩ := (hq.below hb4).cells; have q2 := (box_below c1 hb4).cell))
      exact ⟨KeepsFrom.of_grownBy (row := none) ⟨hb4.os, hb4.tape, hb4.output, hb4.size, fun i hi _ => hb4.block i hi⟩ (fun j e => by cases e), kv_below (fun B hB => by have := hBs B hB; omega) hb4, ⟨⟨box_below c0 hb4, box_below c1 hb4⟩, by rw [HJ.out]; exact hv4, c3.below hb4⟩, below_then hB (by omega) hb4⟩
  case done =>
    rintro D ys W hD rfl ⟨⟨⟨c0, c1⟩, c2, c3⟩, hB⟩ hK
    have g1 := c1.cell
    have hy : vals ys = A := hLQ.symm
    rw [hy, meetG_eq B ga.1] at c2
    have R := Lib.hid c2
    clear c2
    gi_wp2
    refine ⟨by simp, .inl ⟨_, _, rfl, run_takeDeferred hK, ?_⟩⟩
    exact ⟨_, results_tmp rfl _ _ _, w.heap.size + 1, rfl, R.out.kept (grownBy_putObj' W D (.deferred none)) (by simp; omega), by omega, hb0.trans (hB.trans (belowK_b (w := w) (Nat.le_refl _) W D _ _ (by omega) hK rfl rfl))⟩
  case stop =>
    rintro D c pre W hD _ hF
    exact hF.elim
end Go.Proofs.Ytehcndjpckolmaa.Vec
