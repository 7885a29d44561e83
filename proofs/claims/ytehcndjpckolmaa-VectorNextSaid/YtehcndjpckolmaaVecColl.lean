/- The walks of layer 5 (vector): what goes through a vector, collected. -/
import Derived.Test.YtehcndjpckolmaaVecDots
namespace Go.Proofs.Ytehcndjpckolmaa.Vec
open Go.RowKit Go.Maps Go.Sort Go.Shelf Go.Proofs.Ytehcndjpckolmaa.Ints

attribute [local go_sem] Oper.semAt_some

theorem blk_box {W : World} {B : Nat} {t : TypeId} {v : Value} (h : Boxed W B t v) : blk W B = v.ownBlock := by
  unfold blk
  rw [show W.heap[B]? = _ from h]
  rfl
theorem kv_grown {base : Nat} {Bs : List Nat} {A C : World} {row : Option Nat} (hg : A.grownBy C row) (hrow : ∀ r, row = some r → Mine Bs A r) (hmine : ∀ i, i < A.heap.size → Mine Bs C i → Mine Bs A i) : KV base Bs A C :=
  ⟨hg.size, fun i o hi hm _ => by
    have hlt : i < A.heap.size := (Array.getElem?_eq_some_iff.1 hi).1
    exact ⟨(hg.block i hlt (fun e => hm (hrow i e.symm))).trans hi, fun h => hm (hmine i hlt h)⟩⟩
theorem mine_same {Bs : List Nat} {A C : World} (h : ∀ B ∈ Bs, C.heap[B]? = A.heap[B]?) (i : Nat) (hm : Mine Bs C i) : Mine Bs A i := by
  rcases hm with h1 | ⟨B, h1, h2⟩
  · exact Or.inl h1
  · refine Or.inr ⟨B, h1, ?_⟩
    unfold blk at h2 ⊢
    rwa [h B h1] at h2
theorem kv_below {base : Nat} {Bs : List Nat} {A C : World} (hBs : ∀ B ∈ Bs, B < A.heap.size) (hb : Below A.heap.size A C) : KV base Bs A C :=
  kv_grown (row := none) ⟨hb.os, hb.tape, hb.output, hb.size, fun i hi _ => hb.block i hi⟩ (fun r e => by cases e) fun i _ => mine_same (fun B hB => hb.block B (hBs B hB)) i
theorem kv_append {base B : Nat} {W w1 : World} {t : TypeId} {v v' : Value} {tmp : Obj} (hB : Boxed W B t v) (hC : Boxed (w1.setCell ⟨B, 0, none⟩ v') B t v') (hgrow : (W.alloc tmp).grownBy w1 v.ownBlock)
    (hat : v'.ownBlock = v.ownBlock ∨ v'.ownBlock = some (W.alloc tmp).heap.size) : KV base [B] W (w1.setCell ⟨B, 0, none⟩ v') := by
  have hsz := hgrow.size
  rw [World.size_alloc] at hsz
  refine ⟨by simp; omega, fun i o hi hm _ => ?_⟩
  have hlt : i < W.heap.size := (Array.getElem?_eq_some_iff.1 hi).1
  have hne : i ≠ B := fun e => hm (Or.inl (by simp [e]))
  have hown : v.ownBlock ≠ some i := fun e => hm (Or.inr ⟨B, by simp, (blk_box hB).trans e⟩)
  refine ⟨?_, fun h => ?_⟩
  · rw [(grownBy_setCell' w1 B v').block i (by omega) (by simp; exact hne), hgrow.block i (by simp; omega) (fun e => hown e.symm)]
    exact (Below.heap_alloc W tmp i hlt).trans hi
  · rcases h with h | ⟨B', h1, h2⟩
    · exact hne (by simpa using h)
    · obtain rfl : B' = B := by simpa using h1
      rw [blk_box hC] at h2
      rcases hat with h3 | h3
      · exact hown (h3.symm.trans h2)
      · rw [h3] at h2
        cases h2
        simp at hlt
        omega

/-- What is collected so far lies in a box. -/
def CollD (n₀ B : Nat) (pre : List Q) (W : World) : Prop := ∃ v, Boxed W B 81 v ∧ W.ownsRow n₀ 83 2 v pre.length (pre.flatMap fun x => enD x.1)
theorem collD_own (n₀ B : Nat) : Own (CollD n₀ B) := by
  rintro s X Y row ⟨v, h1, h2⟩ hg hr
  exact ⟨v, own_box h1 hg hr, own_row h2 hg hr⟩
/-- A write lies at a place. -/
def DotAt (W : World) (q : Nat) (x : P) : Prop := W.heap[q]? = some (.cells #[.int .i64 x.who, .int .i64 x.n] 83 (0, 0))
theorem DotAt.lt {W : World} {q : Nat} {x : P} (h : DotAt W q x) : q < W.heap.size := (Array.getElem?_eq_some_iff.1 h).1
theorem DotAt.cells {W : World} {q : Nat} {x : P} (h : DotAt W q x) : W.cell? ⟨q, 0, none⟩ = some (.int .i64 x.who) ∧ W.cell? ⟨q, 1, none⟩ = some (.int .i64 x.n) := by
  constructor <;> simp [World.cell?, show W.heap[q]? = _ from h]
theorem dotAt_own {X Y : World} {row : Option Nat} {q : Nat} {x : P} (h : DotAt X q x) (hg : X.grownBy Y row) (hr : ∀ r, row = some r → ∃ o : Obj, X.heap[r]? = some o ∧ o.isCells = false) : DotAt Y q x := by
  refine (hg.block q h.lt fun e => ?_).trans h
  obtain ⟨o, ho, hc⟩ := hr q e.symm
  rw [show X.heap[q]? = _ from h] at ho
  cases ho; cases hc

set_option maxRecDepth 100000 in
set_option maxHeartbeats 4000000 in
theorem append_in (n : Nat) (hn : 6 ≤ n) (Bx b : Nat) (L : List P) (hL : L.length ≤ 1000) (hg : Good L) (hsm : Sm L) (w : World) (hx : Boxed w Bx 85 (.map (some b))) (hv : VMap w b L) :
    CallsIn Fence.wide n Try.prog 103 #[.slice none 0 0, .func (.func 100) #[] #[.pointer (some ⟨Bx, 0, none⟩)]] w (RowPost w L) := by
  obtain ⟨i0, hi, hz0, hz1, hz2⟩ := info_parts info_D
  have HI := Lib.hid hi
  have HZ0 := Lib.hid hz0
  have HZ1 := Lib.hid hz1
  have HZ2 := Lib.hid hz2
  clear hi hz0 hz1 hz2
  have hn1 : 1 ≤ n := by omega
  obtain ⟨LQ, hLQ⟩ := to_Q hg hsm
  have hbx := hx.lt
  have hbv := hv.lt
  refine callsIn_of_wp_marks Try.func103 rfl trivial ?_ rfl
  simp only [Try.ntmps103, List.size_toArray, List.length_cons, List.length_nil, Nat.reduceAdd, Nat.reduceSub, Array.replicate_succ, Array.replicate_zero, List.push_toArray, List.append_toArray, List.nil_append, List.cons_append]
  gi_wp2
  obtain ⟨W0, hW0⟩ : ∃ W0, W0 = w.alloc (.cells #[.slice none 0 0] 81) := ⟨_, rfl⟩
  rw [← hW0]
  have bx : Boxed W0 w.heap.size 81 (.slice none 0 0) := by rw [hW0]; exact Boxed.new _ _ _
  have hs0 : W0.heap.size = w.heap.size + 1 := by rw [hW0]; simp
  have hb0 : Below w.heap.size w W0 := by rw [hW0]; exact (Below.refl _ _).alloc (Nat.le_refl _) _
  clear hW0
  have hBs : ∀ B ∈ [w.heap.size], B < W0.heap.size := by intro B hB; simp at hB; omega
  refine wpIn_rangeFunc_ownH rfl hn1 (gf := 100) (lb := #[.pointer (some ⟨Bx, 0, none⟩)]) rfl trivial (enters_of Try.func100 (by kernel_rfl) rfl)
    (dots_stops (n - 1) (by omega) Bx b [w.heap.size] L LQ hLQ (by omega) hg.1 W0 (box_below hx hb0) (hv.below hb0) (fun B hB => by
      obtain rfl : B = w.heap.size := by simpa using hB
      exact ⟨by omega, by omega, by omega, fun i hi => by rw [blk_box bx] at hi; cases hi⟩)) KV.trans (fun W l o o' hl hW ho _ => KV.put hBs W l o o' hl hW ho) (Below.refl _ _) (fun _ => rfl)
    (fun pre W => CollD W0.heap.size w.heap.size pre W ∧ Below w.heap.size W0 W)
    (fun _ _ _ => False)
    (OwnFrom.and (Own.from (collD_own _ _) _) (ownFrom_below (by omega) (by omega)))
    (fun c s X Y row hs _ _ => hs)
    ⟨⟨_, bx, World.ownsRow_nil _ _ _ _⟩, Below.refl _ _⟩
    (fun x a' W => ∃ q, DotAt W q x.1 ∧ a' = { tmps := #[.slice none 0 0, .func (.func 100) #[] #[.pointer (some ⟨Bx, 0, none⟩)], .pointer (some ⟨w.heap.size, 0, none⟩), undef, .slice none 0 0, .pointer (some ⟨q, 0, none⟩), .func (.func 100) #[] #[.pointer (some ⟨Bx, 0, none⟩)], .agg #[.int .i64 x.1.who, .int .i64 x.1.n], undef, undef, undef, undef, undef], defers := [] })
    (fun x a' _ X Y row hs hgr hr => by obtain ⟨q, e1, e2⟩ := hs; exact ⟨q, dotAt_own e1 hgr (fun r e => (hr r e).2), e2⟩)
    ?assign ?body ?done ?stop
  case assign =>
    rintro l pre x W K ⟨⟨v, c1, c2⟩, hB⟩ hK
    have hs := hB.size
    gi_wp2
    exact hK _ _ ((KeepsOthers.alloc _ _).from _) (kv_below (fun B hB => by have := hBs B hB; omega) ((Below.refl _ _).alloc (Nat.le_refl _) _)) ⟨⟨v, c1.alloc _, c2.alloc _⟩, hB.alloc (by omega) _⟩ ⟨W.heap.size, World.alloc_heap_new W _, rfl⟩
  case body =>
    rintro l pre x a' W hl _ ⟨⟨v, c1, c2⟩, hB⟩ ⟨q, hq, rfl⟩ hlt
    have hs := hB.size
    obtain ⟨d0, d1⟩ := hq.cells
    have g1 := c1.cell
    obtain ⟨k, hk⟩ : ∃ k : Nat, k = pre.length := ⟨_, rfl⟩
    rw [← hk] at c2 hlt
    have HK := Lib.hid hk
    have R1 := Lib.hid c2
    have C1 := Lib.hid c1
    clear hk c2 c1 hq
    gi_wp2_with (gi_at_builtin; refine wpListIn_append_own_at _ rfl (.tmp 8) (.tmp 10) 81 rfl W0.heap.size 83 i0 (.agg #[.int .i64 0, .int .i64 0]) 2 16 Try.underlying81 HI.out HZ0.out HZ1.out HZ2.out rfl (by decide) v _ _ rfl (R1.out.alloc _) ⟨_, 0, none⟩ 1 1 (enD x.1) rfl rfl (new_cells _ (enD x.1) _) (enD_one x.1) (by unfold maxLen; omega) (by omega) (by simp; omega) ?_; intro v' w1 hown1 hgrow1 hnil1 hat1; obtain ⟨ao1, cap1, rfl⟩ := row_form hown1; obtain ⟨a1, a2, a3, a4, a5, _⟩ := appended (n₀ := w.heap.size) C1.out (by decide) R1.out (by omega) (by omega) (by omega) hown1 hgrow1; have k1 := a1.cell; have k2 := a1.frozen; have A := Lib.hid (And.intro a2 (And.intro a3 (And.intro a4 (And.intro a5 (kv_append (base := W0.heap.size) C1.out a2 hgrow1 hat1))))); clear a1 a2 a3 a4 a5 hown1 hgrow1 hat1 hnil1)
    exact ⟨A.out.2.2.1.from _, A.out.2.2.2.2, ⟨_, A.out.1, by rw [List.length_append, List.flatMap_append, List.flatMap_singleton, ← HK.out]; exact A.out.2.1⟩, hB.trans A.out.2.2.2.1⟩
  case done =>
    rintro D ys W hD rfl ⟨⟨v, c1, c2⟩, hB⟩ hK
    have g1 := c1.cell
    have c3 : W.ownsRow W0.heap.size 83 2 v L.length (L.flatMap enD) := by
      rw [hLQ, List.flatMap_map, List.length_map]; exact c2
    have R := Lib.hid c3
    clear c2 c3
    gi_wp2
    refine ⟨by simp, .inl ⟨_, _, rfl, run_takeDeferred hK, ?_⟩⟩
    exact ⟨_, results_tmp rfl _ _ _, v, rfl, Lst.of_owns enD_len (by decide) (ownsRow_putObj R.out (.deferred none) hK rfl), hb0.trans (hB.trans (belowK_b (w := w) (Nat.le_refl _) W D _ _ (by omega) hK rfl rfl))⟩
  case stop =>
    rintro D c pre W hD _ hF
    exact hF.elim

theorem collect_in (n : Nat) (hn : 7 ≤ n) (Bx b : Nat) (L : List P) (hL : L.length ≤ 1000) (hg : Good L) (hsm : Sm L) (w : World) (hx : Boxed w Bx 85 (.map (some b))) (hv : VMap w b L) :
    CallsIn Fence.wide n Try.prog 85 #[.func (.func 100) #[] #[.pointer (some ⟨Bx, 0, none⟩)]] w (RowPost w L) := by
  have hn1 : 1 ≤ n := by omega
  refine callsIn_of_wp Try.func85 rfl trivial ?_ rfl
  simp only [Try.ntmps85, List.size_toArray, List.length_cons, List.length_nil, Nat.reduceAdd, Nat.reduceSub, Array.replicate_succ, Array.replicate_zero, List.push_toArray, List.append_toArray, List.nil_append, List.cons_append]
  gi_wp2_with (refine ⟨trivial, ?_⟩; gi_at_call 103; refine (append_in (n - 1) (by omega) Bx b L hL hg hsm _ hx hv).mono ?_; rintro e w' ⟨v, rfl, h1, h2⟩)
  go_ret
  exact ⟨v, rfl, h1, h2⟩
end Go.Proofs.Ytehcndjpckolmaa.Vec
