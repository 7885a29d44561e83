/- The walk of the law's places (layer 43): those that are gone through. -/
import Derived.Test.YtehcndjpckolmaaPickIter
namespace Go.Proofs.Ytehcndjpckolmaa.Pick
open Go.RowKit Go.Shelf Go.Proofs.Ytehcndjpckolmaa.Ints

attribute [local go_sem] Oper.semAt_some

theorem keepI_of {w0 W W' : World} {v : Value} {L : List Int} {B : Nat} (h0 : IRow w0 v L) (hf : ∀ a n c, v = .slice (some a) n c → B < a.block) (hsz : W.heap.size ≤ W'.heap.size) (hk : ∀ b, b < w0.heap.size → b ≠ B → Keep b W W') : KeepI v L W W' := by
  refine ⟨hsz, fun r => ?_⟩
  obtain ⟨ao, cap, rfl, h1, h2, h3⟩ := r
  refine ⟨ao, cap, rfl, h1, h2, ?_⟩
  by_cases hl : L.length = 0
  · exact Or.inl hl
  rcases h3 with h3 | ⟨b, off, rfl, hlt, hc⟩
  · exact Or.inl h3
  obtain ⟨ao', cap', hv, _, _, h4⟩ := h0
  cases hv
  rcases h4 with h4 | ⟨b', off', e, hlt', _⟩
  · omega
  cases e
  have hne : b ≠ B := by have := hf _ _ _ rfl; show b ≠ B; exact Nat.ne_of_gt this
  exact Or.inr ⟨b, off, rfl, Nat.lt_of_lt_of_le hlt hsz, fun i x hi j hj => ((hk b hlt' hne).2 _).trans (hc i x hi j hj)⟩

/-- What has been collected: a row, in a box. -/
def Col1 (β B : Nat) (pre : List Int) (W : World) : Prop := ∃ v, Boxed W B 40 v ∧ W.ownsRow β 3 1 v pre.length (pre.flatMap enI)
theorem col1_own (β B : Nat) : Own (Col1 β B) := by
  rintro s X Y row ⟨v, h1, h2⟩ hg hr
  exact ⟨v, own_box h1 hg hr, own_row h2 hg hr⟩

set_option maxRecDepth 100000 in
set_option maxHeartbeats 4000000 in
theorem places_any (ao : Option Addr) (ac : Nat) (l : List Need) (now : Int) (w : World) (ha : NRow w (.slice ao l.length ac) l) (hl : l.length < 40) :
    Calls Try.prog 28 #[.int .i64 now, .slice ao l.length ac] w (IPost w (ordF now l)) := by
  have HA := Lib.hid ha
  clear ha
  have hol : (ordF now l).length ≤ 1000 := by rw [ordF_len]; have := wants_len now l; omega
  obtain ⟨i0, hi, hz0, hz1, hz2⟩ := info_parts info_I
  have HI := Lib.hid hi
  have HZ0 := Lib.hid hz0
  have HZ1 := Lib.hid hz1
  have HZ2 := Lib.hid hz2
  clear hi hz0 hz1 hz2
  have hnil := fun g lb w => eq_nilFunc Try.underlying116 g lb w
  refine (callsIn_wide (n := 3)).1 ?_
  refine callsIn_of_wp_marks Try.func28 rfl trivial ?_ rfl
  simp only [Try.ntmps28, List.size_toArray, List.length_cons, List.length_nil, Nat.reduceAdd, Nat.reduceSub, Array.replicate_succ, Array.replicate_zero, List.push_toArray, List.append_toArray, List.nil_append, List.cons_append]
  gi_wp2_with (refine ⟨trivial, ?_⟩; gi_at_call 70; refine (callsIn_wide.2 (ord_any ao ac l now _ (HA.out.alloc _) hl)).mono ?_; rintro e w' ⟨Bx, v, rfl, h1, h2, h3, h4, h5, h6⟩)
  have hs : w.heap.size + 1 ≤ w'.heap.size := by have := h6.size; simpa using this
  have b0 : Boxed w' w.heap.size 40 (.slice none 0 0) := box_below (Boxed.new w 40 (.slice none 0 0)) h6
  have hb : Below w.heap.size w w' := below_then ((Below.refl _ _).alloc (Nat.le_refl _) _) (Nat.le_refl _) h6
  have hfr : ∀ a n c, v = .slice (some a) n c → w.heap.size < a.block := fun a n c e => by have := h5 a n c e; simp at this; omega
  refine wpIn_rangeFunc_ownG rfl (by omega) (gf := 91) (lb := #[.pointer (some ⟨Bx, 0, none⟩)]) rfl trivial (enters_of Try.func91 (by kernel_rfl) rfl)
    (ord_stops _ (by omega) Bx v (ordF now l) (by omega) w' h2 h3 h4) KeepI.trans (fun W b o o' _ hb ho _ => KeepI.put W b o o' hb ho) (Below.refl _ _) (fun _ => rfl)
    (fun pre W => Col1 w'.heap.size w.heap.size pre W ∧ Below w.heap.size w' W)
    (fun _ _ _ => False)
    (OwnFrom.and (Own.from (col1_own _ _) _) (ownFrom_below (by omega) (by omega)))
    (fun _ _ _ _ _ hs _ _ => hs)
    ⟨⟨_, b0, World.ownsRow_nil _ _ _ _⟩, Below.refl _ _⟩
    (fun x => { tmps := #[.int .i64 now, .slice ao l.length ac, undef, undef, .slice none 0 0, .pointer (some ⟨w.heap.size, 0, none⟩), .func (.func 91) #[] #[.pointer (some ⟨Bx, 0, none⟩)], .int .i64 x, .int .i64 now, .slice ao l.length ac, .func (.func 91) #[] #[.pointer (some ⟨Bx, 0, none⟩)], .func (.func 91) #[] #[.pointer (some ⟨Bx, 0, none⟩)], .bool false, .func (.func 91) #[] #[.pointer (some ⟨Bx, 0, none⟩)], .int .i64 x, undef, undef, undef, undef, undef], defers := [] }) ?assign ?body ?done ?stop
  case assign =>
    intro l x W K hK
    gi_wp2
    simpa using hK
  case body =>
    rintro lp pre x W ⟨⟨vo, hv, hr⟩, hB⟩ hlt
    have hsz := hB.size
    obtain ⟨oo, oc, rfl⟩ := row_form hr
    have g0 := hv.cell
    obtain ⟨q, hq⟩ : ∃ q : Nat, q = pre.length := ⟨_, rfl⟩
    rw [← hq] at hr hv g0 hlt
    have HR := Lib.hid hr
    have HV := Lib.hid hv
    have HQ := Lib.hid hq
    clear hr hv hq
    gi_wp2_with (gi_at_builtin; refine wpListIn_append_lies _ rfl (.tmp 15) (.tmp 17) 40 rfl w'.heap.size 3 i0 (.int .i64 0) 1 8 Try.underlying40 HI.out HZ0.out HZ1.out HZ2.out rfl (by decide) (.slice oo q oc) _ _ rfl (HR.out.alloc _) ⟨_, 0, none⟩ 1 1 [.int .i64 x] rfl rfl (cell_one_at _ _ _ _ (by simp)) (by simp [Value.oneCell']) (by decide) (by unfold maxLen; omega) (by omega) (by simp; omega) (W.heap.size + 1) (by simp) ?_; intro p1 c1' w1 hown1 hgrow1 hat1 hlt1; obtain ⟨a1, a2, a3, a4, a5, a6⟩ := appended (n₀ := w.heap.size) HV.out (by decide) HR.out (by omega) (by omega) (by omega) hown1 hgrow1; have k1 := a1.cell; have k2 := a1.frozen; have A := Lib.hid (And.intro a2 (And.intro a3 (And.intro a4 (And.intro a5 a6)))); clear a1 a2 a3 a4 a5 a6 hown1 hgrow1 hat1)
    have hlen : (pre ++ [x]).length = q + 1 := by rw [HQ.out]; simp
    exact ⟨A.out.2.2.1.from _, keepI_of h4 hfr A.out.2.2.2.1.size A.out.2.2.2.2, ⟨_, A.out.1, by rw [hlen, List.flatMap_append, List.flatMap_singleton]; exact A.out.2.1⟩, hB.trans A.out.2.2.2.1⟩
  case done =>
    rintro D ys W hD rfl ⟨⟨vo, hv, hr⟩, hB⟩ hK
    have g0 := hv.cell
    have hend : IPost w (ordF now l) (.returned vo) (W.putObj D (.deferred none)) :=
      ⟨vo, rfl, Lst.of_owns enI_len (by decide) (ownsRow_putObj hr (.deferred none) hK rfl), (hb.trans hB).trans (belowK_b (w := w) (Nat.le_refl _) W D _ _ (by omega) hK rfl rfl), fun a n c e => by have := own_fresh hr a n c e; omega⟩
    have HE := Lib.hid hend
    clear hend
    gi_wp2
    refine ⟨by simp, .inl ⟨_, _, rfl, run_takeDeferred hK, ?_⟩⟩
    exact ⟨vo, by simp [results, Try.f28, go_sem], HE.out⟩
  case stop =>
    rintro D c pre W _ _ h _
    exact h.elim
end Go.Proofs.Ytehcndjpckolmaa.Pick
