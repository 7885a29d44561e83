/- The walks of layer 48 (wait): Tries; the law's first. -/
import Derived.Test.YtigeieahhkoolaaWaitIter
namespace Go.Proofs.Ytigeieahhkoolaa.Wait
open Go.RowKit Go.Shelf

attribute [local go_sem] Oper.semAt_some

set_option maxRecDepth 100000 in
set_option maxHeartbeats 2000000 in
theorem tries_any (f m s a b M : Int) (_s0 : 0 ≤ s) (_s1 : s ≤ 4294967295) (_m0 : -9223372036854775808 ≤ M) (_m1 : M ≤ 9223372036854775807) (T : Nat) (hT : Tries f m s a b T) (w : World) :
    Calls Try.prog 30 #[.agg #[.int .i64 f, .int .i64 m, .int .u32 s], .int .i64 a, .int .i64 b, .int .i64 M] w fun e w' => e = .returned (.int .i64 (min (T : Int) (max M 0))) ∧ Below w.heap.size w w' := by
  have hTb := (hT.bd (Nat.le_refl _)).2.2
  refine (callsIn_wide (n := 3)).1 ?_
  refine callsIn_of_wp_marks Try.func30 rfl trivial ?_ rfl
  simp only [Try.ntmps30, List.size_toArray, List.length_cons, List.length_nil, Nat.reduceAdd, Nat.reduceSub, Array.replicate_succ, Array.replicate_zero, List.push_toArray, List.append_toArray, List.nil_append, List.cons_append]
  gi_wp2_with (refine ⟨trivial, ?_⟩; gi_at_call 42; refine (all_in _ f m s a b _).mono ?_; rintro e w' ⟨rfl, rfl⟩)
  obtain ⟨W0, hW0⟩ : ∃ W0, W0 = ((((((w.alloc (.cells #[.int .i64 f, .int .i64 m, .int .u32 s] 46)).alloc (.cells #[.int .i64 M] 3)).alloc (.cells #[.int .i64 0] 3)).alloc (.cells #[.int .i64 f, .int .i64 m, .int .u32 s] 46)).alloc (.cells #[.int .i64 a] 3)).alloc (.cells #[.int .i64 b] 3)) := ⟨_, rfl⟩
  rw [← hW0]
  have c0 : W0.cell? ⟨w.heap.size + 1 + 1 + 1, 0, none⟩ = some (.int .i64 f) := by rw [hW0]; go_simp
  have c1 : W0.cell? ⟨w.heap.size + 1 + 1 + 1, 1, none⟩ = some (.int .i64 m) := by rw [hW0]; go_simp
  have c2 : W0.cell? ⟨w.heap.size + 1 + 1 + 1, 2, none⟩ = some (.int .u32 s) := by rw [hW0]; go_simp
  have ca : W0.cell? ⟨w.heap.size + 1 + 1 + 1 + 1, 0, none⟩ = some (.int .i64 a) := by rw [hW0]; go_simp
  have cb : W0.cell? ⟨w.heap.size + 1 + 1 + 1 + 2, 0, none⟩ = some (.int .i64 b) := by rw [hW0]; go_simp
  have cM : W0.cell? ⟨w.heap.size + 1, 0, none⟩ = some (.int .i64 M) := by rw [hW0]; go_simp
  have cN : W0.cell? ⟨w.heap.size + 1 + 1, 0, none⟩ = some (.int .i64 0) := by rw [hW0]; go_simp
  have fN : W0.frozen? ⟨w.heap.size + 1 + 1, 0, none⟩ = false := by rw [hW0]; go_simp
  have hs0 : W0.heap.size = w.heap.size + 6 := by rw [hW0]; simp
  have hb0 : Below w.heap.size w W0 := by rw [hW0]; exact ((((((Below.refl _ _).alloc (Nat.le_refl _) _).alloc (by simp) _).alloc (by simp; omega) _).alloc (by simp; omega) _).alloc (by simp; omega) _).alloc (by simp; omega) _
  clear hW0
  refine wpIn_rangeFunc_ownG rfl (by omega) (gf := 48) (lb := #[.pointer (some ⟨w.heap.size + 1 + 1 + 1 + 1, 0, none⟩), .pointer (some ⟨w.heap.size + 1 + 1 + 1 + 2, 0, none⟩), .pointer (some ⟨w.heap.size + 1 + 1 + 1, 0, none⟩)]) rfl trivial (enters_of Try.func48 (by kernel_rfl) rfl)
    (all_stops _ (by omega) (w.heap.size + 1 + 1 + 1) (w.heap.size + 1 + 1 + 1 + 1) (w.heap.size + 1 + 1 + 1 + 2) f m s a b _s0 _s1 T hT W0 (by omega) (by omega) (by omega) c0 c1 c2 ca cb) Keep.trans (Keep.put (by omega)) (Below.refl _ _) (fun _ => rfl)
    (fun pre W => ((W.cell? ⟨w.heap.size + 1 + 1, 0, none⟩ = some (.int .i64 (pre.length : Int)) ∧ W.frozen? ⟨w.heap.size + 1 + 1, 0, none⟩ = false) ∧ (W.cell? ⟨w.heap.size + 1, 0, none⟩ = some (.int .i64 M) ∧ (pre.length : Int) ≤ max M 0)) ∧ Below w.heap.size W0 W)
    (fun c pre W => (c = .exit 0 ∧ ∃ ini last, pre = ini ++ [last] ∧ (ini.length : Int) = max M 0 ∧ W.cell? ⟨w.heap.size + 1 + 1, 0, none⟩ = some (.int .i64 (ini.length : Int))) ∧ Below w.heap.size W0 W)
    (OwnFrom.and (Own.from (fun s A B row hs hg hr => ⟨⟨cell_kept hs.1.1 hg hr, (frozen_kept hs.1.1 hg hr).trans hs.1.2⟩, cell_kept hs.2.1 hg hr, hs.2.2⟩) _) (ownFrom_below (by omega) (by omega)))
    (fun c => OwnFrom.and (Own.from (fun s A B row hs hg hr => by obtain ⟨hc, ini, last, e1, e2, e3⟩ := hs; exact ⟨hc, ini, last, e1, e2, cell_kept e3 hg hr⟩) _) (ownFrom_below (by omega) (by omega)))
    ⟨⟨⟨cN, fN⟩, cM, by simp; omega⟩, Below.refl _ _⟩
    (fun x => { tmps := #[.agg #[.int .i64 f, .int .i64 m, .int .u32 s], .int .i64 a, .int .i64 b, .int .i64 M, .pointer (some ⟨w.heap.size, 0, none⟩), undef, undef, .pointer (some ⟨w.heap.size + 1, 0, none⟩), .int .i64 0, .pointer (some ⟨w.heap.size + 1 + 1, 0, none⟩), .agg #[.int .i64 f, .int .i64 m, .int .u32 s], .int .i64 a, .int .i64 b, .func (.func 48) #[] #[.pointer (some ⟨w.heap.size + 1 + 1 + 1 + 1, 0, none⟩), .pointer (some ⟨w.heap.size + 1 + 1 + 1 + 2, 0, none⟩), .pointer (some ⟨w.heap.size + 1 + 1 + 1, 0, none⟩)], .int .i64 (x.1 : Int), .int .i64 x.2, undef, undef, undef, undef, undef, undef, undef], defers := [] }) ?assign ?body ?done ?stop
  case assign =>
    intro l x W K hK
    gi_wp2
    simpa using hK
  case body =>
    rintro l pre x W ⟨⟨⟨hc, hf⟩, hM, hle⟩, hB⟩ hlt
    have hp : (pre.length : Int) < 1099511627776 := by omega
    have hps : ((pre ++ [x]).length : Int) = (pre.length : Int) + 1 := by simp
    have HPS := Lib.hid hps
    clear hps
    obtain ⟨q, hq⟩ : ∃ q : Nat, q = pre.length := ⟨_, rfl⟩
    rw [← hq] at hc hle hp HPS hlt
    have HQ := Lib.hid hq
    clear hq
    by_cases hM2 : M ≤ q
    · gi_wp2
      exact ⟨KeepsFrom.refl _ _, ⟨rfl, pre, x, rfl, by rw [← HQ.out]; omega, by rw [← HQ.out]; exact hc⟩, hB⟩
    · gi_wp2
      exact ⟨(KeepsOthers.setCell _ _ _).from _, ⟨by simp, fun o => World.cell?_of_block (w := W) ((grownBy_setCell' W _ _).block _ (by have := hB.size; simp; omega) (by simp))⟩, ⟨⟨by rw [HPS.out]; exact World.cell?_setCell_same' _ _ _ (by rw [hc]; rfl), by rw [World.frozen?_setCell]; exact hf⟩, by go_simp, by rw [HPS.out]; omega⟩, hB.setCell (p := ⟨w.heap.size + 1 + 1, 0, none⟩) (by simp; omega) _⟩
  case done =>
    rintro D ys W hD rfl ⟨⟨⟨hc, hf⟩, hM, hle⟩, hB⟩ hK
    gi_wp2
    refine ⟨by simp, .inl ⟨_, _, rfl, run_takeDeferred hK, ?_⟩⟩
    rw [pr_len] at *
    rw [show min (T : Int) (max M 0) = T by omega]
    exact ⟨_, results_tmp rfl _ _ _, rfl, hb0.trans (hB.trans (belowK_b (w := w) (Nat.le_refl _) W D _ _ (by omega) hK rfl rfl))⟩
  case stop =>
    rintro D c pre W hD ⟨k, hk, rfl⟩ ⟨⟨rfl, ini, last, e1, e2, hcr⟩, hB⟩ hK
    have hl := congrArg List.length e1
    rw [pr_len] at hl
    simp at hl
    gi_wp2
    refine ⟨by simp, .inl ⟨_, _, rfl, run_takeDeferred hK, ?_⟩⟩
    rw [show min (T : Int) (max M 0) = max M 0 by omega]
    exact ⟨_, results_tmp rfl _ _ _, rfl, hb0.trans (hB.trans (belowK_b (w := w) (Nat.le_refl _) W D _ _ (by omega) hK rfl rfl))⟩

abbrev enI (n : Int) : List Value := [.int .i64 n]
theorem info_I : (Try.prog.info? 3).map (fun i => (i.zero, i.size, i.bytes)) = some (some (.int .i64 0), 1, 8) := by kernel_rfl

def tryI (pre : List (Nat × Int)) : List Value := pre.map fun x => .int .i64 (x.1 : Int)
def atI (pre : List (Nat × Int)) : List Value := pre.map fun x => .int .i64 x.2

/-- What the law's loop has collected: two rows, in two boxes. -/
def Coll (n₀ B1 B2 : Nat) (pre : List (Nat × Int)) (W : World) : Prop :=
  ∃ v1 v2, Boxed W B1 49 v1 ∧ W.ownsRow n₀ 3 1 v1 pre.length (tryI pre) ∧ Boxed W B2 49 v2 ∧ W.ownsRow n₀ 3 1 v2 pre.length (atI pre) ∧ Apart v1 v2
theorem coll_own (n₀ B1 B2 : Nat) : Own (Coll n₀ B1 B2) := by
  rintro s X Y row ⟨v1, v2, h1, h2, h3, h4, h5⟩ hg hr
  exact ⟨v1, v2, own_box h1 hg hr, own_row h2 hg hr, own_box h3 hg hr, own_row h4 hg hr, h5⟩

/-- Two rows come back. -/
def FirstPost (w : World) (l : List (Nat × Int)) (e : Ending) (w' : World) : Prop :=
  ∃ v1 v2, e = .returned (.tuple #[v1, v2]) ∧ Lst 1 enI w' v1 (l.map fun x => (x.1 : Int)) ∧ Lst 1 enI w' v2 (l.map fun x => x.2) ∧ Below w.heap.size w w'

theorem sing {α : Type} (g : α → Value) (l : List α) : (l.flatMap fun x => [g x]) = l.map g := by induction l <;> simp_all
theorem first_end {w W : World} {β D k : Nat} {v1 v2 : Value} {l : List (Nat × Int)} (r1 : W.ownsRow β 3 1 v1 k (tryI l)) (r2 : W.ownsRow β 3 1 v2 k (atI l)) (hl : l.length = k) (hK : W.heap[D]? = some (.deferred (some [])))
    (hB : Below w.heap.size w W) (hD : w.heap.size ≤ D) : FirstPost w l (.returned (.tuple #[v1, v2])) (W.putObj D (.deferred none)) := by
  have q1 := ownsRow_putObj r1 (.deferred none) hK rfl
  have q2 := ownsRow_putObj r2 (.deferred none) hK rfl
  refine ⟨v1, v2, rfl, Lst.of_owns (fun _ => rfl) (by decide) (base := β) (e := 3) ?_, Lst.of_owns (fun _ => rfl) (by decide) (base := β) (e := 3) ?_, hB.trans (belowK_b (w := w) (Nat.le_refl _) W D _ _ hD hK rfl rfl)⟩
  · have e : (l.map fun x => (x.1 : Int)).flatMap enI = tryI l := by unfold tryI; rw [List.flatMap_map]; exact sing _ l
    rw [e, List.length_map, hl]; exact q1
  · have e : (l.map fun x => x.2).flatMap enI = atI l := by unfold atI; rw [List.flatMap_map]; exact sing _ l
    rw [e, List.length_map, hl]; exact q2

set_option maxRecDepth 100000 in
set_option maxHeartbeats 4000000 in
theorem first_any (f m s a b : Int) (_s0 : 0 ≤ s) (_s1 : s ≤ 4294967295) (T : Nat) (hT : Tries f m s a b T) (w : World) :
    Calls Try.prog 28 #[.agg #[.int .i64 f, .int .i64 m, .int .u32 s], .int .i64 a, .int .i64 b, .int .i64 100] w (FirstPost w (pr f m s a (min T 100))) := by
  obtain ⟨i0, hi, hz0, hz1, hz2⟩ := info_parts info_I
  have HI := Lib.hid hi
  have HZ0 := Lib.hid hz0
  have HZ1 := Lib.hid hz1
  have HZ2 := Lib.hid hz2
  clear hi hz0 hz1 hz2
  refine (callsIn_wide (n := 3)).1 ?_
  refine callsIn_of_wp_marks Try.func28 rfl trivial ?_ rfl
  simp only [Try.ntmps28, List.size_toArray, List.length_cons, List.length_nil, Nat.reduceAdd, Nat.reduceSub, Array.replicate_succ, Array.replicate_zero, List.push_toArray, List.append_toArray, List.nil_append, List.cons_append]
  have hnil := fun g lb w => eq_nilFunc Try.underlying81 g lb w
  gi_wp2_with (refine ⟨trivial, ?_⟩; gi_at_call 42; refine (all_in _ f m s a b _).mono ?_; rintro e w' ⟨rfl, rfl⟩)
  obtain ⟨W0, hW0⟩ : ∃ W0, W0 = (((((((w.alloc (.cells #[.int .i64 f, .int .i64 m, .int .u32 s] 46)).alloc (.cells #[.int .i64 100] 3)).alloc (.cells #[.slice none 0 0] 49)).alloc (.cells #[.slice none 0 0] 49)).alloc (.cells #[.int .i64 f, .int .i64 m, .int .u32 s] 46)).alloc (.cells #[.int .i64 a] 3)).alloc (.cells #[.int .i64 b] 3)) := ⟨_, rfl⟩
  rw [← hW0]
  have c0 : W0.cell? ⟨w.heap.size + 1 + 1 + 1 + 1, 0, none⟩ = some (.int .i64 f) := by rw [hW0]; go_simp
  have c1 : W0.cell? ⟨w.heap.size + 1 + 1 + 1 + 1, 1, none⟩ = some (.int .i64 m) := by rw [hW0]; go_simp
  have c2 : W0.cell? ⟨w.heap.size + 1 + 1 + 1 + 1, 2, none⟩ = some (.int .u32 s) := by rw [hW0]; go_simp
  have ca : W0.cell? ⟨w.heap.size + 1 + 1 + 1 + 1 + 1, 0, none⟩ = some (.int .i64 a) := by rw [hW0]; go_simp
  have cb : W0.cell? ⟨w.heap.size + 1 + 1 + 1 + 1 + 2, 0, none⟩ = some (.int .i64 b) := by rw [hW0]; go_simp
  have cM : W0.cell? ⟨w.heap.size + 1, 0, none⟩ = some (.int .i64 100) := by rw [hW0]; go_simp
  have bx1 : Boxed W0 (w.heap.size + 1 + 1) 49 (.slice none 0 0) := by
    rw [hW0]
    have := Boxed.new ((w.alloc (.cells #[.int .i64 f, .int .i64 m, .int .u32 s] 46)).alloc (.cells #[.int .i64 100] 3)) 49 (.slice none 0 0)
    simp only [World.size_alloc] at this
    exact (((this.alloc _).alloc _).alloc _).alloc _
  have bx2 : Boxed W0 (w.heap.size + 1 + 1 + 1) 49 (.slice none 0 0) := by
    rw [hW0]
    have := Boxed.new (((w.alloc (.cells #[.int .i64 f, .int .i64 m, .int .u32 s] 46)).alloc (.cells #[.int .i64 100] 3)).alloc (.cells #[.slice none 0 0] 49)) 49 (.slice none 0 0)
    simp only [World.size_alloc] at this
    exact ((this.alloc _).alloc _).alloc _
  have hs0 : W0.heap.size = w.heap.size + 7 := by rw [hW0]; simp
  have hb0 : Below w.heap.size w W0 := by rw [hW0]; exact (((((((Below.refl _ _).alloc (Nat.le_refl _) _).alloc (by simp) _).alloc (by simp; omega) _).alloc (by simp; omega) _).alloc (by simp; omega) _).alloc (by simp; omega) _).alloc (by simp; omega) _
  clear hW0
  refine wpIn_rangeFunc_ownG rfl (by omega) (gf := 48) (lb := #[.pointer (some ⟨w.heap.size + 1 + 1 + 1 + 1 + 1, 0, none⟩), .pointer (some ⟨w.heap.size + 1 + 1 + 1 + 1 + 2, 0, none⟩), .pointer (some ⟨w.heap.size + 1 + 1 + 1 + 1, 0, none⟩)]) rfl trivial (enters_of Try.func48 (by kernel_rfl) rfl)
    (all_stops _ (by omega) (w.heap.size + 1 + 1 + 1 + 1) (w.heap.size + 1 + 1 + 1 + 1 + 1) (w.heap.size + 1 + 1 + 1 + 1 + 2) f m s a b _s0 _s1 T hT W0 (by omega) (by omega) (by omega) c0 c1 c2 ca cb) Keep.trans (Keep.put (by omega)) (Below.refl _ _) (fun _ => rfl)
    (fun pre W => (Coll W0.heap.size (w.heap.size + 1 + 1) (w.heap.size + 1 + 1 + 1) pre W ∧ (W.cell? ⟨w.heap.size + 1, 0, none⟩ = some (.int .i64 100) ∧ pre.length ≤ 100)) ∧ Below w.heap.size W0 W)
    (fun c pre W => (c = .exit 0 ∧ ∃ ini last, pre = ini ++ [last] ∧ ini.length = 100 ∧ Coll W0.heap.size (w.heap.size + 1 + 1) (w.heap.size + 1 + 1 + 1) ini W) ∧ Below w.heap.size W0 W)
    (OwnFrom.and (Own.from (fun s A B row hs hg hr => ⟨coll_own _ _ _ s A B row hs.1 hg hr, cell_kept hs.2.1 hg hr, hs.2.2⟩) _) (ownFrom_below (by omega) (by omega)))
    (fun c => OwnFrom.and (Own.from (fun s A B row hs hg hr => by obtain ⟨hc, ini, last, e1, e2, e3⟩ := hs; exact ⟨hc, ini, last, e1, e2, coll_own _ _ _ _ A B row e3 hg hr⟩) _) (ownFrom_below (by omega) (by omega)))
    ⟨⟨⟨_, _, bx1, World.ownsRow_nil _ _ _ _, bx2, World.ownsRow_nil _ _ _ _, fun g h => by cases h⟩, cM, by simp⟩, Below.refl _ _⟩
    (fun x => { tmps := #[.agg #[.int .i64 f, .int .i64 m, .int .u32 s], .int .i64 a, .int .i64 b, .int .i64 100, .pointer (some ⟨w.heap.size, 0, none⟩), undef, undef, .pointer (some ⟨w.heap.size + 1, 0, none⟩), .slice none 0 0, .slice none 0 0, .pointer (some ⟨w.heap.size + 1 + 1, 0, none⟩), .pointer (some ⟨w.heap.size + 1 + 1 + 1, 0, none⟩), .func (.func 48) #[] #[.pointer (some ⟨w.heap.size + 1 + 1 + 1 + 1 + 1, 0, none⟩), .pointer (some ⟨w.heap.size + 1 + 1 + 1 + 1 + 2, 0, none⟩), .pointer (some ⟨w.heap.size + 1 + 1 + 1 + 1, 0, none⟩)], .int .i64 (x.1 : Int), .int .i64 x.2, .agg #[.int .i64 f, .int .i64 m, .int .u32 s], .int .i64 a, .int .i64 b, .func (.func 48) #[] #[.pointer (some ⟨w.heap.size + 1 + 1 + 1 + 1 + 1, 0, none⟩), .pointer (some ⟨w.heap.size + 1 + 1 + 1 + 1 + 2, 0, none⟩), .pointer (some ⟨w.heap.size + 1 + 1 + 1 + 1, 0, none⟩)], .func (.func 48) #[] #[.pointer (some ⟨w.heap.size + 1 + 1 + 1 + 1 + 1, 0, none⟩), .pointer (some ⟨w.heap.size + 1 + 1 + 1 + 1 + 2, 0, none⟩), .pointer (some ⟨w.heap.size + 1 + 1 + 1 + 1, 0, none⟩)], .bool false, .func (.func 48) #[] #[.pointer (some ⟨w.heap.size + 1 + 1 + 1 + 1 + 1, 0, none⟩), .pointer (some ⟨w.heap.size + 1 + 1 + 1 + 1 + 2, 0, none⟩), .pointer (some ⟨w.heap.size + 1 + 1 + 1 + 1, 0, none⟩)], .int .i64 (x.1 : Int), .int .i64 x.2, undef, undef, undef, undef, undef, undef, undef, undef, undef, undef, undef, undef, undef, undef], defers := [] }) ?assign ?body ?done ?stop
  case assign =>
    intro l x W K hK
    gi_wp2
    simpa using hK
  case body =>
    rintro l pre x W ⟨⟨hcoll, hM, hle⟩, hB⟩ hlt
    obtain ⟨v1, v2, h1, r1, h2, r2, hap⟩ := hcoll
    have hsz := hB.size
    have g1 := h1.cell
    have g2 := h2.cell
    obtain ⟨ao1, cap1, rfl⟩ := row_form r1
    obtain ⟨ao2, cap2, rfl⟩ := row_form r2
    obtain ⟨q, hq⟩ : ∃ q : Nat, q = pre.length := ⟨_, rfl⟩
    rw [← hq] at r1 r2 h1 h2 g1 g2 hle hlt hap
    have R1 := Lib.hid r1
    have R2 := Lib.hid r2
    have HAP := Lib.hid hap
    have H1 := Lib.hid h1
    have H2 := Lib.hid h2
    have HQ := Lib.hid hq
    clear r1 r2 hap h1 h2 hq
    by_cases h100 : q < 100
    · gi_wp2_with (first | (gi_at_builtin; refine wpListIn_append_lies _ rfl (.tmp 28) (.tmp 30) 49 rfl W0.heap.size 3 i0 (.int .i64 0) 1 8 Try.underlying49 HI.out HZ0.out HZ1.out HZ2.out rfl (by decide) (.slice ao1 q cap1) _ _ rfl (R1.out.alloc _) ⟨_, 0, none⟩ 1 1 [.int .i64 (x.1 : Int)] rfl rfl (cell_one_at _ _ _ _ (by simp)) (by simp [Value.oneCell']) (by decide) (by unfold maxLen; omega) (by omega) (by simp; omega) (W.heap.size + 1) (by simp) ?_; intro p1 c1' w1 hown1 hgrow1 hat1 hlt1; obtain ⟨a1, a2, a3, a4, a5, a6⟩ := appended (n₀ := w.heap.size) H1.out (by decide) R1.out (by omega) (by omega) (by omega) hown1 hgrow1; obtain ⟨b1, b2, b3⟩ := beside (v' := .slice (some ⟨p1, 0, none⟩) (q + 1) c1') H2.out H1.out (by omega) (by decide) R1.out R2.out HAP.out hgrow1; have k1 := a1.cell; have k2 := a1.frozen; have k3 := b2.cell; have A := Lib.hid (And.intro a2 (And.intro a3 (And.intro a4 (And.intro a5 (a6 (w.heap.size + 1 + 1 + 1 + 1) (by omega) (by omega)))))); have B := Lib.hid (And.intro b2 b3); have C := Lib.hid (HAP.out.grown (k := q + 1) (cap := c1') (R2.out.alloc (.cells #[.int .i64 (x.1 : Int)] 3)) (by simpa using hat1)); have hs1 := a5.size; have e1 := (a6 (w.heap.size + 1) (by omega) (by omega)).2 0; simp only [World.size_setCell] at hs1; clear a1 a2 a3 a4 a5 a6 b1 b2 b3 hown1 hgrow1 hat1) | (gi_at_builtin; refine wpListIn_append_lies _ rfl (.tmp 32) (.tmp 34) 49 rfl W0.heap.size 3 i0 (.int .i64 0) 1 8 Try.underlying49 HI.out HZ0.out HZ1.out HZ2.out rfl (by decide) (.slice ao2 q cap2) _ _ rfl (B.out.2.alloc _) ⟨_, 0, none⟩ 1 1 [.int .i64 x.2] rfl rfl (cell_one_at _ _ _ _ (by simp)) (by simp [Value.oneCell']) (by decide) (by unfold maxLen; omega) (by omega) (by simp; omega) (w1.heap.size + 1) (by simp) ?_; intro p2 c2' w2 hown2 hgrow2 hat2 hlt2; obtain ⟨a1, a2, a3, a4, a5, a6⟩ := appended (n₀ := w.heap.size) B.out.1 (by decide) B.out.2 (by omega) (by simp; omega) (by omega) hown2 hgrow2; obtain ⟨b1, b2, b3⟩ := beside (v' := .slice (some ⟨p2, 0, none⟩) (q + 1) c2') A.out.1 B.out.1 (by omega) (by decide) B.out.2 A.out.2.1 C.out.symm hgrow2; have k1 := a1.cell; have k2 := a1.frozen; have e2 := (a6 (w.heap.size + 1) (by omega) (by omega)).2 0; have A2 := Lib.hid (And.intro a2 (And.intro a3 (And.intro a4 (And.intro a5 (a6 (w.heap.size + 1 + 1 + 1 + 1) (by omega) (by omega)))))); have B2 := Lib.hid (And.intro b2 b3); have C2 := Lib.hid ((C.out.symm.grown (k := q + 1) (cap := c2') (A.out.2.1.alloc (.cells #[.int .i64 x.2] 3)) (by simpa using hat2)).symm); clear a1 a2 a3 a4 a5 a6 b1 b2 b3 hown2 hgrow2 hat2))
      have hlen : (pre ++ [x]).length = q + 1 := by rw [HQ.out]; simp
      refine ⟨(A.out.2.2.1.trans A2.out.2.2.1).from _, A.out.2.2.2.2.trans A2.out.2.2.2.2, ⟨⟨_, _, B2.out.1, ?_, A2.out.1, ?_, C2.out⟩, (e2.trans e1).trans hM, by omega⟩, hB.trans (A.out.2.2.2.1.trans A2.out.2.2.2.1)⟩
      · rw [hlen]; unfold tryI; rw [List.map_append]; exact B2.out.2
      · rw [hlen]; unfold atI; rw [List.map_append]; exact A2.out.2.1
    · gi_wp2
      exact ⟨KeepsFrom.refl _ _, ⟨rfl, pre, x, rfl, by rw [← HQ.out]; omega, _, _, H1.out, by rw [← HQ.out]; exact R1.out, H2.out, by rw [← HQ.out]; exact R2.out, HAP.out⟩, hB⟩
  case done =>
    rintro D ys W hD rfl ⟨⟨⟨v1, v2, h1, r1, h2, r2, hap⟩, hM, hle⟩, hB⟩ hK
    rw [pr_len] at r1 r2 hle
    have g1 := h1.cell
    have g2 := h2.cell
    have hmin : min T 100 = T := by omega
    have hend := first_end (W := W.drew) r1 r2 (pr_len f m s a T) hK (hb0.trans hB).drew (by omega)
    rw [← hmin] at hend
    have HE := Lib.hid hend
    clear hend hmin
    gi_wp2
    gi_region
    gi_wp2
    refine ⟨by simp, .inl ⟨_, _, rfl, run_takeDeferred hK, ?_⟩⟩
    exact ⟨.tuple #[v1, v2], by simp [results, Try.f28, go_sem], HE.out⟩
  case stop =>
    rintro D c pre W hD ⟨k, hk, rfl⟩ ⟨⟨rfl, ini, last, e1, e2, v1, v2, h1, r1, h2, r2, hap⟩, hB⟩ hK
    obtain ⟨e4, -, e3⟩ := pr_eq e1
    generalize ini.length = q at *
    subst e4
    have g1 := h1.cell
    have g2 := h2.cell
    have hmin : min T 100 = q := by omega
    have hend := first_end (W := W.drew) r1 r2 (pr_len f m s a _) hK (hb0.trans hB).drew (by omega)
    rw [← hmin] at hend
    have HE := Lib.hid hend
    clear hend hmin
    gi_wp2
    gi_region
    gi_wp2
    refine ⟨by simp, .inl ⟨_, _, rfl, run_takeDeferred hK, ?_⟩⟩
    exact ⟨.tuple #[v1, v2], by simp [results, Try.f28, go_sem], HE.out⟩
end Go.Proofs.Ytigeieahhkoolaa.Wait
