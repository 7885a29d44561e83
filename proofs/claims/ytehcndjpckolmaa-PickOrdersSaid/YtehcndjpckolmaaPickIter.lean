/- The walks of layer 43 (pick): the iterator of Order; Next; the law's places. -/
import Derived.Test.YtehcndjpckolmaaPickOrd
namespace Go.Proofs.Ytehcndjpckolmaa.Pick
open Go.RowKit Go.Shelf Go.Proofs.Ytehcndjpckolmaa.Ints

attribute [local go_sem] Oper.semAt_some

/-- A round keeps the row that is gone through. -/
def KeepI (v : Value) (l : List Int) (A C : World) : Prop := A.heap.size ≤ C.heap.size ∧ (IRow A v l → IRow C v l)
theorem KeepI.trans {v : Value} {l : List Int} {A C D : World} (h : KeepI v l A C) (k : KeepI v l C D) : KeepI v l A D := ⟨Nat.le_trans h.1 k.1, fun r => k.2 (h.2 r)⟩
theorem irow_grown {v : Value} {l : List Int} {A C : World} {row : Option Nat} (hr : IRow A v l) (h : A.grownBy C row) (hne : ∀ r, row = some r → ∀ a n c, v = .slice (some a) n c → 0 < l.length → a.block ≠ r) : IRow C v l := by
  obtain ⟨ao, cap, rfl, h1, h2, h3⟩ := hr
  refine ⟨ao, cap, rfl, h1, h2, ?_⟩
  by_cases h0 : l.length = 0
  · exact Or.inl h0
  rcases h3 with h3 | ⟨b, off, rfl, hlt, hc⟩
  · exact Or.inl h3
  · refine Or.inr ⟨b, off, rfl, Nat.lt_of_lt_of_le hlt h.size, fun i x hi j hj => ?_⟩
    rw [← hc i x hi j hj]
    exact World.cell?_of_block (w := A) (h.block b hlt (fun e => hne b e.symm _ _ _ rfl (by omega) rfl))
theorem KeepI.put {v : Value} {l : List Int} (W : World) (b : Nat) (o o' : Obj) (hb : W.heap[b]? = some o) (ho : o.isCells = false) : KeepI v l W (W.putObj b o') := by
  refine ⟨by simp, fun r => irow_grown r (grownBy_putObj' W b o') fun r' e a n c hv h0 hab => ?_⟩
  cases e
  obtain ⟨ao, cap, hv', h1, h2, h3⟩ := r
  rw [hv] at hv'
  cases hv'
  rcases h3 with h3 | ⟨b', off, e, hlt, hc⟩
  · omega
  · cases e
    have hab : b' = b := hab
    subst hab
    have h00 := hc 0 l[0] (List.getElem?_eq_getElem h0) 0 (by decide)
    unfold World.cell? at h00
    simp only [hb] at h00
    cases o <;> simp_all [Obj.isCells]

set_option maxRecDepth 100000 in
set_option maxHeartbeats 2000000 in
theorem ord2_in (n : Nat) (hn : 1 ≤ n) (lp Bx : Nat) (v : Value) (L : List Int) (hL : L.length ≤ 100000) (J Jx : List Int → World → Prop)
    (hY : ∀ pre x W, J pre W → pre.length < L.length → YieldAt Fence.wide (n - 1) Try.prog lp #[.int .i64 x] W fun e W' =>
      (e = .returned (.bool true) ∧ J (pre ++ [x]) W' ∧ KeepI v L W W') ∨ (e = .returned (.bool false) ∧ Jx (pre ++ [x]) W'))
    (W : World) (hbx : W.cell? ⟨Bx, 0, none⟩ = some v) (hrow : IRow W v L) (hJ0 : J [] W) :
    CallsIn Fence.wide n Try.prog 91 #[.func (.yield lp) #[] #[], .pointer (some ⟨Bx, 0, none⟩)] W fun e W' => (∃ v, e = .returned v) ∧
      ((∃ ys, ys = L ∧ J ys W') ∨ (∃ pre, (∃ k, k ≤ L.length ∧ pre = L.take k) ∧ Jx pre W')) := by
  obtain ⟨ao, cap, rfl, -, -⟩ := Lst.form hrow
  have HR := Lib.hid hrow
  clear hrow
  refine callsIn_of_wp Try.func91 rfl trivial ?_ rfl
  simp only [Try.ntmps91, List.size_toArray, List.length_cons, List.length_nil, Nat.reduceAdd, Nat.reduceSub, Array.replicate_succ, Array.replicate_zero, List.push_toArray, List.append_toArray, List.nil_append, List.cons_append]
  gi_wp2
  gi_loopw [7] (fun iv wr => ∃ k : Nat, k ≤ L.length ∧ iv = .int .i64 k ∧ J (L.take k) wr ∧ Hid (IRow wr (.slice ao L.length cap) L)) (fun iv _ => L.length - (intOf iv).toNat)
  case atStart => exact ⟨0, Nat.zero_le _, rfl, hJ0, HR⟩
  case round =>
    obtain ⟨k, hk, rfl, hJk, hr⟩ := hrel
    by_cases hlt : k < L.length
    · obtain ⟨b, off, rfl, hb, c0⟩ := int_at hr.out (List.getElem?_eq_getElem hlt)
      have htk := List.take_succ_eq_append_getElem hlt
      obtain ⟨x, hx⟩ : ∃ x, x = L[k] := ⟨_, rfl⟩
      rw [← hx] at c0 htk
      have HTK := Lib.hid htk
      have hlen : (L.take k).length < L.length := by rw [List.length_take]; omega
      clear hx htk
      obtain ⟨fn, tmps, assign, body, hy, hR⟩ := hY _ x wr hJk hlen
      gi_wp2
      refine hR.mono ?_
      rintro e W3 (⟨rfl, hJ3, hk3⟩ | ⟨rfl, hJx3⟩)
      · have HK := Lib.hid (hk3.2 hr.out)
        gi_wp2
        go_roundw
        case rel => exact ⟨k + 1, by omega, by go_num, by rw [HTK.out]; exact hJ3, HK⟩
        case measure => simp [intOf]; omega
      · gi_wp2
        refine bodyPost_ret (results_none rfl _ _ _) rfl ?_
        exact ⟨⟨_, rfl⟩, .inr ⟨_, ⟨k + 1, by omega, HTK.out.symm⟩, hJx3⟩⟩
    · obtain rfl : k = L.length := by omega
      have htk : L.take L.length = L := List.take_length
      have HTK := Lib.hid htk
      clear htk
      gi_wp2
      go_end0
      exact ⟨⟨_, rfl⟩, .inl ⟨_, HTK.out, hJk⟩⟩

theorem ord_stops (n : Nat) (hn : 1 ≤ n) (Bx : Nat) (v : Value) (L : List Int) (hL : L.length ≤ 100000) (w : World) (hBx : Bx < w.heap.size) (hbx : w.cell? ⟨Bx, 0, none⟩ = some v) (hrow : IRow w v L) :
    SeqStopsK Fence.wide n Try.prog 91 #[.pointer (some ⟨Bx, 0, none⟩)] (fun x : Int => #[.int .i64 x]) (KeepI v L) (fun ys => ys = L) (fun pre => ∃ k, k ≤ L.length ∧ pre = L.take k) L.length w := fun l J Jx W hW _ _ hY hJ0 =>
  ord2_in n hn l Bx v L hL J Jx hY W ((hW.cell (p := ⟨Bx, 0, none⟩) hBx).trans hbx) (Lst.below hrow hW) hJ0

/-- The first of the order; or there is none. -/
def NextPost (w : World) (L : List Int) (e : Ending) (w' : World) : Prop := e = .returned (.tuple #[.int .i64 (L.headD 0), .bool (!L.isEmpty)]) ∧ Below w.heap.size w w'

set_option maxRecDepth 100000 in
set_option maxHeartbeats 2000000 in
theorem next_any (ao : Option Addr) (ac : Nat) (l : List Need) (now : Int) (w : World) (ha : NRow w (.slice ao l.length ac) l) (hl : l.length < 40) :
    Calls Try.prog 26 #[.int .i64 now, .slice ao l.length ac] w (NextPost w (ordF now l)) := by
  have HA := Lib.hid ha
  clear ha
  have hol : (ordF now l).length ≤ 100000 := by rw [ordF_len]; have := wants_len now l; omega
  refine (callsIn_wide (n := 3)).1 ?_
  refine callsIn_of_wp_marks Try.func26 rfl trivial ?_ rfl
  simp only [Try.ntmps26, List.size_toArray, List.length_cons, List.length_nil, Nat.reduceAdd, Nat.reduceSub, Array.replicate_succ, Array.replicate_zero, List.push_toArray, List.append_toArray, List.nil_append, List.cons_append]
  gi_wp2_with (refine ⟨trivial, ?_⟩; gi_at_call 70; refine (callsIn_wide.2 (ord_any ao ac l now _ ((HA.out.alloc _).alloc _) hl)).mono ?_; rintro e w' ⟨Bx, v, rfl, h1, h2, h3, h4, h5, h6⟩)
  have hs : w.heap.size + 2 ≤ w'.heap.size := by have := h6.size; simpa using this
  have b0 : Boxed w' w.heap.size 3 (.int .i64 0) := box_below ((Boxed.new w 3 (.int .i64 0)).alloc _) h6
  have b1 : Boxed w' (w.heap.size + 1) 4 (.bool false) := by
    have := Boxed.new (w.alloc (.cells #[.int .i64 0] 3)) 4 (.bool false)
    rw [World.size_alloc] at this
    exact box_below this h6
  have hb : Below w.heap.size w w' := below_then (((Below.refl _ _).alloc (Nat.le_refl _) _).alloc (by simp) _) (Nat.le_refl _) h6
  refine wpIn_rangeFunc_ownG rfl (by omega) (gf := 91) (lb := #[.pointer (some ⟨Bx, 0, none⟩)]) rfl trivial (enters_of Try.func91 (by kernel_rfl) rfl)
    (ord_stops _ (by omega) Bx v (ordF now l) hol w' h2 h3 h4) KeepI.trans (fun W b o o' _ hb ho _ => KeepI.put W b o o' hb ho) (Below.refl _ _) (fun _ => rfl)
    (fun pre W => (pre = [] ∧ Boxed W w.heap.size 3 (.int .i64 0) ∧ Boxed W (w.heap.size + 1) 4 (.bool false)) ∧ Below w.heap.size w W)
    (fun c pre W => (c = .ret ∧ ∃ x, pre = [x] ∧ Boxed W w.heap.size 3 (.int .i64 x) ∧ Boxed W (w.heap.size + 1) 4 (.bool true)) ∧ Below w.heap.size w W)
    (OwnFrom.and (Own.from (fun s A B row hs hg hr => ⟨hs.1, own_box hs.2.1 hg hr, own_box hs.2.2 hg hr⟩) _) (ownFrom_below (Nat.le_refl _) (by omega)))
    (fun c => OwnFrom.and (Own.from (fun s A B row hs hg hr => by obtain ⟨hc, x, e1, e2, e3⟩ := hs; exact ⟨hc, x, e1, own_box e2 hg hr, own_box e3 hg hr⟩) _) (ownFrom_below (Nat.le_refl _) (by omega)))
    ⟨⟨rfl, b0, b1⟩, hb⟩
    (fun x => { tmps := #[.int .i64 now, .slice ao l.length ac, undef, undef, .pointer (some ⟨w.heap.size, 0, none⟩), .pointer (some ⟨w.heap.size + 1, 0, none⟩), .int .i64 x, .int .i64 now, .slice ao l.length ac, .func (.func 91) #[] #[.pointer (some ⟨Bx, 0, none⟩)], .int .i64 x, undef], defers := [] }) ?assign ?body ?done ?stop
  case assign =>
    intro l x W K hK
    gi_wp2
    simpa using hK
  case body =>
    rintro lp pre x W ⟨⟨rfl, q0, q1⟩, hB⟩ hlt
    have g0 := q0.cell
    have g1 := q1.cell
    have f0 := q0.frozen
    have f1 := q1.frozen
    have Q := Lib.hid (And.intro q0 q1)
    clear q0 q1
    gi_wp2
    exact ⟨((KeepsOthers.setCell _ _ _).trans (KeepsOthers.setCell _ _ _)).from _, ⟨rfl, x, rfl, (Q.out.1.set _).kept (grownBy_setCell' _ _ _) (by simp), (Q.out.2.kept (grownBy_setCell' _ _ _) (by simp)).set _⟩, (hB.setCell (p := ⟨w.heap.size, 0, none⟩) (Nat.le_refl _) _).setCell (p := ⟨w.heap.size + 1, 0, none⟩) (by simp) _⟩
  case done =>
    rintro D ys W hD rfl ⟨⟨hnil, q0, q1⟩, hB⟩ hK
    have HNIL := Lib.hid hnil
    have g0 := q0.cell
    have g1 := q1.cell
    have f0 := q0.frozen
    have f1 := q1.frozen
    have Q := Lib.hid (And.intro q0 q1)
    clear q0 q1 hnil
    gi_wp2
    have hK' := ((KeepsOthers.setCell W ⟨w.heap.size, 0, none⟩ (.int .i64 0)).trans (KeepsOthers.setCell _ ⟨w.heap.size + 1, 0, none⟩ (.bool false))).same D _ hK rfl
    refine ⟨by simp, .inl ⟨_, _, rfl, run_takeDeferred hK', ?_⟩⟩
    have p0 := (Q.out.1.set (.int .i64 0)).kept (grownBy_setCell' _ (w.heap.size + 1) (.bool false)) (by simp)
    have p1 := (Q.out.2.kept (grownBy_setCell' W w.heap.size (.int .i64 0)) (by simp)).set (.bool false)
    have c0 := (own_box p0 (grownBy_putObj' _ D (.deferred none)) (fun r e => by cases e; exact ⟨_, hK', rfl⟩)).cell
    have c1 := (own_box p1 (grownBy_putObj' _ D (.deferred none)) (fun r e => by cases e; exact ⟨_, hK', rfl⟩)).cell
    exact ⟨.tuple #[.int .i64 0, .bool false], by simp [results, Try.f26, go_sem, c0, c1], by rw [HNIL.out]; rfl, ((hB.setCell (p := ⟨w.heap.size, 0, none⟩) (Nat.le_refl _) _).setCell (p := ⟨w.heap.size + 1, 0, none⟩) (by simp) _).trans (belowK_b (w := w) (Nat.le_refl _) _ D _ _ (by omega) hK' rfl rfl)⟩
  case stop =>
    rintro D c pre W hD ⟨k, hk, hpre⟩ ⟨⟨rfl, x, e1, q0, q1⟩, hB⟩ hK
    have hL : ∃ t, ordF now l = x :: t := by
      rw [e1] at hpre
      cases ho : ordF now l with
      | nil => rw [ho] at hpre; simp at hpre
      | cons y t =>
        rw [ho] at hpre
        cases k with
        | zero => simp at hpre
        | succ k => simp at hpre; exact ⟨t, by rw [hpre.1]⟩
    obtain ⟨t, ht⟩ := hL
    have HT := Lib.hid ht
    clear ht
    gi_wp2
    refine ⟨by simp, .inl ⟨_, _, rfl, run_takeDeferred hK, ?_⟩⟩
    have c0 := (own_box q0 (grownBy_putObj' W D (.deferred none)) (fun r e => by cases e; exact ⟨_, hK, rfl⟩)).cell
    have c1 := (own_box q1 (grownBy_putObj' W D (.deferred none)) (fun r e => by cases e; exact ⟨_, hK, rfl⟩)).cell
    exact ⟨.tuple #[.int .i64 x, .bool true], by simp [results, Try.f26, go_sem, c0, c1], by rw [HT.out]; rfl, hB.trans (belowK_b (w := w) (Nat.le_refl _) W D _ _ (by omega) hK rfl rfl)⟩
end Go.Proofs.Ytehcndjpckolmaa.Pick
