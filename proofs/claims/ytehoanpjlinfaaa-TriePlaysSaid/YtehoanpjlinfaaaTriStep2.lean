/- The law's step, walked: a call of both, way by way. PRINTED by wip/gentristep.py. -/
import Derived.Test.YtehoanpjlinfaaaTriStep
namespace Go.Proofs.Ytehoanpjlinfaaa.Tri
open Go.RowKit

theorem drop_lit (q : Bool) (t : Nat) (s : ByteArray) (D : Dict) (d β N : Nat) (many : Int) (σ : Store) (w : World) (hq : (D (runesOf s)).isSome = q) (H : Says w β t d N σ D many) (hN : N ≤ 99999) (hz : s.size ≤ 1000000) (hm : 0 ≤ many ∧ many ≤ 1000000) :
    Calls Try.prog 44 #[enP t, .string s] w fun e w' => ∃ τ, e = .returned (.bool q) ∧ Says w' β t d N τ (del D (runesOf s)) (if q then many - 1 else many) ∧ Moves σ w τ w' := by
  subst hq; exact drop_any t s D d β N many σ w H hN hz hm
theorem put_lit (q : Bool) (t : Nat) (s : ByteArray) (n : Int) (D : Dict) (d β N : Nat) (many : Int) (σ : Store) (w : World) (hq : (D (runesOf s)).isSome = q) (H : Says w β t d N σ D many) (hβ : β ≤ w.heap.size) (hN : N + s.size ≤ 99999) (hd : s.size ≤ d) (hm : 0 ≤ many ∧ many ≤ 1000000) :
    Calls Try.prog 46 #[enP t, .string s, .int .i64 n] w fun e w' => ∃ τ, e = .returned (.bool q) ∧ Says w' β t d (N + (runesOf s).length) τ (ins D (runesOf s) n) (if q then many else many + 1) ∧ Moves σ w τ w' := by
  subst hq; exact put_says t s n D d β N many σ w H hβ hN hd hm
theorem get_lit (o : Option Int) (t : Nat) (s : ByteArray) (D : Dict) (d β N : Nat) (many : Int) (σ : Store) (w : World) (ho : D (runesOf s) = o) (H : Says w β t d N σ D many) (hN : N ≤ 99999) :
    Calls Try.prog 45 #[enP t, .string s] w fun e w' => e = .returned (.tuple #[.int .i64 (o.getD 0), .bool o.isSome]) ∧ Below w.heap.size w w' := by
  subst ho; exact get_any t s D d β N many σ w H hN
theorem none_of {D : Dict} {k : Tx} (h : (D k).isSome = false) : D k = none := by cases hq : D k with
  | none => rfl
  | some _ => rw [hq] at h; cases h
theorem some_of {D : Dict} {k : Tx} (h : (D k).isSome = true) : ∃ n, D k = some n := by cases hq : D k with
  | none => rw [hq] at h; cases h
  | some n => exact ⟨n, rfl⟩
theorem its_at {l : List RI} {i : Nat} {p : Tx × Int} (h : (its l)[i]? = some p) : ∃ x, l[i]? = some x ∧ p = (x.s, x.n) := by
  rw [its_get] at h
  cases hx : l[i]? with
  | none => rw [hx] at h; cases h
  | some x => rw [hx] at h; cases h; exact ⟨x, rfl, rfl⟩

theorem lt_of_cell {w : World} {b o : Nat} {v : Value} (h : w.cell? ⟨b, o, none⟩ = some v) : b < w.heap.size := by
  cases hq : w.heap[b]? with
  | none => unfold World.cell? at h; simp [hq] at h
  | some o => exact (Array.getElem?_eq_some_iff.1 hq).1
theorem src_take {ok : Nat → Prop} {w : World} {b off n cap : Nat} {l : List RI} (h : Items ok w (.slice (some ⟨b, off, none⟩) n cap) l) (k : Nat) (W : World) (hW : Below w.heap.size w W) : ∀ j u, ((l.take k).flatMap RI.en)[j]? = some u → W.cell? ((⟨b, off, none⟩ : Addr).add j) = some u := fun j u hj => by
  have h1 := take_cells h k j u hj
  rw [addr_add] at h1 ⊢
  rw [hW.cell (p := ⟨b, off + j, none⟩) (lt_of_cell h1)]; exact h1
theorem src_drop {ok : Nat → Prop} {w : World} {b off n cap : Nat} {l : List RI} (h : Items ok w (.slice (some ⟨b, off, none⟩) n cap) l) (k : Nat) (W : World) (hW : Below w.heap.size w W) : ∀ j u, ((l.drop k).flatMap RI.en)[j]? = some u → W.cell? ((⟨b, off + k * 2, none⟩ : Addr).add j) = some u := fun j u hj => by
  have h1 := part_cells h k j u hj
  rw [addr_add] at h1 ⊢
  rw [hW.cell (p := ⟨b, off + k * 2 + j, none⟩) (lt_of_cell h1)]; exact h1
theorem flat_setn : ∀ (l : List RI) (i : Nat) (x : RI), l[i]? = some x → ∀ n : Int, (l.flatMap RI.en).set (i * 2 + 1) (.int .i64 n) = (l.set i { x with n := n }).flatMap RI.en
  | [], i, x, h, n => by simp at h
  | y :: l, 0, x, h, n => by
    obtain rfl : y = x := by simpa using h
    simp [RI.en]
  | y :: l, i + 1, x, h, n => by
    have ih := flat_setn l i x (by simpa using h) n
    rw [List.set_cons_succ, List.flatMap_cons, List.flatMap_cons, ← ih, show (i + 1) * 2 + 1 = i * 2 + 1 + 1 + 1 by omega]
    simp only [RI.en, List.cons_append, List.nil_append, List.set_cons_succ]
theorem grown_below2 {w2 w3 : World} {o : Obj} (h : ((w2.alloc o).drew).grownBy w3 (Value.ownBlock (.slice (some ⟨w2.heap.size, 0, none⟩) 0 0))) : Below w2.heap.size ((w2.alloc o).drew) w3 :=
  ⟨h.os, h.tape, h.output, h.size, fun k hk => h.block k (by simp; omega) (by simp [Value.ownBlock]; omega)⟩

/-- The trie and the law's row: alike. -/
structure Alike (w : World) (β t d N : Nat) (σ : Store) (D : Dict) (v : Value) (l : List RI) : Prop where
  says : Says w β t d N σ D l.length
  row : RowIs D (its l)
  items : Items (fun b => ¬ Uses σ b) w v l
  short : ∀ x ∈ l, x.s.length ≤ 50
def StepPost (σ : Store) (t d β N : Nat) (l : List RI) (w : World) (e : Ending) (w' : World) : Prop :=
  ∃ τ D' v' l', e = .returned (.tuple #[v', .bool true]) ∧ Alike w' β t d (N + 50) τ D' v' l' ∧ l'.length ≤ l.length + 1 ∧ Moves σ w τ w'

theorem Says.more {w : World} {β t d N M : Nat} {σ : Store} {D : Dict} {many : Int} (h : Says w β t d N σ D many) (hm : N ≤ M) : Says w β t d M σ D many := ⟨h.at_, h.rep, h.nodup, fun b x hx => Nat.le_trans (h.slim b x hx) hm⟩

section
variable (t : Nat) (ao : Option Addr) (ac : Nat) (l : List RI) (kind n : Int) (s : ByteArray) (D : Dict) (d β N : Nat) (σ : Store) (w : World)
set_option maxHeartbeats 8000000 in
set_option maxRecDepth 100000 in
theorem step_drop_not (hkm : kind % 4 = 2) (his : hasL (its l) (runesOf s) = false)
    (H : Alike w β t d N σ D (.slice ao l.length ac) l) (hβ : β ≤ w.heap.size) (hN : N + 50 ≤ 99999) (hd : 50 ≤ d) (hl : l.length ≤ 1000) (hz : s.size ≤ 50) (hk0 : 0 ≤ kind) (hk1 : kind ≤ 9223372036854775807) :
    Calls Try.prog 8 #[enP t, .slice ao l.length ac, .agg #[.int .i64 kind, .int .i64 n, .string s]] w (StepPost σ t d β N l w) := by
  obtain ⟨G, C, hcv, hG, hC⟩ := runes_row (P := Try.prog) 9 24 21 s Try.underlying9 Try.underlying24 Try.underlying21 (by omega)
  obtain ⟨rl, hrl⟩ : ∃ rl, rl = (runesOf s).length := ⟨_, rfl⟩
  have hrl50 : rl ≤ 50 := by have := runesOf_len s; omega
  simp only [← hrl] at hcv hG
  obtain ⟨W1, hW1⟩ : ∃ W1, W1 = ((((w.alloc (.cells #[.int .i64 kind, .int .i64 n, .string s] 32))).alloc (.cells (C (w.alloc (.cells #[.int .i64 kind, .int .i64 n, .string s] 32))) 21)).drew) := ⟨_, rfl⟩
  have hw1 : Below w.heap.size w W1 := by rw [hW1]; exact (((Below.refl _ _).alloc (Nat.le_refl _) _).alloc (by simp) _).drew
  have ob0 : W1.heap[w.heap.size]? = some (.cells #[.int .i64 kind, .int .i64 n, .string s] 32 (0, 0)) := by rw [hW1]; show ((w.heap.push _).push _)[w.heap.size]? = _; rw [Array.getElem?_push_lt (by simp)]; simp
  have rb0 : W1.heap[w.heap.size + 1]? = some (.cells (C (w.alloc (.cells #[.int .i64 kind, .int .i64 n, .string s] 32))) 21 (0, 0)) := by
    rw [hW1]
    show ((w.heap.push _).push _)[w.heap.size + 1]? = _
    rw [show w.heap.size + 1 = (w.heap.push (.cells #[.int .i64 kind, .int .i64 n, .string s] 32)).size by simp, Array.getElem?_push_size]
  have hrow : RRow W1 (.slice (some ⟨w.heap.size + 1, 0, none⟩) rl (G (w.alloc (.cells #[.int .i64 kind, .int .i64 n, .string s] 32)))) (runesOf s) := by
    refine ⟨_, _, by rw [hrl], by rw [← hrl]; exact (hG _).1, (hG _).2.1, Or.inr ⟨_, 0, rfl, (Array.getElem?_eq_some_iff.1 rb0).1, fun i x hi j hj => ?_⟩⟩
    obtain rfl : j = 0 := by omega
    rw [cells_block rb0, Nat.zero_add, Nat.mul_one, Nat.add_zero]
    exact hC _ i x hi
  have hfr := find_row ao (some ⟨w.heap.size + 1, 0, none⟩) ac (G (w.alloc (.cells #[.int .i64 kind, .int .i64 n, .string s] 32))) l (runesOf s) _ W1 (H.items.stay (Stay.below hw1)) (by rw [← hrl]; exact hrow) (by omega) (by omega) (fun x hx => by have := H.short x hx; omega)
  rw [his, ← hrl] at hfr
  obtain ⟨fi, hfi⟩ : ∃ fi, fi = findL (its l) (runesOf s) := ⟨_, rfl⟩
  rw [← hfi] at hfr
  have hfl : fi ≤ l.length := by rw [hfi]; have := findL_le (its l) (runesOf s); unfold its at this ⊢; simpa using this
  have hlc : l.length ≤ ac ∧ ac ≤ 9223372036854775807 := by
    obtain ⟨_, _, e, q, q2, _⟩ := H.items.row.row
    cases e
    unfold maxLen at q2
    omega
  have hD : (D (runesOf s)).isSome = false := by rw [← hasL_iff H.row, his]
  have hA : Alike W1 β t d N σ D (.slice ao l.length ac) l := ⟨H.says.below hw1, H.row, H.items.stay (Stay.below hw1), H.short⟩
  have huw : ∀ k, w.heap.size ≤ k → ¬ Uses σ k := fun k hk e => by have := (H.says.at_.heap.uses_lt e).2; omega
  have hz1 : W1.heap.size = w.heap.size + 2 := by rw [hW1]; simp
  have HFR := Lib.hid hfr
  have HROW := Lib.hid hrow
  have HW1 := Lib.hid hw1
  have HFI := Lib.hid hfi
  have HRL := Lib.hid hrl
  have HH := Lib.hid H
  have HIS := Lib.hid his
  have HD := Lib.hid hD
  have HA := Lib.hid hA
  have HUW := Lib.hid huw
  have HZ1 := Lib.hid hz1
  have OB0 := Lib.hid ob0
  have HWW := Lib.hid hW1
  obtain ⟨ln, hln⟩ : ∃ ln, ln = l.length := ⟨_, rfl⟩
  rw [← hln] at HFR HA HH hfl hlc hl ⊢
  have HLN := Lib.hid hln
  obtain ⟨hlc1, hlc2⟩ := hlc
  have m1 : kind % 4 = 2 := hkm
  have m2 : kind.tmod 4 = 2 := by rw [Int.tmod_eq_emod_of_nonneg hk0]; exact hkm
  clear hfr hrow hw1 hfi hrl H his hD hA hG hC hln hkm huw hz1 ob0 rb0 hW1
  go_enter Try.func8, Try.ntmps8
  go_wp2_with fail
  rw [← HWW.out]
  refine HFR.out.mono ?_
  rintro en w1 ⟨rfl, rfl⟩
  have c0 : W1.cell? ⟨w.heap.size, 0, none⟩ = some (.int .i64 kind) := cells_block OB0.out 0
  have c1 : W1.cell? ⟨w.heap.size, 1, none⟩ = some (.int .i64 n) := cells_block OB0.out 1
  have c2 : W1.cell? ⟨w.heap.size, 2, none⟩ = some (.string s) := cells_block OB0.out 2
  go_wp2_with fail
  refine (drop_lit false t s D d β N ln σ W1 HD.out (by rw [HLN.out]; exact HA.out.says) (by omega) (by omega) (by omega)).mono ?_
  rintro en w2 ⟨τ, rfl, h1, m1⟩
  have hDn := none_of HD.out
  have hfin : StepPost σ t d β N l w (.returned (.tuple #[.slice ao ln ac, .bool true])) w2 :=
    ⟨τ, del D (runesOf s), _, l, rfl, ⟨by rw [← HLN.out]; exact h1.more (by omega), by rw [del_none hDn]; exact HA.out.row, HA.out.items.moves m1, HA.out.short⟩, by omega, (Moves.below HW1.out).trans m1⟩
  have HFIN := Lib.hid hfin
  clear hfin h1 m1 hDn c0 c1 c2
  go_wp2_with fail
  go_ret2
  exact HFIN.out

set_option maxHeartbeats 8000000 in
set_option maxRecDepth 100000 in
theorem step_get_not (hkm : kind % 4 = 3) (his : hasL (its l) (runesOf s) = false)
    (H : Alike w β t d N σ D (.slice ao l.length ac) l) (hβ : β ≤ w.heap.size) (hN : N + 50 ≤ 99999) (hd : 50 ≤ d) (hl : l.length ≤ 1000) (hz : s.size ≤ 50) (hk0 : 0 ≤ kind) (hk1 : kind ≤ 9223372036854775807) :
    Calls Try.prog 8 #[enP t, .slice ao l.length ac, .agg #[.int .i64 kind, .int .i64 n, .string s]] w (StepPost σ t d β N l w) := by
  obtain ⟨G, C, hcv, hG, hC⟩ := runes_row (P := Try.prog) 9 24 21 s Try.underlying9 Try.underlying24 Try.underlying21 (by omega)
  obtain ⟨rl, hrl⟩ : ∃ rl, rl = (runesOf s).length := ⟨_, rfl⟩
  have hrl50 : rl ≤ 50 := by have := runesOf_len s; omega
  simp only [← hrl] at hcv hG
  obtain ⟨W1, hW1⟩ : ∃ W1, W1 = ((((w.alloc (.cells #[.int .i64 kind, .int .i64 n, .string s] 32))).alloc (.cells (C (w.alloc (.cells #[.int .i64 kind, .int .i64 n, .string s] 32))) 21)).drew) := ⟨_, rfl⟩
  have hw1 : Below w.heap.size w W1 := by rw [hW1]; exact (((Below.refl _ _).alloc (Nat.le_refl _) _).alloc (by simp) _).drew
  have ob0 : W1.heap[w.heap.size]? = some (.cells #[.int .i64 kind, .int .i64 n, .string s] 32 (0, 0)) := by rw [hW1]; show ((w.heap.push _).push _)[w.heap.size]? = _; rw [Array.getElem?_push_lt (by simp)]; simp
  have rb0 : W1.heap[w.heap.size + 1]? = some (.cells (C (w.alloc (.cells #[.int .i64 kind, .int .i64 n, .string s] 32))) 21 (0, 0)) := by
    rw [hW1]
    show ((w.heap.push _).push _)[w.heap.size + 1]? = _
    rw [show w.heap.size + 1 = (w.heap.push (.cells #[.int .i64 kind, .int .i64 n, .string s] 32)).size by simp, Array.getElem?_push_size]
  have hrow : RRow W1 (.slice (some ⟨w.heap.size + 1, 0, none⟩) rl (G (w.alloc (.cells #[.int .i64 kind, .int .i64 n, .string s] 32)))) (runesOf s) := by
    refine ⟨_, _, by rw [hrl], by rw [← hrl]; exact (hG _).1, (hG _).2.1, Or.inr ⟨_, 0, rfl, (Array.getElem?_eq_some_iff.1 rb0).1, fun i x hi j hj => ?_⟩⟩
    obtain rfl : j = 0 := by omega
    rw [cells_block rb0, Nat.zero_add, Nat.mul_one, Nat.add_zero]
    exact hC _ i x hi
  have hfr := find_row ao (some ⟨w.heap.size + 1, 0, none⟩) ac (G (w.alloc (.cells #[.int .i64 kind, .int .i64 n, .string s] 32))) l (runesOf s) _ W1 (H.items.stay (Stay.below hw1)) (by rw [← hrl]; exact hrow) (by omega) (by omega) (fun x hx => by have := H.short x hx; omega)
  rw [his, ← hrl] at hfr
  obtain ⟨fi, hfi⟩ : ∃ fi, fi = findL (its l) (runesOf s) := ⟨_, rfl⟩
  rw [← hfi] at hfr
  have hfl : fi ≤ l.length := by rw [hfi]; have := findL_le (its l) (runesOf s); unfold its at this ⊢; simpa using this
  have hlc : l.length ≤ ac ∧ ac ≤ 9223372036854775807 := by
    obtain ⟨_, _, e, q, q2, _⟩ := H.items.row.row
    cases e
    unfold maxLen at q2
    omega
  have hD : (D (runesOf s)).isSome = false := by rw [← hasL_iff H.row, his]
  have hA : Alike W1 β t d N σ D (.slice ao l.length ac) l := ⟨H.says.below hw1, H.row, H.items.stay (Stay.below hw1), H.short⟩
  have huw : ∀ k, w.heap.size ≤ k → ¬ Uses σ k := fun k hk e => by have := (H.says.at_.heap.uses_lt e).2; omega
  have hz1 : W1.heap.size = w.heap.size + 2 := by rw [hW1]; simp
  have HFR := Lib.hid hfr
  have HROW := Lib.hid hrow
  have HW1 := Lib.hid hw1
  have HFI := Lib.hid hfi
  have HRL := Lib.hid hrl
  have HH := Lib.hid H
  have HIS := Lib.hid his
  have HD := Lib.hid hD
  have HA := Lib.hid hA
  have HUW := Lib.hid huw
  have HZ1 := Lib.hid hz1
  have OB0 := Lib.hid ob0
  have HWW := Lib.hid hW1
  obtain ⟨ln, hln⟩ : ∃ ln, ln = l.length := ⟨_, rfl⟩
  rw [← hln] at HFR HA HH hfl hlc hl ⊢
  have HLN := Lib.hid hln
  obtain ⟨hlc1, hlc2⟩ := hlc
  have m1 : kind % 4 = 3 := hkm
  have m2 : kind.tmod 4 = 3 := by rw [Int.tmod_eq_emod_of_nonneg hk0]; exact hkm
  clear hfr hrow hw1 hfi hrl H his hD hA hG hC hln hkm huw hz1 ob0 rb0 hW1
  go_enter Try.func8, Try.ntmps8
  go_wp2_with fail
  rw [← HWW.out]
  refine HFR.out.mono ?_
  rintro en w1 ⟨rfl, rfl⟩
  have c0 : W1.cell? ⟨w.heap.size, 0, none⟩ = some (.int .i64 kind) := cells_block OB0.out 0
  have c1 : W1.cell? ⟨w.heap.size, 1, none⟩ = some (.int .i64 n) := cells_block OB0.out 1
  have c2 : W1.cell? ⟨w.heap.size, 2, none⟩ = some (.string s) := cells_block OB0.out 2
  go_wp2_with fail
  have hDn := none_of HD.out
  refine (get_lit none t s D d β N ln σ W1 hDn (by rw [HLN.out]; exact HA.out.says) (by omega)).mono ?_
  rintro en w2 ⟨rfl, hb⟩
  have hfin : StepPost σ t d β N l w (.returned (.tuple #[.slice ao ln ac, .bool true])) w2 :=
    ⟨σ, D, _, l, rfl, ⟨(HA.out.says.below hb).more (by omega), HA.out.row, HA.out.items.stay (Stay.below hb), HA.out.short⟩, by omega, (Moves.below HW1.out).trans (Moves.below hb)⟩
  have HFIN := Lib.hid hfin
  clear hfin hb hDn c0 c1 c2
  go_wp2_with fail
  go_ret2
  exact HFIN.out

set_option maxHeartbeats 8000000 in
set_option maxRecDepth 100000 in
theorem step_get_is (hkm : kind % 4 = 3) (his : hasL (its l) (runesOf s) = true)
    (H : Alike w β t d N σ D (.slice ao l.length ac) l) (hβ : β ≤ w.heap.size) (hN : N + 50 ≤ 99999) (hd : 50 ≤ d) (hl : l.length ≤ 1000) (hz : s.size ≤ 50) (hk0 : 0 ≤ kind) (hk1 : kind ≤ 9223372036854775807) :
    Calls Try.prog 8 #[enP t, .slice ao l.length ac, .agg #[.int .i64 kind, .int .i64 n, .string s]] w (StepPost σ t d β N l w) := by
  obtain ⟨G, C, hcv, hG, hC⟩ := runes_row (P := Try.prog) 9 24 21 s Try.underlying9 Try.underlying24 Try.underlying21 (by omega)
  obtain ⟨rl, hrl⟩ : ∃ rl, rl = (runesOf s).length := ⟨_, rfl⟩
  have hrl50 : rl ≤ 50 := by have := runesOf_len s; omega
  simp only [← hrl] at hcv hG
  obtain ⟨W1, hW1⟩ : ∃ W1, W1 = ((((w.alloc (.cells #[.int .i64 kind, .int .i64 n, .string s] 32))).alloc (.cells (C (w.alloc (.cells #[.int .i64 kind, .int .i64 n, .string s] 32))) 21)).drew) := ⟨_, rfl⟩
  have hw1 : Below w.heap.size w W1 := by rw [hW1]; exact (((Below.refl _ _).alloc (Nat.le_refl _) _).alloc (by simp) _).drew
  have ob0 : W1.heap[w.heap.size]? = some (.cells #[.int .i64 kind, .int .i64 n, .string s] 32 (0, 0)) := by rw [hW1]; show ((w.heap.push _).push _)[w.heap.size]? = _; rw [Array.getElem?_push_lt (by simp)]; simp
  have rb0 : W1.heap[w.heap.size + 1]? = some (.cells (C (w.alloc (.cells #[.int .i64 kind, .int .i64 n, .string s] 32))) 21 (0, 0)) := by
    rw [hW1]
    show ((w.heap.push _).push _)[w.heap.size + 1]? = _
    rw [show w.heap.size + 1 = (w.heap.push (.cells #[.int .i64 kind, .int .i64 n, .string s] 32)).size by simp, Array.getElem?_push_size]
  have hrow : RRow W1 (.slice (some ⟨w.heap.size + 1, 0, none⟩) rl (G (w.alloc (.cells #[.int .i64 kind, .int .i64 n, .string s] 32)))) (runesOf s) := by
    refine ⟨_, _, by rw [hrl], by rw [← hrl]; exact (hG _).1, (hG _).2.1, Or.inr ⟨_, 0, rfl, (Array.getElem?_eq_some_iff.1 rb0).1, fun i x hi j hj => ?_⟩⟩
    obtain rfl : j = 0 := by omega
    rw [cells_block rb0, Nat.zero_add, Nat.mul_one, Nat.add_zero]
    exact hC _ i x hi
  have hfr := find_row ao (some ⟨w.heap.size + 1, 0, none⟩) ac (G (w.alloc (.cells #[.int .i64 kind, .int .i64 n, .string s] 32))) l (runesOf s) _ W1 (H.items.stay (Stay.below hw1)) (by rw [← hrl]; exact hrow) (by omega) (by omega) (fun x hx => by have := H.short x hx; omega)
  rw [his, ← hrl] at hfr
  obtain ⟨fi, hfi⟩ : ∃ fi, fi = findL (its l) (runesOf s) := ⟨_, rfl⟩
  rw [← hfi] at hfr
  have hfl : fi ≤ l.length := by rw [hfi]; have := findL_le (its l) (runesOf s); unfold its at this ⊢; simpa using this
  have hlc : l.length ≤ ac ∧ ac ≤ 9223372036854775807 := by
    obtain ⟨_, _, e, q, q2, _⟩ := H.items.row.row
    cases e
    unfold maxLen at q2
    omega
  have hD : (D (runesOf s)).isSome = true := by rw [← hasL_iff H.row, his]
  have hA : Alike W1 β t d N σ D (.slice ao l.length ac) l := ⟨H.says.below hw1, H.row, H.items.stay (Stay.below hw1), H.short⟩
  have huw : ∀ k, w.heap.size ≤ k → ¬ Uses σ k := fun k hk e => by have := (H.says.at_.heap.uses_lt e).2; omega
  have hz1 : W1.heap.size = w.heap.size + 2 := by rw [hW1]; simp
  have HFR := Lib.hid hfr
  have HROW := Lib.hid hrow
  have HW1 := Lib.hid hw1
  have HFI := Lib.hid hfi
  have HRL := Lib.hid hrl
  have HH := Lib.hid H
  have HIS := Lib.hid his
  have HD := Lib.hid hD
  have HA := Lib.hid hA
  have HUW := Lib.hid huw
  have HZ1 := Lib.hid hz1
  have OB0 := Lib.hid ob0
  have HWW := Lib.hid hW1
  obtain ⟨ln, hln⟩ : ∃ ln, ln = l.length := ⟨_, rfl⟩
  rw [← hln] at HFR HA HH hfl hlc hl ⊢
  have HLN := Lib.hid hln
  obtain ⟨hlc1, hlc2⟩ := hlc
  have m1 : kind % 4 = 3 := hkm
  have m2 : kind.tmod 4 = 3 := by rw [Int.tmod_eq_emod_of_nonneg hk0]; exact hkm
  clear hfr hrow hw1 hfi hrl H his hD hA hG hC hln hkm huw hz1 ob0 rb0 hW1
  go_enter Try.func8, Try.ntmps8
  go_wp2_with fail
  rw [← HWW.out]
  refine HFR.out.mono ?_
  rintro en w1 ⟨rfl, rfl⟩
  have c0 : W1.cell? ⟨w.heap.size, 0, none⟩ = some (.int .i64 kind) := cells_block OB0.out 0
  have c1 : W1.cell? ⟨w.heap.size, 1, none⟩ = some (.int .i64 n) := cells_block OB0.out 1
  have c2 : W1.cell? ⟨w.heap.size, 2, none⟩ = some (.string s) := cells_block OB0.out 2
  go_wp2_with fail
  obtain ⟨m, hDm⟩ := some_of HD.out
  obtain ⟨x, hx, hxe⟩ := its_at (at_find HA.out.row hDm)
  rw [← HFI.out] at hx
  have hxn : x.n = m := (Prod.mk.inj hxe).2.symm
  refine (get_lit (some m) t s D d β N ln σ W1 hDm (by rw [HLN.out]; exact HA.out.says) (by omega)).mono ?_
  rintro en w2 ⟨rfl, hb⟩
  have hit := HA.out.items.stay (Stay.below hb)
  obtain ⟨ib, ioff, rfl, hibl, d0, d1⟩ := item_at hit hx
  rw [hxn] at d1
  have hfl2 : fi < ln := by have := (List.getElem?_eq_some_iff.1 hx).1; have := HLN.out; omega
  have hfin : ∀ W, Below w2.heap.size w2 W → StepPost σ t d β N l w (.returned (.tuple #[.slice (some ⟨ib, ioff, none⟩) ln ac, .bool true])) W := fun W hW =>
    ⟨σ, D, _, l, rfl, ⟨((HA.out.says.below hb).below hW).more (by omega), HA.out.row, hit.stay (Stay.below hW), HA.out.short⟩, by omega, (Moves.below HW1.out).trans ((Moves.below hb).trans (Moves.below hW))⟩
  have HFIN := Lib.hid hfin
  have hw5 : (fi : Int) < (ln : Int) := by omega
  clear hfin hb hDm c0 c1 c2 d0 hit hx hxe hxn
  go_wp2_with fail
  go_quiet (fail)
  go_wp2_with fail
  go_ret2
  exact HFIN.out _ (below_drewN (Below.refl _ _) _)

set_option maxHeartbeats 8000000 in
set_option maxRecDepth 100000 in
theorem step_put_not (hkm : kind % 4 ≠ 2 ∧ kind % 4 ≠ 3) (his : hasL (its l) (runesOf s) = false)
    (H : Alike w β t d N σ D (.slice ao l.length ac) l) (hβ : β ≤ w.heap.size) (hN : N + 50 ≤ 99999) (hd : 50 ≤ d) (hl : l.length ≤ 1000) (hz : s.size ≤ 50) (hk0 : 0 ≤ kind) (hk1 : kind ≤ 9223372036854775807) :
    Calls Try.prog 8 #[enP t, .slice ao l.length ac, .agg #[.int .i64 kind, .int .i64 n, .string s]] w (StepPost σ t d β N l w) := by
  obtain ⟨G, C, hcv, hG, hC⟩ := runes_row (P := Try.prog) 9 24 21 s Try.underlying9 Try.underlying24 Try.underlying21 (by omega)
  obtain ⟨rl, hrl⟩ : ∃ rl, rl = (runesOf s).length := ⟨_, rfl⟩
  have hrl50 : rl ≤ 50 := by have := runesOf_len s; omega
  simp only [← hrl] at hcv hG
  obtain ⟨W1, hW1⟩ : ∃ W1, W1 = ((((w.alloc (.cells #[.int .i64 kind, .int .i64 n, .string s] 32))).alloc (.cells (C (w.alloc (.cells #[.int .i64 kind, .int .i64 n, .string s] 32))) 21)).drew) := ⟨_, rfl⟩
  have hw1 : Below w.heap.size w W1 := by rw [hW1]; exact (((Below.refl _ _).alloc (Nat.le_refl _) _).alloc (by simp) _).drew
  have ob0 : W1.heap[w.heap.size]? = some (.cells #[.int .i64 kind, .int .i64 n, .string s] 32 (0, 0)) := by rw [hW1]; show ((w.heap.push _).push _)[w.heap.size]? = _; rw [Array.getElem?_push_lt (by simp)]; simp
  have rb0 : W1.heap[w.heap.size + 1]? = some (.cells (C (w.alloc (.cells #[.int .i64 kind, .int .i64 n, .string s] 32))) 21 (0, 0)) := by
    rw [hW1]
    show ((w.heap.push _).push _)[w.heap.size + 1]? = _
    rw [show w.heap.size + 1 = (w.heap.push (.cells #[.int .i64 kind, .int .i64 n, .string s] 32)).size by simp, Array.getElem?_push_size]
  have hrow : RRow W1 (.slice (some ⟨w.heap.size + 1, 0, none⟩) rl (G (w.alloc (.cells #[.int .i64 kind, .int .i64 n, .string s] 32)))) (runesOf s) := by
    refine ⟨_, _, by rw [hrl], by rw [← hrl]; exact (hG _).1, (hG _).2.1, Or.inr ⟨_, 0, rfl, (Array.getElem?_eq_some_iff.1 rb0).1, fun i x hi j hj => ?_⟩⟩
    obtain rfl : j = 0 := by omega
    rw [cells_block rb0, Nat.zero_add, Nat.mul_one, Nat.add_zero]
    exact hC _ i x hi
  have hfr := find_row ao (some ⟨w.heap.size + 1, 0, none⟩) ac (G (w.alloc (.cells #[.int .i64 kind, .int .i64 n, .string s] 32))) l (runesOf s) _ W1 (H.items.stay (Stay.below hw1)) (by rw [← hrl]; exact hrow) (by omega) (by omega) (fun x hx => by have := H.short x hx; omega)
  rw [his, ← hrl] at hfr
  obtain ⟨fi, hfi⟩ : ∃ fi, fi = findL (its l) (runesOf s) := ⟨_, rfl⟩
  rw [← hfi] at hfr
  have hfl : fi ≤ l.length := by rw [hfi]; have := findL_le (its l) (runesOf s); unfold its at this ⊢; simpa using this
  have hlc : l.length ≤ ac ∧ ac ≤ 9223372036854775807 := by
    obtain ⟨_, _, e, q, q2, _⟩ := H.items.row.row
    cases e
    unfold maxLen at q2
    omega
  have hD : (D (runesOf s)).isSome = false := by rw [← hasL_iff H.row, his]
  have hA : Alike W1 β t d N σ D (.slice ao l.length ac) l := ⟨H.says.below hw1, H.row, H.items.stay (Stay.below hw1), H.short⟩
  have huw : ∀ k, w.heap.size ≤ k → ¬ Uses σ k := fun k hk e => by have := (H.says.at_.heap.uses_lt e).2; omega
  have hz1 : W1.heap.size = w.heap.size + 2 := by rw [hW1]; simp
  have HFR := Lib.hid hfr
  have HROW := Lib.hid hrow
  have HW1 := Lib.hid hw1
  have HFI := Lib.hid hfi
  have HRL := Lib.hid hrl
  have HH := Lib.hid H
  have HIS := Lib.hid his
  have HD := Lib.hid hD
  have HA := Lib.hid hA
  have HUW := Lib.hid huw
  have HZ1 := Lib.hid hz1
  have OB0 := Lib.hid ob0
  have HWW := Lib.hid hW1
  obtain ⟨ln, hln⟩ : ∃ ln, ln = l.length := ⟨_, rfl⟩
  rw [← hln] at HFR HA HH hfl hlc hl ⊢
  have HLN := Lib.hid hln
  obtain ⟨hlc1, hlc2⟩ := hlc
  obtain ⟨q, hq⟩ : ∃ q, q = kind % 4 := ⟨_, rfl⟩
  have m1 : kind % 4 = q := hq.symm
  have m2 : kind.tmod 4 = q := by rw [Int.tmod_eq_emod_of_nonneg hk0]; exact hq.symm
  have m3 : (q == 2) = false := by have h1 := hkm.1; rw [← hq] at h1; simpa using h1
  have m4 : (q == 3) = false := by have h1 := hkm.2; rw [← hq] at h1; simpa using h1
  clear hq
  clear hfr hrow hw1 hfi hrl H his hD hA hG hC hln hkm huw hz1 ob0 rb0 hW1
  go_enter Try.func8, Try.ntmps8
  go_wp2_with fail
  rw [← HWW.out]
  refine HFR.out.mono ?_
  rintro en w1 ⟨rfl, rfl⟩
  have c0 : W1.cell? ⟨w.heap.size, 0, none⟩ = some (.int .i64 kind) := cells_block OB0.out 0
  have c1 : W1.cell? ⟨w.heap.size, 1, none⟩ = some (.int .i64 n) := cells_block OB0.out 1
  have c2 : W1.cell? ⟨w.heap.size, 2, none⟩ = some (.string s) := cells_block OB0.out 2
  go_wp2_with fail
  have hDn := none_of HD.out
  refine (put_lit false t s n D d β N ln σ W1 HD.out (by rw [HLN.out]; exact HA.out.says) (by have := HW1.out.size; omega) (by omega) (by omega) (by omega)).mono ?_
  rintro en w2 ⟨τ, rfl, h1, m1⟩
  have hz2 := m1.size
  have ob2 := (m1.block w.heap.size (by have := HZ1.out; omega) (HUW.out _ (Nat.le_refl _))).trans OB0.out
  have d0 : w2.cell? ⟨w.heap.size, 0, none⟩ = some (.int .i64 kind) := cells_block ob2 0
  have d1 : w2.cell? ⟨w.heap.size, 1, none⟩ = some (.int .i64 n) := cells_block ob2 1
  have hit2 := HA.out.items.moves m1
  have hrow2 : At 1 enr (fun b => ¬ Uses τ b) w2 (.slice (some ⟨w.heap.size + 1, 0, none⟩) rl (G (w.alloc (.cells #[.int .i64 kind, .int .i64 n, .string s] 32)))) (runesOf s) := by
    have a1 : At 1 enr (fun b => ¬ Uses σ b ∧ ¬ Uses τ b) W1 (.slice (some ⟨w.heap.size + 1, 0, none⟩) rl (G (w.alloc (.cells #[.int .i64 kind, .int .i64 n, .string s] 32)))) (runesOf s) := ⟨HROW.out, fun b hb => by
      have hb : w.heap.size + 1 = b := by simpa [Value.ownBlock] using hb
      subst hb
      refine Or.inr ⟨HUW.out _ (by omega), fun e => ?_⟩
      rcases m1.uses _ e with e | e
      · exact HUW.out _ (by omega) e
      · have := HZ1.out; omega⟩
    exact (a1.stay ⟨m1.size, fun b hb ho => m1.block b hb ho.1⟩).mono fun b _ h => h.2
  obtain ⟨x, hxd⟩ : ∃ x : RI, x = ⟨.slice (some ⟨w.heap.size + 1, 0, none⟩) rl (G (w.alloc (.cells #[.int .i64 kind, .int .i64 n, .string s] 32))), runesOf s, n⟩ := ⟨_, rfl⟩
  have hwith := with_any ao ac fi l x (fun b => ¬ Uses τ b) w2 (by rw [← HLN.out]; exact hit2) (by rw [hxd]; exact hrow2) (by have := HLN.out; omega) (by have := HLN.out; omega)
  have hfin : ∀ e w3, RowPost (fun b => ¬ Uses τ b) (l.take fi ++ x :: l.drop fi) w2 e w3 → ∃ v, e = .returned v ∧ StepPost σ t d β N l w (.returned (.tuple #[v, .bool true])) w3 := fun e w3 ⟨v, he, k1, k2⟩ => by
    have hu3 : ∀ b, w2.heap.size ≤ b → ¬ Uses τ b := fun b hb e => by have := (h1.at_.heap.uses_lt e).2; omega
    refine ⟨v, he, τ, ins D (runesOf s) n, v, _, rfl, ⟨?_, ?_, k1.mono fun b _ hb => hb.elim id (hu3 b), ?_⟩, ?_, (Moves.below HW1.out).trans (m1.trans (Moves.below k2))⟩
    · have e1 : ((l.take fi ++ x :: l.drop fi).length : Int) = ln + 1 := by rw [List.length_append, List.length_cons, List.length_take, List.length_drop]; have := HLN.out; omega
      rw [e1]
      exact (h1.below k2).more (by have := HRL.out; omega)
    · have := row_ins_new HA.out.row hDn n
      rw [← HFI.out] at this
      rw [show its (l.take fi ++ x :: l.drop fi) = (its l).take fi ++ (runesOf s, n) :: (its l).drop fi by unfold its; rw [List.map_append, List.map_cons, List.map_take, List.map_drop, hxd]]
      exact this
    · intro y hy
      rcases List.mem_append.1 hy with hy | hy
      · exact HA.out.short y (List.mem_of_mem_take hy)
      · rcases List.mem_cons.1 hy with rfl | hy
        · rw [hxd]; show (runesOf s).length ≤ 50; have := HRL.out; omega
        · exact HA.out.short y (List.mem_of_mem_drop hy)
    · rw [List.length_append, List.length_cons, List.length_take, List.length_drop]; omega
  have HFIN := Lib.hid hfin
  rw [← HLN.out, hxd] at hwith
  have HWITH := Lib.hid hwith
  rw [hxd] at HFIN
  clear hfin h1 m1 hDn c0 c1 c2 hit2 hrow2 hwith hxd ob2
  go_wp2_with fail
  refine HWITH.out.mono ?_
  intro e w3 hp
  obtain ⟨v, rfl, hp2⟩ := HFIN.out e w3 hp
  have HP2 := Lib.hid hp2
  clear hp hp2
  go_wp2_with fail
  go_ret2
  exact HP2.out

set_option maxHeartbeats 8000000 in
set_option maxRecDepth 100000 in
theorem step_drop_is (hkm : kind % 4 = 2) (his : hasL (its l) (runesOf s) = true)
    (H : Alike w β t d N σ D (.slice ao l.length ac) l) (hβ : β ≤ w.heap.size) (hN : N + 50 ≤ 99999) (hd : 50 ≤ d) (hl : l.length ≤ 1000) (hz : s.size ≤ 50) (hk0 : 0 ≤ kind) (hk1 : kind ≤ 9223372036854775807) :
    Calls Try.prog 8 #[enP t, .slice ao l.length ac, .agg #[.int .i64 kind, .int .i64 n, .string s]] w (StepPost σ t d β N l w) := by
  obtain ⟨G, C, hcv, hG, hC⟩ := runes_row (P := Try.prog) 9 24 21 s Try.underlying9 Try.underlying24 Try.underlying21 (by omega)
  obtain ⟨rl, hrl⟩ : ∃ rl, rl = (runesOf s).length := ⟨_, rfl⟩
  have hrl50 : rl ≤ 50 := by have := runesOf_len s; omega
  simp only [← hrl] at hcv hG
  obtain ⟨W1, hW1⟩ : ∃ W1, W1 = ((((w.alloc (.cells #[.int .i64 kind, .int .i64 n, .string s] 32))).alloc (.cells (C (w.alloc (.cells #[.int .i64 kind, .int .i64 n, .string s] 32))) 21)).drew) := ⟨_, rfl⟩
  have hw1 : Below w.heap.size w W1 := by rw [hW1]; exact (((Below.refl _ _).alloc (Nat.le_refl _) _).alloc (by simp) _).drew
  have ob0 : W1.heap[w.heap.size]? = some (.cells #[.int .i64 kind, .int .i64 n, .string s] 32 (0, 0)) := by rw [hW1]; show ((w.heap.push _).push _)[w.heap.size]? = _; rw [Array.getElem?_push_lt (by simp)]; simp
  have rb0 : W1.heap[w.heap.size + 1]? = some (.cells (C (w.alloc (.cells #[.int .i64 kind, .int .i64 n, .string s] 32))) 21 (0, 0)) := by
    rw [hW1]
    show ((w.heap.push _).push _)[w.heap.size + 1]? = _
    rw [show w.heap.size + 1 = (w.heap.push (.cells #[.int .i64 kind, .int .i64 n, .string s] 32)).size by simp, Array.getElem?_push_size]
  have hrow : RRow W1 (.slice (some ⟨w.heap.size + 1, 0, none⟩) rl (G (w.alloc (.cells #[.int .i64 kind, .int .i64 n, .string s] 32)))) (runesOf s) := by
    refine ⟨_, _, by rw [hrl], by rw [← hrl]; exact (hG _).1, (hG _).2.1, Or.inr ⟨_, 0, rfl, (Array.getElem?_eq_some_iff.1 rb0).1, fun i x hi j hj => ?_⟩⟩
    obtain rfl : j = 0 := by omega
    rw [cells_block rb0, Nat.zero_add, Nat.mul_one, Nat.add_zero]
    exact hC _ i x hi
  have hfr := find_row ao (some ⟨w.heap.size + 1, 0, none⟩) ac (G (w.alloc (.cells #[.int .i64 kind, .int .i64 n, .string s] 32))) l (runesOf s) _ W1 (H.items.stay (Stay.below hw1)) (by rw [← hrl]; exact hrow) (by omega) (by omega) (fun x hx => by have := H.short x hx; omega)
  rw [his, ← hrl] at hfr
  obtain ⟨fi, hfi⟩ : ∃ fi, fi = findL (its l) (runesOf s) := ⟨_, rfl⟩
  rw [← hfi] at hfr
  have hfl : fi ≤ l.length := by rw [hfi]; have := findL_le (its l) (runesOf s); unfold its at this ⊢; simpa using this
  have hlc : l.length ≤ ac ∧ ac ≤ 9223372036854775807 := by
    obtain ⟨_, _, e, q, q2, _⟩ := H.items.row.row
    cases e
    unfold maxLen at q2
    omega
  have hD : (D (runesOf s)).isSome = true := by rw [← hasL_iff H.row, his]
  have hA : Alike W1 β t d N σ D (.slice ao l.length ac) l := ⟨H.says.below hw1, H.row, H.items.stay (Stay.below hw1), H.short⟩
  have huw : ∀ k, w.heap.size ≤ k → ¬ Uses σ k := fun k hk e => by have := (H.says.at_.heap.uses_lt e).2; omega
  have hz1 : W1.heap.size = w.heap.size + 2 := by rw [hW1]; simp
  have HFR := Lib.hid hfr
  have HROW := Lib.hid hrow
  have HW1 := Lib.hid hw1
  have HFI := Lib.hid hfi
  have HRL := Lib.hid hrl
  have HH := Lib.hid H
  have HIS := Lib.hid his
  have HD := Lib.hid hD
  have HA := Lib.hid hA
  have HUW := Lib.hid huw
  have HZ1 := Lib.hid hz1
  have OB0 := Lib.hid ob0
  have HWW := Lib.hid hW1
  obtain ⟨ln, hln⟩ : ∃ ln, ln = l.length := ⟨_, rfl⟩
  rw [← hln] at HFR HA HH hfl hlc hl ⊢
  have HLN := Lib.hid hln
  obtain ⟨hlc1, hlc2⟩ := hlc
  have m1 : kind % 4 = 2 := hkm
  have m2 : kind.tmod 4 = 2 := by rw [Int.tmod_eq_emod_of_nonneg hk0]; exact hkm
  clear hfr hrow hw1 hfi hrl H his hD hA hG hC hln hkm huw hz1 ob0 rb0 hW1
  go_enter Try.func8, Try.ntmps8
  go_wp2_with fail
  rw [← HWW.out]
  refine HFR.out.mono ?_
  rintro en w1 ⟨rfl, rfl⟩
  have c0 : W1.cell? ⟨w.heap.size, 0, none⟩ = some (.int .i64 kind) := cells_block OB0.out 0
  have c1 : W1.cell? ⟨w.heap.size, 1, none⟩ = some (.int .i64 n) := cells_block OB0.out 1
  have c2 : W1.cell? ⟨w.heap.size, 2, none⟩ = some (.string s) := cells_block OB0.out 2
  go_wp2_with fail
  obtain ⟨i0, hi0, hz0', hz1', hz2'⟩ := info_parts info_it
  obtain ⟨m0, hDm⟩ := some_of HD.out
  obtain ⟨x, hx, hxe⟩ := its_at (at_find HA.out.row hDm)
  rw [← HFI.out] at hx
  have hfl2 : fi < ln := by have := (List.getElem?_eq_some_iff.1 hx).1; have := HLN.out; omega
  refine (drop_lit true t s D d β N ln σ W1 HD.out (by rw [HLN.out]; exact HA.out.says) (by omega) (by omega) (by omega)).mono ?_
  rintro en w2 ⟨τ, rfl, h1, m1⟩
  have hit2 := HA.out.items.moves m1
  obtain ⟨ib, ioff, rfl, hibl, _, _⟩ := item_at hit2 hx
  obtain ⟨A1, hA1⟩ : ∃ A1, A1 = (l.take fi).flatMap RI.en := ⟨_, rfl⟩
  obtain ⟨A2, hA2⟩ : ∃ A2, A2 = (l.drop (fi + 1)).flatMap RI.en := ⟨_, rfl⟩
  have hO1 := flat_one hit2 (l.take fi) fun y hy => List.mem_of_mem_take hy
  have hO2 := flat_one hit2 (l.drop (fi + 1)) fun y hy => List.mem_of_mem_drop hy
  have hTF : A1.length = fi * 2 := by rw [hA1, flat_len, List.length_take]; have := HLN.out; omega
  have hDF : A2.length = (ln - (fi + 1)) * 2 := by rw [hA2, flat_len, List.length_drop, HLN.out]
  rw [← hA1] at hO1
  rw [← hA2] at hO2
  have s1 : ∀ W : World, Below w2.heap.size w2 W → fi = 0 ∨ ∃ ad, some (⟨ib, ioff, none⟩ : Addr) = some ad ∧ ∀ j u, A1[j]? = some u → W.cell? (ad.add j) = some u := fun W hW => Or.inr ⟨_, rfl, by rw [hA1]; exact src_take hit2 fi W hW⟩
  have s2 : ∀ (W : World) (A : Option Addr) (m : Nat), m = ln - (fi + 1) → Below w2.heap.size w2 W → (fi + 1 < ln → A = some ⟨ib, ioff + (fi + 1) * 2, none⟩) → m = 0 ∨ ∃ ad, A = some ad ∧ ∀ j u, A2[j]? = some u → W.cell? (ad.add j) = some u := fun W A m hm hW hA => by
    by_cases h0 : fi + 1 < ln
    · exact Or.inr ⟨_, hA h0, by rw [hA2]; exact src_drop hit2 (fi + 1) W hW⟩
    · exact Or.inl (by omega)
  have hnew0 : ((w2.alloc (.cells #[] 41)).drew).ownsRow w2.heap.size 41 2 (.slice (some ⟨w2.heap.size, 0, none⟩) 0 0) 0 [] := own_mk (spare := []) (Nat.le_refl _) (by
      show (w2.heap.push _)[w2.heap.size]? = _
      rw [Array.getElem?_push_size]; rfl) (Nat.le_refl _) (by decide) (by simp) (by simp)
  have hbel0 : Below w2.heap.size w2 ((w2.alloc (.cells #[] 41)).drew) := ((Below.refl _ _).alloc (Nat.le_refl _) _).drew
  have hfin : ∀ (v3 : Value) (w3 : World) (v4 : Value) (w4 : World) (m : Nat), m = ln - (fi + 1) → w3.ownsRow w2.heap.size 41 2 v3 (0 + fi) ([] ++ A1) → ((w2.alloc (.cells #[] 41)).drew).grownBy w3 (Value.ownBlock (.slice (some ⟨w2.heap.size, 0, none⟩) 0 0)) → w4.ownsRow w2.heap.size 41 2 v4 (0 + fi + m) ([] ++ A1 ++ A2) → w3.grownBy w4 v3.ownBlock →
      StepPost σ t d β N l w (.returned (.tuple #[v4, .bool true])) w4 := fun v3 w3 v4 w4 m hm ho3 hg3 ho4 hg4 => by
    have hB3 : Below w2.heap.size w2 w3 := hbel0.trans ⟨hg3.os, hg3.tape, hg3.output, hg3.size, fun k hk => hg3.block k (by simp; omega) (by simp [Value.ownBlock]; omega)⟩
    have hB4 : Below w2.heap.size w2 w4 := hB3.trans ⟨hg4.os, hg4.tape, hg4.output, hg4.size, fun k hk => hg4.block k (by have := hB3.size; omega) (fun e => by have := (ho3.lt k e.symm).1; omega)⟩
    have e1 : (l.take fi ++ l.drop (fi + 1)).length = fi + m := by rw [List.length_append, List.length_take, List.length_drop]; have := HLN.out; omega
    have e2 : (l.take fi ++ l.drop (fi + 1)).flatMap RI.en = A1 ++ A2 := by rw [List.flatMap_append, hA1, hA2]
    have hmem : ∀ y ∈ l.take fi ++ l.drop (fi + 1), y ∈ l := fun y hy => (List.mem_append.1 hy).elim List.mem_of_mem_take List.mem_of_mem_drop
    have ho5 : w4.ownsRow w2.heap.size 41 2 v4 (l.take fi ++ l.drop (fi + 1)).length ((l.take fi ++ l.drop (fi + 1)).flatMap RI.en) := by rw [e1, e2]; simpa using ho4
    have hu3 : ∀ b, w2.heap.size ≤ b → ¬ Uses τ b := fun b hb e => by have := (h1.at_.heap.uses_lt e).2; omega
    refine ⟨τ, del D (runesOf s), v4, _, rfl, ⟨?_, ?_, (items_made hB4 ho5 fun y hy => hit2.each y (hmem y hy)).mono fun b _ hb => hb.elim id (hu3 b), fun y hy => HA.out.short y (hmem y hy)⟩, by rw [e1]; have := HLN.out; omega, (Moves.below HW1.out).trans (m1.trans (Moves.below hB4))⟩
    · have e3 : ((l.take fi ++ l.drop (fi + 1)).length : Int) = (ln : Int) - 1 := by rw [e1]; omega
      rw [e3]
      exact (h1.below hB4).more (by omega)
    · have := row_del HA.out.row hDm
      rw [← HFI.out] at this
      rw [show its (l.take fi ++ l.drop (fi + 1)) = (its l).take fi ++ (its l).drop (fi + 1) by unfold its; rw [List.map_append, List.map_take, List.map_drop]]
      exact this
  have HFIN := Lib.hid hfin
  have S1 := Lib.hid s1
  have S2 := Lib.hid s2
  have TF := Lib.hid hTF
  have DF := Lib.hid hDF
  have O1 := Lib.hid hO1
  have O2 := Lib.hid hO2
  have NEW0 := Lib.hid hnew0
  have BEL0 := Lib.hid hbel0
  have a1 : IntKind.i64.wrap ((fi : Int) + 1) = (fi : Int) + 1 := IntWalk.i64_in _ (by omega)
  have a2 : (0 : Int) ≤ (fi : Int) + 1 := by omega
  have a3 : ((fi : Int) + 1).toNat = fi + 1 := by omega
  have a4 : (fi : Int) ≤ (ln : Int) := by omega
  have a5 : (fi : Int) + 1 ≤ (ln : Int) := by omega
  have a6 : (fi : Int) ≤ (ac : Int) := by omega
  have a7 : (fi : Int) ≤ (fi : Int) + 1 := by omega
  clear hfin s1 s2 hTF hDF hO1 hO2 hnew0 hbel0 hA1 hA2 h1 m1 hit2 hx hxe hDm c0 c1 c2
  by_cases hci : ac = fi + 1
  · obtain rfl : ln = fi + 1 := by omega
    subst hci
    go_wp2_with fail
    go_region_law (first
      | (refine step_append_any rfl (.tmp 37) (.tmp 40) 30 rfl w2.heap.size 41 i0 (.agg #[.slice none 0 0, .int .i64 0]) 2 32 Try.underlying30 hi0 hz0' hz1' hz2' rfl (by decide) (.slice (some ⟨w2.heap.size, 0, none⟩) 0 0) 0 [] (by simp [Act.eval, Act.put]) (NEW0.out) (some ⟨ib, ioff, none⟩) fi (fi + 1) A1 (by simp [Act.eval, Act.put]) TF.out (S1.out _ BEL0.out) O1.out (by unfold maxLen; omega) (by omega) (by simp) ?_; intro v3 w3 ho3 hg3 hat3; have HO3 := Lib.hid ho3; have HG3 := Lib.hid hg3; clear ho3 hg3 hat3)
      | (refine step_append_any rfl (.tmp 41) (.tmp 45) 30 rfl w2.heap.size 41 i0 (.agg #[.slice none 0 0, .int .i64 0]) 2 32 Try.underlying30 hi0 hz0' hz1' hz2' rfl (by decide) v3 (0 + fi) ([] ++ A1) (by simp [Act.eval, Act.put]) HO3.out (some ⟨ib, ioff, none⟩) 0 0 A2 (by simp [Act.eval, Act.put]) (by have := DF.out; omega) (S2.out _ _ _ (by omega) (BEL0.out.trans (grown_below2 HG3.out)) (fun h => absurd h (Nat.lt_irrefl _))) O2.out (by unfold maxLen; omega) (by omega) (by have := HG3.out.size; simp at this; omega) ?_; intro v4 w4 ho4 hg4 hat4; have HO4 := Lib.hid ho4; have HG4 := Lib.hid hg4; clear ho4 hg4 hat4))
    go_wp2_with fail
    go_ret2
    exact HFIN.out v3 w3 v4 w4 0 (by omega) HO3.out HG3.out HO4.out HG4.out
  · have b1 : ¬ (ac = fi + 1) := hci
    go_wp2_with fail
    go_region_law (first
      | (refine step_append_any rfl (.tmp 37) (.tmp 40) 30 rfl w2.heap.size 41 i0 (.agg #[.slice none 0 0, .int .i64 0]) 2 32 Try.underlying30 hi0 hz0' hz1' hz2' rfl (by decide) (.slice (some ⟨w2.heap.size, 0, none⟩) 0 0) 0 [] (by simp [Act.eval, Act.put]) (NEW0.out) (some ⟨ib, ioff, none⟩) fi ac A1 (by simp [Act.eval, Act.put]) TF.out (S1.out _ BEL0.out) O1.out (by unfold maxLen; omega) (by omega) (by simp) ?_; intro v3 w3 ho3 hg3 hat3; have HO3 := Lib.hid ho3; have HG3 := Lib.hid hg3; clear ho3 hg3 hat3)
      | (refine step_append_any rfl (.tmp 41) (.tmp 45) 30 rfl w2.heap.size 41 i0 (.agg #[.slice none 0 0, .int .i64 0]) 2 32 Try.underlying30 hi0 hz0' hz1' hz2' rfl (by decide) v3 (0 + fi) ([] ++ A1) (by simp [Act.eval, Act.put]) HO3.out (some ⟨ib, ioff + (fi + 1) * 2, none⟩) (ln - (fi + 1)) (ac - (fi + 1)) A2 (by simp [Act.eval, Act.put]) (by have := DF.out; omega) (S2.out _ _ _ rfl (BEL0.out.trans (grown_below2 HG3.out)) (fun _ => rfl)) O2.out (by unfold maxLen; omega) (by omega) (by have := HG3.out.size; simp at this; omega) ?_; intro v4 w4 ho4 hg4 hat4; have HO4 := Lib.hid ho4; have HG4 := Lib.hid hg4; clear ho4 hg4 hat4))
    go_wp2_with fail
    go_ret2
    exact HFIN.out v3 w3 v4 w4 (ln - (fi + 1)) (by omega) HO3.out HG3.out HO4.out HG4.out

set_option maxHeartbeats 8000000 in
set_option maxRecDepth 100000 in
theorem step_put_is (hkm : kind % 4 ≠ 2 ∧ kind % 4 ≠ 3) (his : hasL (its l) (runesOf s) = true)
    (H : Alike w β t d N σ D (.slice ao l.length ac) l) (hβ : β ≤ w.heap.size) (hN : N + 50 ≤ 99999) (hd : 50 ≤ d) (hl : l.length ≤ 1000) (hz : s.size ≤ 50) (hk0 : 0 ≤ kind) (hk1 : kind ≤ 9223372036854775807) :
    Calls Try.prog 8 #[enP t, .slice ao l.length ac, .agg #[.int .i64 kind, .int .i64 n, .string s]] w (StepPost σ t d β N l w) := by
  obtain ⟨G, C, hcv, hG, hC⟩ := runes_row (P := Try.prog) 9 24 21 s Try.underlying9 Try.underlying24 Try.underlying21 (by omega)
  obtain ⟨rl, hrl⟩ : ∃ rl, rl = (runesOf s).length := ⟨_, rfl⟩
  have hrl50 : rl ≤ 50 := by have := runesOf_len s; omega
  simp only [← hrl] at hcv hG
  obtain ⟨W1, hW1⟩ : ∃ W1, W1 = ((((w.alloc (.cells #[.int .i64 kind, .int .i64 n, .string s] 32))).alloc (.cells (C (w.alloc (.cells #[.int .i64 kind, .int .i64 n, .string s] 32))) 21)).drew) := ⟨_, rfl⟩
  have hw1 : Below w.heap.size w W1 := by rw [hW1]; exact (((Below.refl _ _).alloc (Nat.le_refl _) _).alloc (by simp) _).drew
  have ob0 : W1.heap[w.heap.size]? = some (.cells #[.int .i64 kind, .int .i64 n, .string s] 32 (0, 0)) := by rw [hW1]; show ((w.heap.push _).push _)[w.heap.size]? = _; rw [Array.getElem?_push_lt (by simp)]; simp
  have rb0 : W1.heap[w.heap.size + 1]? = some (.cells (C (w.alloc (.cells #[.int .i64 kind, .int .i64 n, .string s] 32))) 21 (0, 0)) := by
    rw [hW1]
    show ((w.heap.push _).push _)[w.heap.size + 1]? = _
    rw [show w.heap.size + 1 = (w.heap.push (.cells #[.int .i64 kind, .int .i64 n, .string s] 32)).size by simp, Array.getElem?_push_size]
  have hrow : RRow W1 (.slice (some ⟨w.heap.size + 1, 0, none⟩) rl (G (w.alloc (.cells #[.int .i64 kind, .int .i64 n, .string s] 32)))) (runesOf s) := by
    refine ⟨_, _, by rw [hrl], by rw [← hrl]; exact (hG _).1, (hG _).2.1, Or.inr ⟨_, 0, rfl, (Array.getElem?_eq_some_iff.1 rb0).1, fun i x hi j hj => ?_⟩⟩
    obtain rfl : j = 0 := by omega
    rw [cells_block rb0, Nat.zero_add, Nat.mul_one, Nat.add_zero]
    exact hC _ i x hi
  have hfr := find_row ao (some ⟨w.heap.size + 1, 0, none⟩) ac (G (w.alloc (.cells #[.int .i64 kind, .int .i64 n, .string s] 32))) l (runesOf s) _ W1 (H.items.stay (Stay.below hw1)) (by rw [← hrl]; exact hrow) (by omega) (by omega) (fun x hx => by have := H.short x hx; omega)
  rw [his, ← hrl] at hfr
  obtain ⟨fi, hfi⟩ : ∃ fi, fi = findL (its l) (runesOf s) := ⟨_, rfl⟩
  rw [← hfi] at hfr
  have hfl : fi ≤ l.length := by rw [hfi]; have := findL_le (its l) (runesOf s); unfold its at this ⊢; simpa using this
  have hlc : l.length ≤ ac ∧ ac ≤ 9223372036854775807 := by
    obtain ⟨_, _, e, q, q2, _⟩ := H.items.row.row
    cases e
    unfold maxLen at q2
    omega
  have hD : (D (runesOf s)).isSome = true := by rw [← hasL_iff H.row, his]
  have hA : Alike W1 β t d N σ D (.slice ao l.length ac) l := ⟨H.says.below hw1, H.row, H.items.stay (Stay.below hw1), H.short⟩
  have huw : ∀ k, w.heap.size ≤ k → ¬ Uses σ k := fun k hk e => by have := (H.says.at_.heap.uses_lt e).2; omega
  have hz1 : W1.heap.size = w.heap.size + 2 := by rw [hW1]; simp
  have HFR := Lib.hid hfr
  have HROW := Lib.hid hrow
  have HW1 := Lib.hid hw1
  have HFI := Lib.hid hfi
  have HRL := Lib.hid hrl
  have HH := Lib.hid H
  have HIS := Lib.hid his
  have HD := Lib.hid hD
  have HA := Lib.hid hA
  have HUW := Lib.hid huw
  have HZ1 := Lib.hid hz1
  have OB0 := Lib.hid ob0
  have HWW := Lib.hid hW1
  obtain ⟨ln, hln⟩ : ∃ ln, ln = l.length := ⟨_, rfl⟩
  rw [← hln] at HFR HA HH hfl hlc hl ⊢
  have HLN := Lib.hid hln
  obtain ⟨hlc1, hlc2⟩ := hlc
  obtain ⟨q, hq⟩ : ∃ q, q = kind % 4 := ⟨_, rfl⟩
  have m1 : kind % 4 = q := hq.symm
  have m2 : kind.tmod 4 = q := by rw [Int.tmod_eq_emod_of_nonneg hk0]; exact hq.symm
  have m3 : (q == 2) = false := by have h1 := hkm.1; rw [← hq] at h1; simpa using h1
  have m4 : (q == 3) = false := by have h1 := hkm.2; rw [← hq] at h1; simpa using h1
  clear hq
  clear hfr hrow hw1 hfi hrl H his hD hA hG hC hln hkm huw hz1 ob0 rb0 hW1
  go_enter Try.func8, Try.ntmps8
  go_wp2_with fail
  rw [← HWW.out]
  refine HFR.out.mono ?_
  rintro en w1 ⟨rfl, rfl⟩
  have c0 : W1.cell? ⟨w.heap.size, 0, none⟩ = some (.int .i64 kind) := cells_block OB0.out 0
  have c1 : W1.cell? ⟨w.heap.size, 1, none⟩ = some (.int .i64 n) := cells_block OB0.out 1
  have c2 : W1.cell? ⟨w.heap.size, 2, none⟩ = some (.string s) := cells_block OB0.out 2
  go_wp2_with fail
  obtain ⟨i0, hi0, hz0', hz1', hz2'⟩ := info_parts info_it
  obtain ⟨m0, hDm⟩ := some_of HD.out
  obtain ⟨x, hx, hxe⟩ := its_at (at_find HA.out.row hDm)
  rw [← HFI.out] at hx
  have hxs : x.s = runesOf s := (Prod.mk.inj hxe).1.symm
  have hfl2 : fi < ln := by have := (List.getElem?_eq_some_iff.1 hx).1; have := HLN.out; omega
  refine (put_lit true t s n D d β N ln σ W1 HD.out (by rw [HLN.out]; exact HA.out.says) (by have := HW1.out.size; omega) (by omega) (by omega) (by omega)).mono ?_
  rintro en w2 ⟨τ, rfl, h1, m1⟩
  have hz2 := m1.size
  have ob2 := (m1.block w.heap.size (by have := HZ1.out; omega) (HUW.out _ (Nat.le_refl _))).trans OB0.out
  have hit2 := HA.out.items.moves m1
  obtain ⟨ib, ioff, rfl, hibl, _, _⟩ := item_at hit2 hx
  obtain ⟨A, hAe⟩ : ∃ A, A = l.flatMap RI.en := ⟨_, rfl⟩
  have hO := flat_one hit2 l fun y hy => hy
  have hAl : A.length = ln * 2 := by rw [hAe, flat_len, HLN.out]
  rw [← hAe] at hO
  have s1 : ∀ W : World, Below w2.heap.size w2 W → ∀ j u, A[j]? = some u → W.cell? ((⟨ib, ioff, none⟩ : Addr).add j) = some u := fun W hW j u hj => by
    exact src_take hit2 l.length W hW j u (by rw [List.take_length, ← hAe]; exact hj)
  have hnew0 : (w2.alloc (.cells #[] 41)).ownsRow w2.heap.size 41 2 (.slice (some ⟨w2.heap.size, 0, none⟩) 0 0) 0 [] := own_mk (spare := []) (Nat.le_refl _) (by
      show (w2.heap.push _)[w2.heap.size]? = _
      rw [Array.getElem?_push_size]; rfl) (Nat.le_refl _) (by decide) (by simp) (by simp)
  have hbel0 : Below w2.heap.size w2 (w2.alloc (.cells #[] 41)) := (Below.refl _ _).alloc (Nat.le_refl _) _
  have hfin : ∀ (g cap : Nat) (w3 : World), w3.ownsRow w2.heap.size 41 2 (.slice (some ⟨g, 0, none⟩) (0 + ln) cap) (0 + ln) ([] ++ A) → (w2.alloc (.cells #[] 41)).grownBy w3 (Value.ownBlock (.slice (some ⟨w2.heap.size, 0, none⟩) 0 0)) →
      StepPost σ t d β N l w (.returned (.tuple #[.slice (some ⟨g, 0, none⟩) ln cap, .bool true])) (w3.setCell ⟨g, fi * 2 + 1, none⟩ (.int .i64 n)) := fun g cap w3 ho3 hg3 => by
    rw [Nat.zero_add, List.nil_append] at ho3
    have hgl := (ho3.lt g rfl).1
    have hB3 : Below w2.heap.size w2 w3 := hbel0.trans ⟨hg3.os, hg3.tape, hg3.output, hg3.size, fun k hk => hg3.block k (by simp; omega) (by simp [Value.ownBlock]; omega)⟩
    have hB4 : Below w2.heap.size w2 (w3.setCell ⟨g, fi * 2 + 1, none⟩ (.int .i64 n)) := hB3.setCell hgl _
    have ho4 := (ho3.stored (fi * 2 + 1) (.int .i64 n)).1
    have e1 : (l.set fi { x with n := n }).length = ln := by rw [List.length_set, HLN.out]
    rw [hAe, flat_setn l fi x hx n] at ho4
    have hmem : ∀ y ∈ l.set fi { x with n := n }, At 1 enr (fun b => ¬ Uses τ b) w2 y.sv y.s ∧ y.s.length ≤ 50 := fun y hy => by
      rcases List.mem_or_eq_of_mem_set hy with h | h
      · exact ⟨hit2.each y h, HA.out.short y h⟩
      · rw [h]; exact ⟨hit2.each x (List.mem_of_getElem? hx), HA.out.short x (List.mem_of_getElem? hx)⟩
    have ho5 : (w3.setCell ⟨g, fi * 2 + 1, none⟩ (.int .i64 n)).ownsRow w2.heap.size 41 2 (.slice (some ⟨g, 0, none⟩) ln cap) (l.set fi { x with n := n }).length ((l.set fi { x with n := n }).flatMap RI.en) := by rw [e1]; exact ho4
    have hu3 : ∀ b, w2.heap.size ≤ b → ¬ Uses τ b := fun b hb e => by have := (h1.at_.heap.uses_lt e).2; omega
    refine ⟨τ, ins D (runesOf s) n, _, l.set fi { x with n := n }, rfl, ⟨?_, ?_, ?_, fun y hy => (hmem y hy).2⟩, by rw [List.length_set]; omega, (Moves.below HW1.out).trans (m1.trans (Moves.below hB4))⟩
    · rw [e1]
      exact (h1.below hB4).more (by have := HRL.out; omega)
    · have := row_set HA.out.row hDm n
      rw [← HFI.out] at this
      rw [show its (l.set fi { x with n := n }) = (its l).set fi (runesOf s, n) by unfold its; rw [List.map_set]; show _ = (l.map _).set fi (runesOf s, n); rw [← hxs]]
      exact this
    · have := items_made hB4 ho5 fun y hy => (hmem y hy).1
      rw [e1] at *
      exact this.mono fun b _ hb => hb.elim id (hu3 b)
  have hcell : A[fi * 2 + 1]? = some (.int .i64 x.n) := by rw [hAe, flatMap_get en_len l fi x hx 1 (by decide)]; rfl
  have hwlt : w.heap.size < w2.heap.size := by have := HZ1.out; omega
  have hafter : ∀ (v3 : Value) (w3 : World), w3.ownsRow w2.heap.size 41 2 v3 (0 + ln) ([] ++ A) → (w2.alloc (.cells #[] 41)).grownBy w3 (Value.ownBlock (.slice (some ⟨w2.heap.size, 0, none⟩) 0 0)) →
      ∃ g cap, v3 = .slice (some ⟨g, 0, none⟩) ln cap ∧ w3.cell? ⟨w.heap.size, 1, none⟩ = some (.int .i64 n) ∧ w3.cell? ⟨g, fi * 2 + 1, none⟩ = some (.int .i64 x.n) ∧ w3.frozen? ⟨g, fi * 2 + 1, none⟩ = false ∧ g < w3.heap.size ∧
        Hid (StepPost σ t d β N l w (.returned (.tuple #[.slice (some ⟨g, 0, none⟩) ln cap, .bool true])) (w3.setCell ⟨g, fi * 2 + 1, none⟩ (.int .i64 n))) := fun v3 w3 ho3 hg3 => by
    obtain ⟨g, cap, sp, rfl, hgl, hglt, _⟩ := own_whole ho3 (by omega)
    have hob3 := (hg3.block w.heap.size (by simp; omega) (by simp [Value.ownBlock]; omega)).trans ((Below.heap_alloc w2 _ w.heap.size hwlt).trans ob2)
    refine ⟨g, cap, by rw [Nat.zero_add], cells_block hob3 1, by rw [ho3.cellAt _ (by omega), List.nil_append]; exact hcell, ho3.frozenAt _, hglt, hfin g cap w3 ho3 hg3⟩
  have HAFTER := Lib.hid hafter
  have S1 := Lib.hid s1
  have AL := Lib.hid hAl
  have O := Lib.hid hO
  have NEW0 := Lib.hid hnew0
  have BEL0 := Lib.hid hbel0
  have d0 : w2.cell? ⟨w.heap.size, 0, none⟩ = some (.int .i64 kind) := cells_block ob2 0
  have a4 : (fi : Int) < (ln : Int) := by omega
  clear hafter hfin s1 hAl hO hnew0 hbel0 hAe h1 m1 hit2 hx hxe hxs hDm c0 c1 c2 hcell ob2 hwlt
  go_wp2_with (refine wpList_append_any _ rfl (.tmp 88) (.tmp 89) 30 rfl w2.heap.size 41 i0 (.agg #[.slice none 0 0, .int .i64 0]) 2 32 Try.underlying30 hi0 hz0' hz1' hz2' rfl (by decide) (.slice (some ⟨w2.heap.size, 0, none⟩) 0 0) 0 [] rfl NEW0.out (some ⟨ib, ioff, none⟩) ln ac A rfl AL.out (Or.inr ⟨_, rfl, S1.out _ BEL0.out⟩) O.out (by unfold maxLen; omega) (by omega) (by simp) ?_; intro v3 w3 ho3 hg3 hat3; obtain ⟨g, cap, rfl, d1, e1, e2, e3, E4⟩ := HAFTER.out v3 w3 ho3 hg3; clear ho3 hg3 hat3)
  go_ret2
  exact E4.out

end
end Go.Proofs.Ytehoanpjlinfaaa.Tri
