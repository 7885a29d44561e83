/- The walk of what goes through a vector (layer 5). -/
import Derived.Test.YtehcndjpckolmaaVecIter
namespace Go.Proofs.Ytehcndjpckolmaa.Vec
open Go.RowKit Go.Maps Go.Sort Go.Shelf Go.Proofs.Ytehcndjpckolmaa.Ints

attribute [local go_sem] Oper.semAt_some

/-- A write that a vector may know. -/
abbrev Q := {x : P // right x = true ∧ x.who ≤ 9223372036854775807}
theorem to_Q {l : List P} (hg : Good l) (hs : Sm l) : ∃ q : List Q, l = q.map Subtype.val :=
  ⟨l.attachWith (fun x => right x = true ∧ x.who ≤ 9223372036854775807) fun x hx => ⟨hg.2 x hx, hs x hx⟩, by rw [List.attachWith_map_subtype_val]⟩
theorem Q.bd (x : Q) : 0 ≤ x.1.who ∧ 1 ≤ x.1.n ∧ x.1.n ≤ 1099511627776 := (right_iff x.1).1 x.2.1

set_option maxRecDepth 100000 in
set_option maxHeartbeats 2000000 in
theorem dots1_in (n : Nat) (hn : 5 ≤ n) (lp base Bx b : Nat) (Bs : List Nat) (L : List P) (LQ : List Q) (hLQ : L = LQ.map Subtype.val) (hL : L.length ≤ 100000) (hg : Rises L) (hBx : Bx < base) (hb : b < base) (J Jx : List Q → World → Prop)
    (hY : ∀ pre (x : Q) W, J pre W → pre.length < L.length → YieldAt Fence.wide (n - 1) Try.prog lp #[.agg #[.int .i64 x.1.who, .int .i64 x.1.n]] W fun e W' =>
      (e = .returned (.bool true) ∧ J (pre ++ [x]) W' ∧ KV base Bs W W') ∨ (e = .returned (.bool false) ∧ Jx (pre ++ [x]) W'))
    (W : World) (hJab : AbidesFrom W.heap.size J) (hx : Boxed W Bx 85 (.map (some b))) (hv : VMap W b L)
    (hfree : ∀ i W', Below W.heap.size W W' → (i = Bx ∨ i = b ∨ W.heap.size ≤ i) → ¬ Mine Bs W' i) (hJ0 : J [] W) :
    CallsIn Fence.wide n Try.prog 100 #[.func (.yield lp) #[] #[], .pointer (some ⟨Bx, 0, none⟩)] W fun e W' => (∃ v, e = .returned v) ∧
      ((∃ ys, ys = LQ ∧ J ys W') ∨ (∃ pre, (∃ k, k ≤ L.length ∧ pre = LQ.take k) ∧ Jx pre W')) := by
  have hc := hx.cell
  have hlq : L.length = LQ.length := by rw [hLQ, List.length_map]
  have hn1 : 1 ≤ n := by omega
  have cK := fun W => keys_call (n - 1) b W
  have cS := sorted_call (n - 1) (by omega) b L hL hg W hv
  refine callsIn_of_wp Try.func100 rfl trivial ?_ rfl
  simp only [Try.ntmps100, List.size_toArray, List.length_cons, List.length_nil, Nat.reduceAdd, Nat.reduceSub, Array.replicate_succ, Array.replicate_zero, List.push_toArray, List.append_toArray, List.nil_append, List.cons_append]
  gi_wp2_with (first
    | (refine ⟨trivial, ?_⟩; gi_at_call 102; refine (cK _).mono ?_; rintro e w' ⟨rfl, rfl⟩)
    | (refine ⟨trivial, ?_⟩; gi_at_call 101; refine cS.mono ?_; rintro e W2 ⟨v, rfl, hrow, hb2⟩; obtain ⟨ao, cap, rfl⟩ := row_form hrow))
  have HD : Hid (Held Bs Bx b L (.slice ao L.length cap) W2) := Lib.hid ⟨⟨box_below hx hb2, hfree Bx W2 hb2 (Or.inl rfl)⟩, ⟨hv.below hb2, hfree b W2 hb2 (Or.inr (Or.inl rfl))⟩, own_base hrow (Nat.zero_le _), fun g hgb => hfree g W2 hb2 (Or.inr (Or.inr (by have := (World.ownsRow.lt hrow g hgb).1; omega)))⟩
  have hJ2 : J [] W2 := abides_below hJab hJ0 hb2
  clear hx hv hc cK cS hfree hJab hrow
  gi_loopw [9] (fun iv wr => ∃ k : Nat, k ≤ L.length ∧ iv = .int .i64 k ∧ J (LQ.take k) wr ∧ Hid (Held Bs Bx b L (.slice ao L.length cap) wr)) (fun iv _ => L.length - (vInt iv).toNat)
  case atStart => exact ⟨0, Nat.zero_le _, rfl, hJ2, HD⟩
  case round =>
    obtain ⟨k, hk, rfl, hJk, hh⟩ := hrel
    by_cases hlt : k < L.length
    · have hrow := Lst.of_owns (w := wr) (l := L.map P.who) (v := .slice ao L.length cap) enI_len (by decide) (base := 0) (e := 3) (by rw [List.length_map]; exact hh.out.2.2.1)
      obtain ⟨gb, off, rfl, hgb, c0⟩ := int_at hrow (k := k) (x := L[k].who) (by rw [List.getElem?_map, List.getElem?_eq_getElem hlt]; rfl)
      have hmem : L[k] ∈ L := List.getElem_mem hlt
      have hltq : k < LQ.length := by omega
      have htk := List.take_succ_eq_append_getElem hltq
      obtain ⟨x, hxe⟩ : ∃ x, x = LQ[k] := ⟨_, rfl⟩
      have hxl : L[k] = x.1 := by subst hLQ; rw [hxe]; simp
      rw [← hxe] at htk
      rw [hxl] at c0 hmem
      have hgx := getF_some hg hmem
      have hxr := x.bd
      have hxs := x.2.2
      have hbc := hh.out.1.1.cell
      obtain ⟨c, hrun, hat, hwc⟩ := hh.out.2.1.1.lookup_int law Try.underlying85 Try.underlying3 (Try.zeroValue3 _) (key (x := x.1.who) (by omega) hxs)
      obtain rfl := dat_get hat
      rw [hgx] at hrun
      have HTK := Lib.hid htk
      have hlen : (LQ.take k).length < L.length := by rw [List.length_take]; omega
      clear htk hxe hmem hgx hrow hat hwc hxl
      obtain ⟨fn, tmps, assign, body, hy, hR⟩ := hY _ x wr hJk hlen
      gi_wp2
      refine hR.mono ?_
      rintro e W3 (⟨rfl, hJ3, hk3⟩ | ⟨rfl, hJx3⟩)
      · have HK := Lib.hid (hh.out.keep hBx hb hk3)
        gi_wp2
        go_roundw
        case rel => exact ⟨k + 1, by omega, by go_num, by rw [HTK.out]; exact hJ3, HK⟩
        case measure => simp [vInt]; omega
      · gi_wp2
        refine bodyPost_ret (results_none rfl _ _ _) rfl ?_
        exact ⟨⟨_, rfl⟩, .inr ⟨_, ⟨k + 1, by omega, HTK.out.symm⟩, hJx3⟩⟩
    · obtain rfl : k = L.length := by omega
      have htk : LQ.take L.length = LQ := by rw [hlq]; exact List.take_length
      have HTK := Lib.hid htk
      clear htk
      gi_wp2
      go_end0
      exact ⟨⟨_, rfl⟩, .inl ⟨_, HTK.out, hJk⟩⟩

theorem dots_stops (n : Nat) (hn : 5 ≤ n) (Bx b : Nat) (Bs : List Nat) (L : List P) (LQ : List Q) (hLQ : L = LQ.map Subtype.val) (hL : L.length ≤ 100000) (hg : Rises L) (w : World) (hx : Boxed w Bx 85 (.map (some b))) (hv : VMap w b L)
    (hBs : ∀ B ∈ Bs, B < w.heap.size ∧ B ≠ Bx ∧ B ≠ b ∧ ∀ i, blk w B = some i → i < w.heap.size ∧ i ≠ Bx ∧ i ≠ b) :
    SeqStopsK Fence.wide n Try.prog 100 #[.pointer (some ⟨Bx, 0, none⟩)] (fun x : Q => #[.agg #[.int .i64 x.1.who, .int .i64 x.1.n]]) (KV w.heap.size Bs) (fun ys => ys = LQ) (fun pre => ∃ k, k ≤ L.length ∧ pre = LQ.take k) L.length w := fun lp J Jx W hW hJ _ hY hJ0 =>
  dots1_in n hn lp w.heap.size Bx b Bs L LQ hLQ hL hg hx.lt hv.lt J Jx hY W hJ (box_below hx hW) (hv.below hW) (fun i W' hW' hi hm => by
    have hs := hW.size
    have hsame : ∀ B ∈ Bs, blk W' B = blk w B := fun B hB => by
      have := (hBs B hB).1
      unfold blk
      rw [hW'.block B (by omega), hW.block B (by omega)]
    rcases hm with h | ⟨B, h1, h2⟩
    · obtain ⟨q1, q2, q3, _⟩ := hBs i h
      rcases hi with rfl | rfl | hi
      · exact q2 rfl
      · exact q3 rfl
      · omega
    · obtain ⟨_, _, _, q⟩ := hBs B h1
      rw [hsame B h1] at h2
      obtain ⟨q1, q2, q3⟩ := q i h2
      rcases hi with rfl | rfl | hi
      · exact q2 rfl
      · exact q3 rfl
      · omega) hJ0
end Go.Proofs.Ytehcndjpckolmaa.Vec
