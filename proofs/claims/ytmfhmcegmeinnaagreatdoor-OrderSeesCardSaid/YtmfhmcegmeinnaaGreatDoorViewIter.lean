/- The walk of what goes through the values that one sees (layer 9): rows, and what it hands back. -/
import Derived.Test.YtmfhmcegmeinnaaGreatDoorView
import Derived.Test.YtmfhmcegmeinnaaGreatDoorRefView2
set_option linter.unusedSimpArgs false
set_option linter.unusedVariables false
namespace Go.Proofs.YtmfhmcegmeinnaaGreatDoor.Mut
open Go.RowKit Go.Sort Go.Shelf Go.Proofs.YtmfhmcegmeinnaaGreatDoor.Ord
set_option linter.unusedSectionVars false
variable [Inhabited Lim]

attribute [local go_sem] Oper.semAt_some

set_option maxHeartbeats 1000000 in
theorem rows_in (n : Nat) (a b d : Value) (o1 o2 o3 : Option Addr) (n1 k1 n2 k2 n3 k3 : Nat) (t phys : Int) (w : World) :
    CallsIn Fence.wide n Tryz.prog 55 #[.agg #[.slice o1 n1 k1, .slice o2 n2 k2, .slice o3 n3 k3], .int .i64 t, .int .i64 phys] w fun e w' =>
      e = .returned (.func (.func 103) #[] #[.pointer (some ⟨w.heap.size, 0, none⟩), .pointer (some ⟨w.heap.size + 1, 0, none⟩), .pointer (some ⟨w.heap.size + 2, 0, none⟩)]) ∧
      w' = ((w.alloc (.cells #[.slice o1 n1 k1, .slice o2 n2 k2, .slice o3 n3 k3] 28)).alloc (.cells #[.int .i64 t] 23)).alloc (.cells #[.int .i64 phys] 3) := by
  refine callsIn_of_wp Tryz.func55 rfl trivial ?_ rfl
  simp only [Tryz.ntmps55, List.size_toArray, List.length_cons, List.length_nil, Nat.reduceAdd, Nat.reduceSub, Array.replicate_succ, Array.replicate_zero, List.push_toArray, List.append_toArray, List.nil_append, List.cons_append]
  gi_wp2
  go_ret
  exact ⟨rfl, rfl⟩

/-- What is seen of the first k of a row. -/
def firstK (phys : Int) (R : List Ro) (k : Nat) : List Rw := ((R.take k).filter fun x => seenB x.1 phys).map fun x => rwOf x.1
theorem firstK_step {phys : Int} {R : List Ro} {k : Nat} {x : Ro} (hx : R[k]? = some x) : firstK phys R (k + 1) = firstK phys R k ++ if seenB x.1 phys then [rwOf x.1] else [] := by
  obtain ⟨hk, e⟩ := List.getElem?_eq_some_iff.1 hx
  unfold firstK
  rw [List.take_succ_eq_append_getElem hk, e, List.filter_append, List.map_append]
  congr 1
  cases h : seenB x.1 phys <;> simp [h]
theorem firstK_len {phys : Int} {R : List Ro} {k : Nat} {x : Ro} (hx : R[k]? = some x) (hs : seenB x.1 phys = true) : (firstK phys R k).length < (firstK phys R R.length).length := by
  obtain ⟨hk, e⟩ := List.getElem?_eq_some_iff.1 hx
  have h1 := firstK_step (phys := phys) hx
  rw [hs, if_pos rfl] at h1
  have h2 : (firstK phys R (k + 1)).length ≤ (firstK phys R R.length).length := by
    unfold firstK
    rw [List.length_map, List.length_map, List.take_length]
    exact (List.Sublist.filter _ (List.take_sublist _ _)).length_le
  rw [h1, List.length_append] at h2
  simp at h2
  omega
theorem firstK_pre {phys : Int} {R : List Ro} {k : Nat} : ∃ j, j ≤ (firstK phys R R.length).length ∧ firstK phys R k = (firstK phys R R.length).take j := by
  have h : firstK phys R R.length = firstK phys R k ++ ((R.drop k).filter fun x => seenB x.1 phys).map fun x => rwOf x.1 := by
    unfold firstK
    rw [List.take_length, ← List.map_append, ← List.filter_append, List.take_append_drop]
  refine ⟨(firstK phys R k).length, ?_, ?_⟩
  · rw [h, List.length_append]; omega
  · rw [h, List.take_left]

set_option maxRecDepth 100000 in
set_option maxHeartbeats 4000000 in
theorem rows1_in (n : Nat) (hn : 3 ≤ n) (lp base Bc Bt Bp : Nat) (Bs : List Nat) (c : Con) (m : Nat) (o1 o2 o3 : Option Addr) (n1 k1 n2 k2 n3 k3 : Nat) (t phys : Int) (L : List Rw) (hL : L = (shownF c t phys).map rwOf) (hG : Good c m) (hm : m ≤ 100000) (hBp : Bp < base) (J Jx : List Rw → World → Prop)
    (hY : ∀ pre (x : Rw) W, J pre W → pre.length < L.length → YieldAt Fence.wide (n - 1) Tryz.prog lp #[vRw x] W fun e W' =>
      (e = .returned (.bool true) ∧ J (pre ++ [x]) W' ∧ KV base Bs W W') ∨ (e = .returned (.bool false) ∧ Jx (pre ++ [x]) W'))
    (W : World) (hJab : AbidesFrom W.heap.size J) (hbs : base ≤ W.heap.size) (hBs : ∀ B ∈ Bs, B < base) (hc : C3 W Bc (.slice o1 n1 k1) (.slice o2 n2 k2) (.slice o3 n3 k3)) (ht : Boxed W Bt 23 (.int .i64 t)) (hp : Boxed W Bp 3 (.int .i64 phys)) (hv : IsC c (.agg #[.slice o1 n1 k1, .slice o2 n2 k2, .slice o3 n3 k3]) W)
    (hfree : ∀ i W', Below W.heap.size W W' → (i = Bp ∨ W.heap.size ≤ i) → ¬ Mine Bs W' i) (hJ0 : J [] W) :
    CallsIn Fence.wide n Tryz.prog 103 #[.func (.yield lp) #[] #[], .pointer (some ⟨Bc, 0, none⟩), .pointer (some ⟨Bt, 0, none⟩), .pointer (some ⟨Bp, 0, none⟩)] W fun e W' => (∃ v, e = .returned v) ∧
      ((∃ ys, ys = L ∧ J ys W') ∨ (∃ pre, (∃ k, k ≤ L.length ∧ pre = L.take k) ∧ Jx pre W')) := by
  have hn1 : 1 ≤ n := by omega
  have cL := live_any (.agg #[.slice o1 n1 k1, .slice o2 n2 k2, .slice o3 n3 k3]) c m t W hv hG hm
  have hct := ht.cell
  obtain ⟨-, s0, s1, s2, -⟩ := hc
  have hlv : ∀ l ∈ [liveF c t], l.length ≤ 200000 := by
    intro l hl
    have h1 := hG.okc.lens
    obtain rfl : l = liveF c t := by simpa using hl
    unfold liveF
    split
    · have := List.length_filter_le (fun m => !supF c m.key m.at_) c.sibs; omega
    · have := List.length_filter_le (fun m => decide (m.table = t)) c.cells; omega
  have hll := hlv _ (List.mem_singleton.2 rfl)
  clear hlv
  refine callsIn_of_wp Tryz.func103 rfl trivial ?_ rfl
  simp only [Tryz.ntmps103, List.size_toArray, List.length_cons, List.length_nil, Nat.reduceAdd, Nat.reduceSub, Array.replicate_succ, Array.replicate_zero, List.push_toArray, List.append_toArray, List.nil_append, List.cons_append]
  gi_wp2_with (refine ⟨trivial, ?_⟩; gi_at_call 104; refine (callsIn_wide.2 cL).mono ?_; rintro e W2 ⟨u, R, rfl, hrow, hR, hfm, hb2⟩; obtain ⟨ao, cap, rfl⟩ := row_form hrow)
  have hLF : L = firstK phys R R.length := by
    rw [hL]
    unfold firstK shownF
    rw [List.take_length, ← hR, List.filter_map, List.map_map]
    rfl
  have hRl : R.length ≤ 200000 := by rw [← hR, List.length_map] at hll; exact hll
  have HD : Hid (SafeBox Bs Bp 3 (.int .i64 phys) W2 ∧ Safe Bs 51 10 (.slice ao R.length cap) R.length (R.flatMap enM) W2) := Lib.hid ⟨⟨box_below hp hb2, hfree Bp W2 hb2 (Or.inl rfl)⟩, own_base hrow (Nat.zero_le _), fun g hgb => hfree g W2 hb2 (Or.inr ((World.ownsRow.lt hrow g hgb).1))⟩
  have hJ2 : J [] W2 := abides_below hJab hJ0 hb2
  have HF := Lib.hid hfm
  have HLF := Lib.hid hLF
  have hbs2 : base ≤ W2.heap.size := Nat.le_trans hbs hb2.size
  obtain ⟨N, hN⟩ : ∃ N, N = R.length := ⟨_, rfl⟩
  rw [← hN] at HD hRl ⊢
  have HN := Lib.hid hN
  have hJab2 := hJab
  have hsz2 := hb2.size
  clear hv ht hp hct cL hfree hrow hfm hLF hR hll hL s0 s1 s2 hN hJ0 hb2
  gi_loopw [11] (fun iv wr => ∃ k : Nat, k ≤ N ∧ iv = .int .i64 k ∧ J (firstK phys R k) wr ∧ Hid (SafeBox Bs Bp 3 (.int .i64 phys) wr ∧ Safe Bs 51 10 (.slice ao N cap) N (R.flatMap enM) wr) ∧ base ≤ wr.heap.size) (fun iv _ => N - (intOf iv).toNat)
  case atStart => exact ⟨0, Nat.zero_le _, rfl, hJ2, HD, hbs2⟩
  case round =>
    obtain ⟨k, hk, rfl, hJk, hh, hbr⟩ := hrel
    by_cases hlt : k < N
    · have hkr : k < R.length := by have := HN.out; omega
      obtain ⟨x, hx⟩ : ∃ x, R[k]? = some x := ⟨_, List.getElem?_eq_getElem hkr⟩
      have hrow : Lst 10 enM wr (.slice ao N cap) R := Lst.owned enM_len (by decide) HN.out hh.out.2.1
      obtain ⟨xb, xoff, hao, hb, hcx⟩ := Lst.get hrow hkr
      rw [(List.getElem?_eq_some_iff.1 hx).2] at hcx
      have hat := At.of hb hcx
      cases hao
      have hxf := HF.out x (List.mem_of_getElem? hx)
      have hst := firstK_step (phys := phys) hx
      have hln := firstK_len (phys := phys) hx
      rw [← HLF.out] at hln
      have hpc := hh.out.1.1.cell
      have hpl := hh.out.1.1.lt
      obtain ⟨Q, hQ⟩ : ∃ Q, Q = seenB x.1 phys := ⟨_, rfl⟩
      have HS := Lib.hid (fun W => seen_any x phys W hxf)
      rw [← hQ] at hst hln HS
      have HST := Lib.hid hst
      have HLN := Lib.hid hln
      obtain ⟨rw_, hrw⟩ : ∃ r, r = rwOf x.1 := ⟨_, rfl⟩
      rw [← hrw] at HST
      have HKV : ∀ Wn, Below wr.heap.size wr Wn → KV base Bs wr Wn := fun Wn h => kv_below (fun B hB => Nat.lt_of_lt_of_le (hBs B hB) hbr) h
      have HKV2 := Lib.hid HKV
      clear HKV hst hln hrow hcx hx hQ
      obtain ⟨xo, xn, xc, ex⟩ := hxf
      obtain ⟨⟨at1, ak1, akey1, afin1, aval1, aex1, ⟨ap1, al1, aw1⟩, aov1⟩, av1⟩ := x
      simp only [] at ex
      subst ex
      have HRW := Lib.hid (show vRw rw_ = .agg #[.string akey1, .string aval1, .int .i64 ap1, .int .i64 al1, .int .i64 aw1] by rw [hrw]; rfl)
      clear hrw
      obtain ⟨hbl, a0, a1, a2, a3, a4, a5, a6, a7, a8, a9⟩ := hat
      simp only [] at a0 a1 a2 a3 a4 a5 a6 a7 a8 a9
      unfold vM RetB at HS
      simp only [] at HS
      cases Q
      · gi_wp2_with (refine ⟨trivial, ?_⟩; gi_at_call 105; refine (callsIn_wide.2 (HS.out _)).mono ?_; rintro e w1 ⟨rfl, hb1⟩; have hbm : Below wr.heap.size wr w1 := below_then ((Below.refl _ wr).alloc (Nat.le_refl _) (.cells #[.int .i64 at1, .int .i64 ak1, .string akey1, .string afin1, .string aval1, .int .i64 aex1, .int .i64 ap1, .int .i64 al1, .int .i64 aw1, .slice xo xn xc] 51)) (Nat.le_refl _) hb1; have hJ1 : J (firstK phys R k) w1 := abides_below hJab2 hJk hbm; have hk1 := HKV2.out w1 hbm; have HH1 := Lib.hid (And.intro (hh.out.1.keep hBp hk1) (hh.out.2.keep hk1)); have hbr1 : base ≤ w1.heap.size := Nat.le_trans hbr hbm.size; have HJ := Lib.hid (show J (firstK phys R (k + 1)) w1 by rw [HST.out]; simpa using hJ1); clear hJ1 hk1 hbm hb1)
        refine ⟨fun f h => (by cases h), ?_⟩
        gi_wp2
        go_roundw
        case rel => exact ⟨k + 1, by omega, by go_num, HJ.out, HH1, hbr1⟩
        case measure => simp [intOf]; omega
      · have hlen := HLN.out rfl
        have HST2 := Lib.hid (show firstK phys R (k + 1) = firstK phys R k ++ [rw_] by rw [HST.out]; rfl)
        gi_wp2_with (refine ⟨trivial, ?_⟩; gi_at_call 105; refine (callsIn_wide.2 (HS.out _)).mono ?_; rintro e w1 ⟨rfl, hb1⟩; have hbm : Below wr.heap.size wr w1 := below_then ((Below.refl _ wr).alloc (Nat.le_refl _) (.cells #[.int .i64 at1, .int .i64 ak1, .string akey1, .string afin1, .string aval1, .int .i64 aex1, .int .i64 ap1, .int .i64 al1, .int .i64 aw1, .slice xo xn xc] 51)) (Nat.le_refl _) hb1; have q2 : w1.cell? ⟨wr.heap.size, 2, none⟩ = some (.string akey1) := (hb1.cell (p := ⟨wr.heap.size, 2, none⟩) (by simp)).trans (by go_simp); have q4 : w1.cell? ⟨wr.heap.size, 4, none⟩ = some (.string aval1) := (hb1.cell (p := ⟨wr.heap.size, 4, none⟩) (by simp)).trans (by go_simp); have q6 : w1.cell? ⟨wr.heap.size, 6, none⟩ = some (.int .i64 ap1) := (hb1.cell (p := ⟨wr.heap.size, 6, none⟩) (by simp)).trans (by go_simp); have q7 : w1.cell? ⟨wr.heap.size, 7, none⟩ = some (.int .i64 al1) := (hb1.cell (p := ⟨wr.heap.size, 7, none⟩) (by simp)).trans (by go_simp); have q8 : w1.cell? ⟨wr.heap.size, 8, none⟩ = some (.int .i64 aw1) := (hb1.cell (p := ⟨wr.heap.size, 8, none⟩) (by simp)).trans (by go_simp); have hJ1 : J (firstK phys R k) w1 := abides_below hJab2 hJk hbm; have hk1 := HKV2.out w1 hbm; have HH1 := Lib.hid (And.intro (hh.out.1.keep hBp hk1) (hh.out.2.keep hk1)); have hbr1 : base ≤ w1.heap.size := Nat.le_trans hbr hbm.size; obtain ⟨fn, tmps, assign, body, hy, hR⟩ := hY _ rw_ w1 hJ1 hlen; rw [HRW.out] at hy; clear hJ1 hk1 hbm hlen hb1)
        refine hR.mono ?_
        rintro e W3 (⟨rfl, hJ3, hk3⟩ | ⟨rfl, hJx3⟩)
        · have HK := Lib.hid (And.intro (HH1.out.1.keep hBp hk3) (HH1.out.2.keep hk3))
          have hbr3 : base ≤ W3.heap.size := Nat.le_trans hbr1 hk3.1
          gi_wp2
          go_roundw
          case rel => exact ⟨k + 1, by omega, by go_num, by rw [HST2.out]; exact hJ3, HK, hbr3⟩
          case measure => simp [intOf]; omega
        · gi_wp2
          refine bodyPost_ret (results_none rfl _ _ _) rfl ?_
          refine ⟨⟨_, rfl⟩, .inr ⟨_, ?_, hJx3⟩⟩
          rw [← HST2.out, HLF.out]
          exact firstK_pre
    · obtain rfl : k = N := by omega
      have HE := Lib.hid (show J L wr by rw [HLF.out, ← HN.out]; exact hJk)
      clear hJk
      gi_wp2
      go_end0
      exact ⟨⟨_, rfl⟩, .inl ⟨_, rfl, HE.out⟩⟩

theorem rows_stops (n : Nat) (hn : 3 ≤ n) (Bc Bt Bp : Nat) (Bs : List Nat) (c : Con) (m : Nat) (o1 o2 o3 : Option Addr) (n1 k1 n2 k2 n3 k3 : Nat) (t phys : Int) (L : List Rw) (hL : L = (shownF c t phys).map rwOf) (hG : Good c m) (hm : m ≤ 100000) (w : World) (hc : C3 w Bc (.slice o1 n1 k1) (.slice o2 n2 k2) (.slice o3 n3 k3)) (ht : Boxed w Bt 23 (.int .i64 t)) (hp : Boxed w Bp 3 (.int .i64 phys)) (hv : IsC c (.agg #[.slice o1 n1 k1, .slice o2 n2 k2, .slice o3 n3 k3]) w)
    (hBs : ∀ B ∈ Bs, B < w.heap.size ∧ B ≠ Bp ∧ ∀ i, blk w B = some i → i < w.heap.size ∧ i ≠ Bp) :
    SeqStopsK Fence.wide n Tryz.prog 103 #[.pointer (some ⟨Bc, 0, none⟩), .pointer (some ⟨Bt, 0, none⟩), .pointer (some ⟨Bp, 0, none⟩)] (fun x : Rw => #[vRw x]) (KV w.heap.size Bs) (fun ys => ys = L) (fun pre => ∃ k, k ≤ L.length ∧ pre = L.take k) L.length w := fun lp J Jx W hW hJ _ hY hJ0 =>
  rows1_in n hn lp w.heap.size Bc Bt Bp Bs c m o1 o2 o3 n1 k1 n2 k2 n3 k3 t phys L hL hG hm hp.lt J Jx hY W hJ hW.size (fun B hB => (hBs B hB).1) (hc.below hW) (box_below ht hW) (box_below hp hW) (hv.below hW) (fun i W' hW' hi hm => by
    have hs := hW.size
    have hpl := hp.lt
    have hsame : ∀ B ∈ Bs, blk W' B = blk w B := fun B hB => by
      have := (hBs B hB).1
      unfold blk
      rw [hW'.block B (by omega), hW.block B (by omega)]
    rcases hm with h | ⟨B, h1, h2⟩
    · obtain ⟨q1, q2, _⟩ := hBs i h
      rcases hi with rfl | hi
      · exact q2 rfl
      · omega
    · obtain ⟨_, _, q⟩ := hBs B h1
      rw [hsame B h1] at h2
      obtain ⟨q1, q2⟩ := q i h2
      rcases hi with rfl | hi
      · exact q2 rfl
      · omega) hJ0
end Go.Proofs.YtmfhmcegmeinnaaGreatDoor.Mut
