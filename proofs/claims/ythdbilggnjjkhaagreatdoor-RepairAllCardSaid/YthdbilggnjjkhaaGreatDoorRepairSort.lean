/- slices.Values, Collect, Sorted, Compact at rows of ints (layer 26). -/
import Derived.Shelf.SlIterI.Sorted
import Derived.Sort.OwnSortedInts
import Derived.Maps.OwnIn
import Derived.Test.YthdbilggnjjkhaaGreatDoorRepairLay
import Derived.Test.YthdbilggnjjkhaaGreatDoorRange
import Derived.Test.YthdbilggnjjkhaaGreatDoorInts
set_option linter.unusedSimpArgs false
set_option linter.unusedVariables false
namespace Go.Proofs.YthdbilggnjjkhaaGreatDoor.Rpr
open Go.RowKit Go.Maps Go.Sort Go.Shelf Go.Proofs.YthdbilggnjjkhaaGreatDoor.Ints
attribute [local go_sem] Oper.semAt_some

def iNat : Value → Nat
  | .int _ x => x.toNat
  | _ => 0

set_option maxRecDepth 100000 in
set_option maxHeartbeats 2000000 in
theorem values1_in (n : Nat) (hn : 1 ≤ n) (lp Bx : Nat) (ao : Option Addr) (cap : Nat) (L : List Int) (hL : L.length ≤ 100000) (wa : World) (J Jx : List Int → World → Prop)
    (hY : ∀ pre (x : Int) W, J pre W → pre.length < L.length → YieldAt Fence.wide (n - 1) Tryz.prog lp #[.int .i64 x] W fun e W' =>
      (e = .returned (.bool true) ∧ J (pre ++ [x]) W' ∧ Below wa.heap.size W W') ∨ (e = .returned (.bool false) ∧ Jx (pre ++ [x]) W'))
    (W : World) (hW : Below wa.heap.size wa W) (hx : Boxed wa Bx 24 (.slice ao L.length cap)) (hr : IRow wa (.slice ao L.length cap) L) (hJ0 : J [] W) :
    CallsIn Fence.wide n Tryz.prog 26 #[.func (.yield lp) #[] #[], .pointer (some ⟨Bx, 0, none⟩)] W fun e W' => (∃ v, e = .returned v) ∧
      ((∃ ys, ys = L ∧ J ys W') ∨ (∃ pre, True ∧ Jx pre W')) := by
  have hc := (box_below hx hW).cell
  have HR := Lib.hid hr
  have HB := Lib.hid hW
  clear hx hr hW
  refine callsIn_of_wp Tryz.func26 rfl trivial ?_ rfl
  simp only [Tryz.ntmps26, List.size_toArray, List.length_cons, List.length_nil, Nat.reduceAdd, Nat.reduceSub, Array.replicate_succ, Array.replicate_zero, List.push_toArray, List.append_toArray, List.nil_append, List.cons_append]
  gi_wp2
  gi_loopw [7] (fun iv wr => ∃ k : Nat, k ≤ L.length ∧ iv = .int .i64 k ∧ J (L.take k) wr ∧ Hid (Below wa.heap.size wa wr)) (fun iv _ => L.length - iNat iv)
  case atStart => exact ⟨0, Nat.zero_le _, rfl, hJ0, HB⟩
  case round =>
    obtain ⟨k, hk, rfl, hJk, hb⟩ := hrel
    by_cases hlt : k < L.length
    · obtain ⟨gb, off, rfl, hgb, c0⟩ := int_at (Lst.below HR.out hb.out) (List.getElem?_eq_getElem hlt)
      have htk := List.take_succ_eq_append_getElem hlt
      obtain ⟨x, hxe⟩ : ∃ x, x = L[k] := ⟨_, rfl⟩
      rw [← hxe] at htk c0
      have HTK := Lib.hid htk
      have hlen : (L.take k).length < L.length := by rw [List.length_take]; omega
      clear htk hxe hgb
      obtain ⟨fn, tmps, assign, body, hy, hR⟩ := hY _ x wr hJk hlen
      gi_wp2
      refine hR.mono ?_
      rintro e W3 (⟨rfl, hJ3, hk3⟩ | ⟨rfl, hJx3⟩)
      · have HK := Lib.hid (hb.out.trans hk3)
        gi_wp2
        go_roundw
        case rel => exact ⟨k + 1, by omega, by go_num, by rw [HTK.out]; exact hJ3, HK⟩
        case measure => simp [iNat]; omega
      · gi_wp2
        refine bodyPost_ret (results_none rfl _ _ _) rfl ?_
        exact ⟨⟨_, rfl⟩, .inr ⟨_, trivial, hJx3⟩⟩
    · obtain rfl : k = L.length := by omega
      have HTK := Lib.hid (List.take_length (l := L))
      gi_wp2
      go_end0
      exact ⟨⟨_, rfl⟩, .inl ⟨_, HTK.out, hJk⟩⟩

theorem values_stops (n : Nat) (hn : 1 ≤ n) (Bx : Nat) (ao : Option Addr) (cap : Nat) (L : List Int) (hL : L.length ≤ 100000) (wa w : World) (hb : Below wa.heap.size wa w) (hx : Boxed wa Bx 24 (.slice ao L.length cap)) (hr : IRow wa (.slice ao L.length cap) L) :
    SeqStopsK Fence.wide n Tryz.prog 26 #[.pointer (some ⟨Bx, 0, none⟩)] (fun x : Int => #[.int .i64 x]) (Below wa.heap.size) (fun ys => ys = L) (fun _ => True) L.length w := fun lp J Jx W hW _ _ hY hJ0 =>
  values1_in n hn lp Bx ao cap L hL wa J Jx hY W (hb.trans (hW.mono hb.size)) hx hr hJ0

/-- What is collected so far lies in a box. -/
def CollI (n₀ B : Nat) (pre : List Int) (W : World) : Prop := ∃ v, Boxed W B 24 v ∧ W.ownsRow n₀ 3 1 v pre.length (pre.flatMap enI)
theorem collI_own (n₀ B : Nat) : Own (CollI n₀ B) := by
  rintro s X Y row ⟨v, h1, h2⟩ hg hr
  exact ⟨v, own_box h1 hg hr, own_row h2 hg hr⟩
theorem enI_one (x : Int) : ∀ u ∈ enI x, u.oneCell' = true := by intro u hu; simp at hu; subst hu; rfl
/-- An own row of ints comes back. -/
def OwnI (w : World) (base : Nat) (v : Value) (l : List Int) : Prop := w.ownsRow base 3 1 v l.length (l.flatMap enI)
def RowIP (w : World) (L : List Int) (e : Ending) (w' : World) : Prop := ∃ v, e = .returned v ∧ OwnI w' w.heap.size v L ∧ Below w.heap.size w w'

set_option maxRecDepth 100000 in
set_option maxHeartbeats 4000000 in
theorem appendI_in (n : Nat) (hn : 6 ≤ n) (Bx : Nat) (ao : Option Addr) (cap : Nat) (L : List Int) (hL : L.length ≤ 1000) (w : World) (hx : Boxed w Bx 24 (.slice ao L.length cap)) (hr : IRow w (.slice ao L.length cap) L) :
    CallsIn Fence.wide n Tryz.prog 42 #[.slice none 0 0, .func (.func 26) #[] #[.pointer (some ⟨Bx, 0, none⟩)]] w (RowIP w L) := by
  obtain ⟨i0, hi, hz0, hz1, hz2⟩ := info_parts info_I
  have HI := Lib.hid hi
  have HZ0 := Lib.hid hz0
  have HZ1 := Lib.hid hz1
  have HZ2 := Lib.hid hz2
  clear hi hz0 hz1 hz2
  have hn1 : 1 ≤ n := by omega
  refine callsIn_of_wp_marks Tryz.func42 rfl trivial ?_ rfl
  simp only [Tryz.ntmps42, List.size_toArray, List.length_cons, List.length_nil, Nat.reduceAdd, Nat.reduceSub, Array.replicate_succ, Array.replicate_zero, List.push_toArray, List.append_toArray, List.nil_append, List.cons_append]
  gi_wp2
  obtain ⟨W0, hW0⟩ : ∃ W0, W0 = w.alloc (.cells #[.slice none 0 0] 24) := ⟨_, rfl⟩
  rw [← hW0]
  have bx : Boxed W0 w.heap.size 24 (.slice none 0 0) := by rw [hW0]; exact Boxed.new _ _ _
  have hs0 : W0.heap.size = w.heap.size + 1 := by rw [hW0]; simp
  have hb0 : Below w.heap.size w W0 := by rw [hW0]; exact (Below.refl _ _).alloc (Nat.le_refl _) _
  clear hW0
  refine wpIn_rangeFunc_ownH rfl hn1 (gf := 26) (lb := #[.pointer (some ⟨Bx, 0, none⟩)]) rfl trivial (enters_of Tryz.func26 (by kernel_rfl) rfl)
    (values_stops (n - 1) (by omega) Bx ao cap L (by omega) w W0 hb0 hx hr) (fun h k => h.trans k) (fun W l o o' hl hW ho hwk => belowK_b (w := W0) (by omega) W l o o' hl hW ho hwk) (Below.refl _ _) (fun _ => rfl)
    (fun pre W => CollI W0.heap.size w.heap.size pre W ∧ Below w.heap.size W0 W)
    (fun _ _ _ => False)
    (OwnFrom.and (Own.from (collI_own _ _) _) (ownFrom_below (by omega) (by omega)))
    (fun c s X Y row hs _ _ => hs)
    ⟨⟨_, bx, World.ownsRow_nil _ _ _ _⟩, Below.refl _ _⟩
    (fun x a' W => a' = { tmps := #[.slice none 0 0, .func (.func 26) #[] #[.pointer (some ⟨Bx, 0, none⟩)], .pointer (some ⟨w.heap.size, 0, none⟩), undef, .slice none 0 0, .int .i64 x, .func (.func 26) #[] #[.pointer (some ⟨Bx, 0, none⟩)], .int .i64 x, undef, undef, undef, undef, undef], defers := [] })
    (fun x a' _ X Y row hs hgr hr => hs)
    ?assign ?body ?done ?stop
  case assign =>
    rintro l pre x W K ⟨⟨v, c1, c2⟩, hB⟩ hK
    have hs := hB.size
    gi_wp2
    exact hK _ _ (KeepsFrom.refl _ _) (Below.refl _ _) ⟨⟨v, c1, c2⟩, hB⟩ rfl
  case body =>
    rintro l pre x a' W hl _ ⟨⟨v, c1, c2⟩, hB⟩ rfl hlt
    have hs := hB.size
    have g1 := c1.cell
    obtain ⟨k, hk⟩ : ∃ k : Nat, k = pre.length := ⟨_, rfl⟩
    rw [← hk] at c2 hlt
    have HK := Lib.hid hk
    have R1 := Lib.hid c2
    have C1 := Lib.hid c1
    clear hk c2 c1
    gi_wp2_with (gi_at_builtin; refine wpListIn_append_own_at _ rfl (.tmp 8) (.tmp 10) 24 rfl W0.heap.size 3 i0 (.int .i64 0) 1 8 Tryz.underlying24 HI.out HZ0.out HZ1.out HZ2.out rfl (by decide) v _ _ rfl (R1.out.alloc _) ⟨_, 0, none⟩ 1 1 (enI x) rfl rfl (new_cells _ (enI x) _) (enI_one x) (by unfold maxLen; omega) (by omega) (by simp; omega) ?_; intro v' w1 hown1 hgrow1 hnil1 hat1; obtain ⟨ao1, cap1, rfl⟩ := row_form hown1; obtain ⟨a1, a2, a3, a4, a5, _⟩ := appended (n₀ := w.heap.size) C1.out (by decide) R1.out (by omega) (by omega) (by omega) hown1 hgrow1; have k1 := a1.cell; have k2 := a1.frozen; have A := Lib.hid (And.intro a2 (And.intro a3 (And.intro a4 a5))); clear a1 a2 a3 a4 a5 hown1 hgrow1 hat1 hnil1)
    exact ⟨A.out.2.2.1.from _, A.out.2.2.2, ⟨_, A.out.1, by rw [List.length_append, List.flatMap_append, List.flatMap_singleton, ← HK.out]; exact A.out.2.1⟩, hB.trans A.out.2.2.2⟩
  case done =>
    rintro D ys W hD rfl ⟨⟨v, c1, c2⟩, hB⟩ hK
    have g1 := c1.cell
    have R := Lib.hid c2
    clear c2
    gi_wp2
    refine ⟨by simp, .inl ⟨_, _, rfl, run_takeDeferred hK, ?_⟩⟩
    exact ⟨_, results_tmp rfl _ _ _, v, rfl, own_base (ownsRow_putObj R.out (.deferred none) hK rfl) (by omega), hb0.trans (hB.trans (belowK_b (w := w) (Nat.le_refl _) W D _ _ (by omega) hK rfl rfl))⟩
  case stop =>
    rintro D c pre W hD _ hF
    exact hF.elim

set_option maxHeartbeats 1000000 in
theorem collectI_in (n : Nat) (hn : 7 ≤ n) (Bx : Nat) (ao : Option Addr) (cap : Nat) (L : List Int) (hL : L.length ≤ 1000) (w : World) (hx : Boxed w Bx 24 (.slice ao L.length cap)) (hr : IRow w (.slice ao L.length cap) L) :
    CallsIn Fence.wide n Tryz.prog 24 #[.func (.func 26) #[] #[.pointer (some ⟨Bx, 0, none⟩)]] w (RowIP w L) := by
  have hn1 : 1 ≤ n := by omega
  refine callsIn_of_wp Tryz.func24 rfl trivial ?_ rfl
  simp only [Tryz.ntmps24, List.size_toArray, List.length_cons, List.length_nil, Nat.reduceAdd, Nat.reduceSub, Array.replicate_succ, Array.replicate_zero, List.push_toArray, List.append_toArray, List.nil_append, List.cons_append]
  gi_wp2_with (refine ⟨trivial, ?_⟩; gi_at_call 42; refine (appendI_in (n - 1) (by omega) Bx ao cap L hL _ hx hr).mono ?_; rintro e w' ⟨v, rfl, h1, h2⟩)
  go_ret
  exact ⟨v, rfl, h1, h2⟩

/-- Rising. -/
def sortI (l : List Int) : List Int := l.mergeSort fun x y => decide (x ≤ y)
theorem sortI_len (l : List Int) : (sortI l).length = l.length := List.length_mergeSort _
theorem sortI_mem (l : List Int) (x : Int) : x ∈ sortI l ↔ x ∈ l := (List.mergeSort_perm l _).mem_iff

set_option maxHeartbeats 2000000 in
set_option maxRecDepth 100000 in
theorem sortedI_any (Bx : Nat) (ao : Option Addr) (cap : Nat) (L : List Int) (hL : L.length ≤ 1000) (w : World) (hx : Boxed w Bx 24 (.slice ao L.length cap)) (hr : IRow w (.slice ao L.length cap) L) :
    Calls Tryz.prog 13 #[.func (.func 26) #[] #[.pointer (some ⟨Bx, 0, none⟩)]] w (RowIP w (sortI L)) := by
  have hC := callsIn_wide (n := 9) |>.1 (collectI_in 9 (by omega) Bx ao cap L hL w hx hr)
  go_enter Tryz.func13, Tryz.ntmps13
  go_wp2_with fail
  refine hC.mono ?_
  rintro e W ⟨v, rfl, hrow, hb⟩
  rcases hrow.2 with ⟨rfl, hz⟩ | ⟨gb, gcap, cur, rfl, hbase, hgb, r1, r2, r3, r4⟩
  · obtain rfl : L = [] := List.eq_nil_of_length_eq_zero hz
    have hS := AnyM.slices_Sort_int_none sortA none 0 W
    have HR := Lib.hid hrow
    go_wp2_with fail
    refine hS.mono ?_
    rintro e w' ⟨rfl, rfl⟩
    go_wp2_with fail
    go_ret
    rw [show sortI [] = [] from List.mergeSort_nil]
    exact ⟨.slice none 0 0, rfl, HR.out, hb⟩
  · rw [flat_enI] at r4
    have hH : Holds encZ W gb 0 L.toArray := holds_of_block_i hgb (by simpa using r4)
    have hgl : gb < W.heap.size := (Array.getElem?_eq_some_iff.1 hgb).1
    have hS := AnyM.slices_Sort_int sortA gb 0 gcap L W hH hgl (by omega)
    go_wp2_with fail
    refine hS.mono ?_
    rintro e w' ⟨rfl, nn, os, rfl⟩
    go_wp2_with fail
    go_ret
    refine ⟨_, rfl, ?_, hb.grown (grownBy_sorted_i _) hb.size (fun j hj => by cases hj; exact hbase)⟩
    unfold OwnI
    rw [flat_enI, sortI_len]
    have h1 := ownsRow_sorted_i (w := W) (base := w.heap.size) (g := gb) (cap := gcap) (n := nn) (e := 3) (os := os) (cur := cur) (ss := L) (ts := sortI L) (sortI_len L) hbase hgb r1 r2 r3
    exact h1

/-! ## Compact -/
/-- Of a row of ints those that aren't the one ahead. -/
def dupI (l : List Int) : List Int := Lib.compact l
theorem dupI_len (l : List Int) : (dupI l).length ≤ l.length := by
  have key : ∀ (d : Array Int) m, (Lib.compactUpTo d m).length ≤ m := fun d m => by
    induction m with
    | zero => exact Nat.le_refl _
    | succ m ih =>
      rw [Lib.compactUpTo_succ, List.length_append]
      split <;> simp <;> omega
  exact key _ _
theorem mem_upTo (d : Array Int) (x : Int) : ∀ m k, k < m → d[k]! = x → x ∈ Lib.compactUpTo d m := by
  intro m k hk
  induction k generalizing m with
  | zero =>
    intro hx
    unfold Lib.compactUpTo
    exact List.mem_map.2 ⟨0, List.mem_filter.2 ⟨List.mem_range.2 hk, by simp [Lib.keeps]⟩, hx⟩
  | succ k ih =>
    intro hx
    by_cases he : d[k + 1]! = d[k]!
    · exact ih m (by omega) (he ▸ hx)
    · unfold Lib.compactUpTo
      exact List.mem_map.2 ⟨k + 1, List.mem_filter.2 ⟨List.mem_range.2 hk, by simp [Lib.keeps, he]⟩, hx⟩
theorem dupI_mem (l : List Int) (x : Int) (h : x ∈ l) : x ∈ dupI l := by
  obtain ⟨i, hi, e⟩ := List.mem_iff_getElem.1 h
  refine mem_upTo _ _ _ i hi ?_
  rw [getElem!_pos _ _ (by simpa using hi)]
  simpa using e
theorem mem_dupI (l : List Int) (x : Int) (h : x ∈ dupI l) : x ∈ l := by
  unfold dupI Lib.compact Lib.compactUpTo at h
  obtain ⟨i, hi, rfl⟩ := List.mem_map.1 h
  have hlt := List.mem_range.1 (List.mem_filter.1 hi).1
  rw [getElem!_pos _ _ (by simpa using hlt)]
  simp
theorem ownI_take {w : World} {base g cap n : Nat} {xs : List Value} (h : w.ownsRow base 3 1 (.slice (some ⟨g, 0, none⟩) n cap) n xs) {k : Nat} (hk : k ≤ n) :
    w.ownsRow base 3 1 (.slice (some ⟨g, 0, none⟩) k cap) k (xs.take k) := by
  obtain ⟨h0, ⟨h1, _⟩ | ⟨g', cap', cur, hv, hg, hb, hn, hcap, hs, ht⟩⟩ := h
  · cases h1
  · cases hv
    refine ⟨by rw [List.length_take, h0]; omega, Or.inr ⟨g, cap, cur, rfl, hg, hb, by omega, hcap, hs, ?_⟩⟩
    rw [← ht, List.take_take]
    congr 1
    omega
def CompIP (base : Nat) (w : World) (v : Value) (l : List Int) (e : Ending) (w' : World) : Prop := ∃ v', e = .returned v' ∧ OwnI w' base v' l ∧ w.grownBy w' v.ownBlock
theorem compactI_any (base : Nat) (v : Value) (l : List Int) (w : World) (hown : OwnI w base v l) (hn : l.length ≤ 1000000) :
    Calls Tryz.prog 12 #[v] w (CompIP base w v (dupI l)) := by
  have h0 := hown
  obtain ⟨hl, ⟨e, hz⟩ | ⟨g, cap, cur, e, hg, hb, hnc, hcm, hs, ht⟩⟩ := h0
  · subst e
    obtain rfl : l = [] := List.eq_nil_of_length_eq_zero hz
    refine (Any.slices_Compact_int_empty layComp none 0 w).mono ?_
    rintro e w' ⟨rfl, rfl⟩
    exact ⟨_, rfl, hown, World.grownBy.refl _ _⟩
  · subst e
    rw [flat_enI] at ht
    have hH : Holds (Value.int .i64) w g 0 l.toArray := holds_of_blockI hb (by rw [← ht, Nat.mul_one])
    have hc := Any.slices_Compact_int layComp g 0 cap l w hH (by omega) hnc
    refine hc.mono ?_
    rintro e w' ⟨rfl, q, rfl⟩
    have hk := dupI_len l
    unfold dupI at hk ⊢
    obtain ⟨K, hK⟩ : ∃ K, K = Lib.compact l := ⟨_, rfl⟩
    rw [← hK] at hk ⊢
    have ho := ownsRow_sortedI (w := w) (base := base) (g := g) (cap := cap) (n := q) (e := 3) (os := #[]) (cur := cur) (ss := l) (ts := K ++ List.replicate (l.length - K.length) 0) (by rw [List.length_append, List.length_replicate]; omega) hg hb hnc hcm hs
    rw [Sort.grow_empty] at ho
    refine ⟨_, rfl, ?_, ?_⟩
    · have h2 := ownI_take ho hk
      unfold OwnI
      have e4 : ((K ++ List.replicate (l.length - K.length) 0).map (Value.int .i64)).take K.length = K.flatMap enI := by
        rw [List.map_append, List.take_left' (List.length_map ..), flat_enI]
      rw [e4] at h2
      exact h2
    · have h2 := grownBy_sortedI (w := w) (g := g) (n := q) (os := #[]) (K ++ List.replicate (l.length - K.length) 0).toArray
      rw [Sort.grow_empty] at h2
      exact h2
end Go.Proofs.YthdbilggnjjkhaaGreatDoor.Rpr
