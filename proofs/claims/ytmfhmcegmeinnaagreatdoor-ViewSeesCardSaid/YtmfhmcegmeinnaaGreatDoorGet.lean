/- The walk of view.Get (layer 9): the values of a key. PRINTED by wip/genget.py. -/
import Derived.Test.YtmfhmcegmeinnaaGreatDoorScan
set_option linter.unusedSimpArgs false
set_option linter.unusedVariables false
namespace Go.Proofs.YtmfhmcegmeinnaaGreatDoor.Mut
open Go.RowKit Go.Sort Go.Shelf Go.Proofs.YtmfhmcegmeinnaaGreatDoor.Ord
set_option linter.unusedSectionVars false
variable [Inhabited Lim]

attribute [local go_sem] Oper.semAt_some

def getF (c : Con) (t : Int) (key : ByteArray) (phys : Int) : List Rw := ((shownF c t phys).map rwOf).filter fun y => y.key.toList == key.toList
def CollG (β B Bk : Nat) (key : ByteArray) (pre : List Rw) (W : World) : Prop :=
  (∃ v, Boxed W B 31 v ∧ W.ownsRow β 100 5 v (pre.filter fun x => x.key.toList == key.toList).length ((pre.filter fun x => x.key.toList == key.toList).flatMap enRw)) ∧ Boxed W Bk 9 (.string key)
theorem collG_own (β B Bk : Nat) (key : ByteArray) : Own (CollG β B Bk key) := by
  rintro s X Y row ⟨⟨v, h1, h2⟩, h3⟩ hg hr
  exact ⟨⟨v, own_box h1 hg hr, own_row h2 hg hr⟩, own_box h3 hg hr⟩

set_option maxRecDepth 100000 in
set_option maxHeartbeats 4000000 in
theorem get_any (v : Value) (c : Con) (m : Nat) (t phys : Int) (key : ByteArray) (w : World) (hv : IsC c v w) (hG : Good c m) (hm : m ≤ 100000) :
    Calls Tryz.prog 15 #[v, .int .i64 t, .string key, .int .i64 phys] w (RowW w (getF c t key phys)) := by
  obtain ⟨o1, n1, k1, o2, n2, k2, o3, n3, k3, rfl, hl⟩ := hv.form
  obtain ⟨L, hL⟩ : ∃ L, L = (shownF c t phys).map rwOf := ⟨_, rfl⟩
  have hQ : getF c t key phys = ((shownF c t phys).map rwOf).filter fun y => y.key.toList == key.toList := rfl
  rw [← hL] at hQ
  have hLn : L.length ≤ 200000 := by
    have h1 := hG.okc.lens
    rw [hL, List.length_map]
    unfold shownF liveF
    have h2 := List.length_filter_le (fun m => seenB m phys)
    split
    · have := List.length_filter_le (fun m => !supF c m.key m.at_) c.sibs
      have := h2 (c.sibs.filter fun m => !supF c m.key m.at_)
      omega
    · have := List.length_filter_le (fun m => decide (m.table = t)) c.cells
      have := h2 (c.cells.filter fun m => decide (m.table = t))
      omega
  obtain ⟨Q, hQ0⟩ : ∃ Q, Q = getF c t key phys := ⟨_, rfl⟩
  rw [← hQ0] at hQ ⊢
  have HQ := Lib.hid hQ
  have HHL := Lib.hid hl
  have HHLN := Lib.hid hLn
  obtain ⟨i0, hi, hz0, hz1, hz2⟩ := info_parts info_Rw
  have HI := Lib.hid hi
  have HZ0 := Lib.hid hz0
  have HZ1 := Lib.hid hz1
  have HZ2 := Lib.hid hz2
  clear hi hz0 hz1 hz2 hQ hQ0 hv hl
  have cR := fun W => rows_in 4 (.slice o1 n1 k1) (.slice o2 n2 k2) (.slice o3 n3 k3) o1 o2 o3 n1 k1 n2 k2 n3 k3 t phys W
  refine (callsIn_wide (n := 5)).1 ?_
  refine callsIn_of_wp_marks Tryz.func15 rfl trivial ?_ rfl
  simp only [Tryz.ntmps15, List.size_toArray, List.length_cons, List.length_nil, Nat.reduceAdd, Nat.reduceSub, Array.replicate_succ, Array.replicate_zero, List.push_toArray, List.append_toArray, List.nil_append, List.cons_append]
  gi_wp2_with (refine ⟨trivial, ?_⟩; gi_at_call 55; refine (cR _).mono ?_; rintro e w' ⟨rfl, rfl⟩)
  obtain ⟨W0, hW0⟩ : ∃ W0, W0 = (((((w.alloc (.cells #[.slice o1 n1 k1, .slice o2 n2 k2, .slice o3 n3 k3] 28)).alloc (.cells #[.string key] 9)).alloc (.cells #[.slice none 0 0] 31)).alloc (.cells #[.slice o1 n1 k1, .slice o2 n2 k2, .slice o3 n3 k3] 28)).alloc (.cells #[.int .i64 t] 23)).alloc (.cells #[.int .i64 phys] 3) := ⟨_, rfl⟩
  rw [← hW0]
  have hs0 : W0.heap.size = w.heap.size + 6 := by rw [hW0]; simp
  have hb0 : Below w.heap.size w W0 := by
    rw [hW0]
    exact ((((((Below.refl _ w).alloc (Nat.le_refl _) _).alloc (by simp) _).alloc (by simp; omega) _).alloc (by simp; omega) _).alloc (by simp; omega) _).alloc (by simp; omega) _
  have bf : Boxed W0 (w.heap.size + 1) 9 (.string key) := by
    rw [hW0]
    have := Boxed.new (w.alloc (.cells #[.slice o1 n1 k1, .slice o2 n2 k2, .slice o3 n3 k3] 28)) 9 (.string key)
    rw [World.size_alloc] at this
    exact (((this.alloc _).alloc _).alloc _).alloc _
  have bo : Boxed W0 (w.heap.size + 2) 31 (.slice none 0 0) := by
    rw [hW0]
    have := Boxed.new ((w.alloc (.cells #[.slice o1 n1 k1, .slice o2 n2 k2, .slice o3 n3 k3] 28)).alloc (.cells #[.string key] 9)) 31 (.slice none 0 0)
    rw [World.size_alloc, World.size_alloc] at this
    exact ((this.alloc _).alloc _).alloc _
  obtain ⟨Wc, hWc⟩ : ∃ Wc, Wc = ((w.alloc (.cells #[.slice o1 n1 k1, .slice o2 n2 k2, .slice o3 n3 k3] 28)).alloc (.cells #[.string key] 9)).alloc (.cells #[.slice none 0 0] 31) := ⟨_, rfl⟩
  have hsc : Wc.heap.size = w.heap.size + 3 := by rw [hWc]; simp
  rw [← hWc] at hW0
  have bc : C3 W0 (w.heap.size + 3) (.slice o1 n1 k1) (.slice o2 n2 k2) (.slice o3 n3 k3) := by
    rw [hW0, ← hsc]
    exact ((C3.new Wc _ _ _).below ((Below.refl _ _).alloc (Nat.le_refl _) _)).below ((Below.refl _ _).alloc (Nat.le_refl _) _)
  have bT : Boxed W0 (w.heap.size + 4) 23 (.int .i64 t) := by
    rw [hW0]
    have := Boxed.new (Wc.alloc (.cells #[.slice o1 n1 k1, .slice o2 n2 k2, .slice o3 n3 k3] 28)) 23 (.int .i64 t)
    rw [World.size_alloc, hsc] at this
    exact this.alloc _
  have bp : Boxed W0 (w.heap.size + 5) 3 (.int .i64 phys) := by
    rw [hW0]
    have := Boxed.new ((Wc.alloc (.cells #[.slice o1 n1 k1, .slice o2 n2 k2, .slice o3 n3 k3] 28)).alloc (.cells #[.int .i64 t] 23)) 3 (.int .i64 phys)
    rw [World.size_alloc, World.size_alloc, hsc] at this
    exact this
  have hIs : IsC c (.agg #[.slice o1 n1 k1, .slice o2 n2 k2, .slice o3 n3 k3]) W0 := (HHL.out.below hb0).is
  clear hW0 hWc hsc cR
  have hBs : ∀ B ∈ [w.heap.size + 2], B < W0.heap.size := by intro B hB; simp at hB; omega
  refine wpIn_rangeFunc_ownH rfl (by omega) (gf := 103) (lb := #[.pointer (some ⟨w.heap.size + 3, 0, none⟩), .pointer (some ⟨w.heap.size + 4, 0, none⟩), .pointer (some ⟨w.heap.size + 5, 0, none⟩)]) rfl trivial (enters_of Tryz.func103 (by kernel_rfl) rfl)
    (rows_stops _ (by omega) (w.heap.size + 3) (w.heap.size + 4) (w.heap.size + 5) [w.heap.size + 2] c m o1 o2 o3 n1 k1 n2 k2 n3 k3 t phys L hL hG hm W0 bc bT bp hIs (fun B hB => by
      obtain rfl : B = w.heap.size + 2 := by simpa using hB
      exact ⟨by omega, by omega, fun i hi => by rw [blk_box bo] at hi; cases hi⟩)) KV.trans (fun W l o o' hl hW ho _ => KV.put hBs W l o o' hl hW ho) (Below.refl _ _) (fun _ => rfl)
    (fun pre W => CollG W0.heap.size (w.heap.size + 2) (w.heap.size + 1) key pre W ∧ Below w.heap.size W0 W)
    (fun c pre W => False)
    (OwnFrom.and (Own.from (collG_own _ _ _ _) _) (ownFrom_below (by omega) (by omega)))
    (fun c => Own.from (fun s A B row hs hg hr => hs) _)
    ⟨⟨⟨_, bo, World.ownsRow_nil _ _ _ _⟩, bf⟩, Below.refl _ _⟩
    (fun x a' W => ∃ q, RwAt W q x ∧ a' = { tmps := #[.agg #[.slice o1 n1 k1, .slice o2 n2 k2, .slice o3 n3 k3], .int .i64 t, .string key, .int .i64 phys, .pointer (some ⟨w.heap.size, 0, none⟩), undef, .pointer (some ⟨w.heap.size + 1, 0, none⟩), undef, .slice none 0 0, .pointer (some ⟨w.heap.size + 2, 0, none⟩), .pointer (some ⟨q, 0, none⟩), .agg #[.slice o1 n1 k1, .slice o2 n2 k2, .slice o3 n3 k3], .int .i64 t, .int .i64 phys, .func (.func 103) #[] #[.pointer (some ⟨w.heap.size + 3, 0, none⟩), .pointer (some ⟨w.heap.size + 4, 0, none⟩), .pointer (some ⟨w.heap.size + 5, 0, none⟩)], vRw x, undef, undef, undef, undef, undef, undef, undef, undef, undef], defers := [] })
    (fun x a' X Y row _ hs hgr hr => by obtain ⟨q, e1, e2⟩ := hs; exact ⟨q, rwAt_own e1 hgr (fun r e => (hr r e).2), e2⟩)
    ?assign ?body ?done ?stop
  case assign =>
    rintro l pre x W K ⟨⟨⟨vo, c1, c2⟩, c3⟩, hB⟩ hK
    have hs := hB.size
    obtain ⟨xkey, xval, ⟨xp, xl, xw⟩⟩ := x
    unfold vRw
    simp only [] at hK ⊢
    gi_wp2
    exact hK _ _ ((KeepsOthers.alloc _ _).from _) (kv_below (fun B hB => by have := hBs B hB; omega) ((Below.refl _ _).alloc (Nat.le_refl _) _)) ⟨⟨⟨vo, c1.alloc _, c2.alloc _⟩, c3.alloc _⟩, hB.alloc (by omega) _⟩ ⟨W.heap.size, World.alloc_heap_new W _, rfl⟩
  case body =>
    rintro l pre x a' W hl _ ⟨⟨⟨vo, c1, c2⟩, c3⟩, hB⟩ ⟨q, hq, rfl⟩ hlt
    have hs := hB.size
    have hql := hq.lt
    obtain ⟨d0, d1, d2, d3, d4⟩ := hq.cells
    have g1 := c1.cell
    have g3 := c3.cell
    have hHN := HHLN.out
    have hkn : (pre.filter fun x => x.key.toList == key.toList).length ≤ pre.length := List.length_filter_le _ _
    obtain ⟨k, hk⟩ : ∃ k : Nat, k = (pre.filter fun x => x.key.toList == key.toList).length := ⟨_, rfl⟩
    rw [← hk] at c2 hkn
    have HK2 := Lib.hid hk
    have R1 := Lib.hid c2
    have C1 := Lib.hid c1
    have C34 := Lib.hid c3
    cases hfr : x.key.toList == key.toList
    · have HFI := Lib.hid (show ((pre ++ [x]).filter fun x => x.key.toList == key.toList) = (pre.filter fun x => x.key.toList == key.toList) by rw [List.filter_append, List.filter_cons, hfr]; simp)
      clear hk c2 c1 hq c3
      gi_wp2
      exact ⟨KeepsFrom.refl _ _, KV.refl _ _ _, ⟨⟨vo, C1.out, by rw [HFI.out, ← HK2.out]; exact R1.out⟩, C34.out⟩, hB⟩
    · have HFI := Lib.hid (show ((pre ++ [x]).filter fun x => x.key.toList == key.toList) = (pre.filter fun x => x.key.toList == key.toList) ++ [x] by rw [List.filter_append, List.filter_cons, hfr]; simp)
      clear hk c2 c1 hq c3
      gi_wp2_with (gi_at_builtin; refine wpListIn_append_own_at _ rfl (.tmp 20) (.tmp 22) 31 rfl W0.heap.size 100 i0 zeroRw 5 56 Tryz.underlying31 HI.out HZ0.out HZ1.out HZ2.out rfl (by decide) vo _ _ rfl (R1.out.alloc _) ⟨_, 0, none⟩ 1 1 (enRw x) rfl rfl (new_cells _ (enRw x) _) (enRw_one x) (by unfold maxLen; omega) (by omega) (by simp; omega) ?_; intro v' w1 hown1 hgrow1 hnil1 hat1; obtain ⟨ao1, cap1, rfl⟩ := row_form hown1; have A0 := scan_append (n₀ := w.heap.size) C1.out R1.out (by omega) (by omega) (by omega) C34.out C34.out (by omega) (by omega) hown1 hgrow1 hat1; have A := Lib.hid A0.2; have k1 := A0.1.cell; have k2 := A0.1.frozen; clear A0 hown1 hgrow1 hat1 hnil1)
      refine ⟨A.out.2.2.1.from _, A.out.2.2.2.2.1, ⟨⟨_, A.out.1, ?_⟩, A.out.2.2.2.2.2.1⟩, hB.trans A.out.2.2.2.1⟩
      rw [HFI.out, List.length_append, List.flatMap_append, List.flatMap_singleton, ← HK2.out]
      exact A.out.2.1
  case done =>
    rintro D ys W hD rfl ⟨⟨⟨vo, c1, c2⟩, c3⟩, hB⟩ hK
    have g1 := c1.cell
    have HE := Lib.hid (show Q = ys.filter fun y => y.key.toList == key.toList from HQ.out)
    have R := Lib.hid c2
    clear c2 c3
    gi_wp2
    refine ⟨by simp, .inl ⟨_, _, rfl, run_takeDeferred hK, ?_⟩⟩
    exact ⟨_, results_tmp rfl _ _ _, vo, rfl, by rw [HE.out]; exact Lst.of_owns enRw_len (by decide) (ownsRow_putObj R.out (.deferred none) hK rfl), hb0.trans (hB.trans (belowK_b (w := w) (Nat.le_refl _) W D _ _ (by omega) hK rfl rfl))⟩
  case stop =>
    rintro D c pre W hD ⟨j, hj, hpre⟩ hc hK
    exact hc.elim
end Go.Proofs.YtmfhmcegmeinnaaGreatDoor.Mut
