/- The walk of view.Scan (layer 9): the values of the keys from one up to ahead of another one. -/
import Derived.Test.YtmfhmcegmeinnaaGreatDoorViewIter
import Derived.Maps.OwnIn
set_option linter.unusedSimpArgs false
set_option linter.unusedVariables false
namespace Go.Proofs.YtmfhmcegmeinnaaGreatDoor.Mut
open Go.RowKit Go.Sort Go.Shelf Go.Proofs.YtmfhmcegmeinnaaGreatDoor.Ord
set_option linter.unusedSectionVars false
variable [Inhabited Lim]

attribute [local go_sem] Oper.semAt_some

def scanF (c : Con) (t : Int) (from_ to_ : ByteArray) (phys : Int) : List Rw := ((shownF c t phys).filter (inB from_ to_)).map rwOf
/-- What is collected of what was gone through. -/
def CollS (β B Bf Bt : Nat) (from_ to_ : ByteArray) (pre : List Rw) (W : World) : Prop :=
  (∀ x ∈ pre, lessS x.key to_ = true) ∧ (∃ v, Boxed W B 31 v ∧ W.ownsRow β 100 5 v (pre.filter fun x => !lessS x.key from_).length ((pre.filter fun x => !lessS x.key from_).flatMap enRw)) ∧ Boxed W Bf 9 (.string from_) ∧ Boxed W Bt 9 (.string to_)
theorem collS_own (β B Bf Bt : Nat) (from_ to_ : ByteArray) : Own (CollS β B Bf Bt from_ to_) := by
  rintro s X Y row ⟨h0, ⟨v, h1, h2⟩, h3, h4⟩ hg hr
  exact ⟨h0, ⟨v, own_box h1 hg hr, own_row h2 hg hr⟩, own_box h3 hg hr, own_box h4 hg hr⟩
/-- A value lies at a place. -/
def RwAt (W : World) (q : Nat) (x : Rw) : Prop := W.heap[q]? = some (.cells (enRw x).toArray 100 (0, 0))
theorem RwAt.lt {W : World} {q : Nat} {x : Rw} (h : RwAt W q x) : q < W.heap.size := (Array.getElem?_eq_some_iff.1 h).1
theorem RwAt.cells {W : World} {q : Nat} {x : Rw} (h : RwAt W q x) : W.cell? ⟨q, 0, none⟩ = some (.string x.key) ∧ W.cell? ⟨q, 1, none⟩ = some (.string x.val) ∧ W.cell? ⟨q, 2, none⟩ = some (.int .i64 x.at_.p) ∧ W.cell? ⟨q, 3, none⟩ = some (.int .i64 x.at_.l) ∧ W.cell? ⟨q, 4, none⟩ = some (.int .i64 x.at_.w) := by
  refine ⟨?_, ?_, ?_, ?_, ?_⟩ <;> simp [World.cell?, show W.heap[q]? = _ from h, enRw]
theorem rwAt_own {X Y : World} {row : Option Nat} {q : Nat} {x : Rw} (h : RwAt X q x) (hg : X.grownBy Y row) (hr : ∀ r, row = some r → ∃ o : Obj, X.heap[r]? = some o ∧ o.isCells = false) : RwAt Y q x := by
  refine (hg.block q h.lt fun e => ?_).trans h
  obtain ⟨o, ho, hc⟩ := hr q e.symm
  rw [show X.heap[q]? = _ from h] at ho
  cases ho; cases hc
theorem cmpS_nn {a b : ByteArray} (h : lessS a b = false) : cmpS b a ≤ 0 := (le_less b a).2 h
/-- Values by keys: those up to ahead of a key are a beginning. -/
theorem scan_stop {L : List Rw} (hr : L.Pairwise fun a b => cmpS a.key b.key ≤ 0) (from_ to_ : ByteArray) (q : List Rw) (x : Rw) (r : List Rw) (e : L = q ++ x :: r) (hq : ∀ y ∈ q, lessS y.key to_ = true) (hx : lessS x.key to_ = false) :
    (L.filter fun y => !lessS y.key from_ && lessS y.key to_) = q.filter fun y => !lessS y.key from_ := by
  subst e
  obtain ⟨-, h2, -⟩ := List.pairwise_append.1 hr
  obtain ⟨h3, -⟩ := List.pairwise_cons.1 h2
  have hb : ∀ y ∈ x :: r, lessS y.key to_ = false := by
    intro y hy
    rcases List.mem_cons.1 hy with rfl | hy
    · exact hx
    · exact (le_less to_ y.key).1 (Tot.str.le_le (cmpS_nn hx) (h3 y hy))
  rw [List.filter_append]
  have e1 : ((x :: r).filter fun y => !lessS y.key from_ && lessS y.key to_) = [] := by
    rw [List.filter_eq_nil_iff]
    intro y hy
    rw [hb y hy]
    simp
  rw [e1, List.append_nil]
  exact List.filter_congr fun y hy => by rw [hq y hy, Bool.and_true]
theorem scan_all {L : List Rw} (from_ to_ : ByteArray) (hq : ∀ y ∈ L, lessS y.key to_ = true) : (L.filter fun y => !lessS y.key from_ && lessS y.key to_) = L.filter fun y => !lessS y.key from_ :=
  List.filter_congr fun y hy => by rw [hq y hy, Bool.and_true]
theorem shown_keys {c : Con} {n : Nat} (hG : Good c n) (t phys : Int) : ((shownF c t phys).map rwOf).Pairwise fun a b => cmpS a.key b.key ≤ 0 := by
  rw [List.pairwise_map]
  unfold shownF liveF
  refine List.Pairwise.filter _ ?_
  split
  · refine List.Pairwise.filter _ (hG.reps.rs.imp fun {a b} h => ?_)
    have h2 : ¬ cmpS b.key a.key < 0 := fun g => sibO.asymm h (sib_key g)
    exact (Tot.str.le_of).1 h2
  · exact List.Pairwise.filter _ (hG.reps.rc.imp fun {a b} h => Int.le_of_lt h)
theorem scanF_eq (c : Con) (t : Int) (from_ to_ : ByteArray) (phys : Int) : scanF c t from_ to_ phys = ((shownF c t phys).map rwOf).filter fun y => !lessS y.key from_ && lessS y.key to_ := by
  unfold scanF
  rw [List.filter_map]
  rfl
theorem enRw_at (w : World) (x : Rw) (t : TypeId) (H : Nat) (hH : w.heap.size = H) : ∀ j u, (enRw x)[j]? = some u → (w.alloc (.cells (enRw x).toArray t)).cell? ((⟨H, 0, none⟩ : Addr).add j) = some u := by
  subst hH
  exact new_cells w (enRw x) t

theorem scan_append {W w1 : World} {n₀ β B Bf Bt k m : Nat} {vo v' sf st : Value} {xs ys : List Value} {tmp : Obj} (hv : Boxed W B 31 vo) (hrow : W.ownsRow β 100 5 vo k xs) (hn : n₀ ≤ β) (hβ : β ≤ W.heap.size) (hB : n₀ ≤ B)
    (hf : Boxed W Bf 9 sf) (ht : Boxed W Bt 9 st) (hbf : Bf ≠ B) (hbt : Bt ≠ B) (hown : w1.ownsRow β 100 5 v' m ys) (hgrow : (W.alloc tmp).grownBy w1 vo.ownBlock) (hat : v'.ownBlock = vo.ownBlock ∨ v'.ownBlock = some (W.alloc tmp).heap.size) :
    Boxed w1 B 31 vo ∧ (Boxed (w1.setCell ⟨B, 0, none⟩ v') B 31 v' ∧ (w1.setCell ⟨B, 0, none⟩ v').ownsRow β 100 5 v' m ys ∧ KeepsOthers W (w1.setCell ⟨B, 0, none⟩ v') ∧ Below n₀ W (w1.setCell ⟨B, 0, none⟩ v') ∧ KV β [B] W (w1.setCell ⟨B, 0, none⟩ v') ∧
      Boxed (w1.setCell ⟨B, 0, none⟩ v') Bf 9 sf ∧ Boxed (w1.setCell ⟨B, 0, none⟩ v') Bt 9 st) := by
  obtain ⟨a1, a2, a3, a4, a5, _⟩ := appended (n₀ := n₀) hv (by decide) hrow hn hβ hB hown hgrow
  have hne : ∀ {b : Nat}, b ≠ B → some b ≠ some B := fun h e => h (Option.some.inj e)
  refine ⟨a1, a2, a3, a4, a5, kv_append hv a2 hgrow hat, ?_, ?_⟩
  · exact (((hf.alloc _).kept hgrow ((hf.alloc tmp).not_row (by decide) (hrow.alloc tmp)))).kept (grownBy_setCell' w1 B v') (hne hbf)
  · exact (((ht.alloc _).kept hgrow ((ht.alloc tmp).not_row (by decide) (hrow.alloc tmp)))).kept (grownBy_setCell' w1 B v') (hne hbt)

set_option maxRecDepth 100000 in
set_option maxHeartbeats 4000000 in
theorem scan_any (v : Value) (c : Con) (m : Nat) (t phys : Int) (from_ to_ : ByteArray) (w : World) (hv : IsC c v w) (hG : Good c m) (hm : m ≤ 100000) :
    Calls Tryz.prog 14 #[v, .int .i64 t, .string from_, .string to_, .int .i64 phys] w (RowW w (scanF c t from_ to_ phys)) := by
  obtain ⟨o1, n1, k1, o2, n2, k2, o3, n3, k3, rfl, hl⟩ := hv.form
  obtain ⟨L, hL⟩ : ∃ L, L = (shownF c t phys).map rwOf := ⟨_, rfl⟩
  have hkeys := shown_keys hG t phys
  rw [← hL] at hkeys
  have hQ := scanF_eq c t from_ to_ phys
  rw [← hL] at hQ
  have hLn : L.length ≤ 200000 := by
    have h1 := hG.okc.lens
    rw [hL, List.length_map]
    unfold shownF liveF
    have h2 := List.length_filter_le (fun m => seenB m phys)
    split
    · have := List.length_filter_le (fun m => !supF c m.key m.at_) c.sibs
      have := h2 (c.sibs.filter fun m => !supF c m.key m.at_)
      omega
    · have := List.length_filter_le (fun m => decide (m.table = t)) c.cells
      have := h2 (c.cells.filter fun m => decide (m.table = t))
      omega
  obtain ⟨Q, hQ0⟩ : ∃ Q, Q = scanF c t from_ to_ phys := ⟨_, rfl⟩
  rw [← hQ0] at hQ ⊢
  have HQ := Lib.hid hQ
  have HK := Lib.hid hkeys
  have HHL := Lib.hid hl
  have HHLN := Lib.hid hLn
  obtain ⟨i0, hi, hz0, hz1, hz2⟩ := info_parts info_Rw
  have HI := Lib.hid hi
  have HZ0 := Lib.hid hz0
  have HZ1 := Lib.hid hz1
  have HZ2 := Lib.hid hz2
  clear hi hz0 hz1 hz2 hkeys hQ hQ0 hv hl
  have cR := fun W => rows_in 4 (.slice o1 n1 k1) (.slice o2 n2 k2) (.slice o3 n3 k3) o1 o2 o3 n1 k1 n2 k2 n3 k3 t phys W
  refine (callsIn_wide (n := 5)).1 ?_
  refine callsIn_of_wp_marks Tryz.func14 rfl trivial ?_ rfl
  simp only [Tryz.ntmps14, List.size_toArray, List.length_cons, List.length_nil, Nat.reduceAdd, Nat.reduceSub, Array.replicate_succ, Array.replicate_zero, List.push_toArray, List.append_toArray, List.nil_append, List.cons_append]
  gi_wp2_with (refine ⟨trivial, ?_⟩; gi_at_call 55; refine (cR _).mono ?_; rintro e w' ⟨rfl, rfl⟩)
  obtain ⟨W0, hW0⟩ : ∃ W0, W0 = ((((((w.alloc (.cells #[.slice o1 n1 k1, .slice o2 n2 k2, .slice o3 n3 k3] 28)).alloc (.cells #[.string from_] 9)).alloc (.cells #[.string to_] 9)).alloc (.cells #[.slice none 0 0] 31)).alloc (.cells #[.slice o1 n1 k1, .slice o2 n2 k2, .slice o3 n3 k3] 28)).alloc (.cells #[.int .i64 t] 23)).alloc (.cells #[.int .i64 phys] 3) := ⟨_, rfl⟩
  rw [← hW0]
  have hs0 : W0.heap.size = w.heap.size + 7 := by rw [hW0]; simp
  have hb0 : Below w.heap.size w W0 := by
    rw [hW0]
    exact (((((((Below.refl _ w).alloc (Nat.le_refl _) _).alloc (by simp) _).alloc (by simp; omega) _).alloc (by simp; omega) _).alloc (by simp; omega) _).alloc (by simp; omega) _).alloc (by simp; omega) _
  have bf : Boxed W0 (w.heap.size + 1) 9 (.string from_) := by
    rw [hW0]
    have := Boxed.new (w.alloc (.cells #[.slice o1 n1 k1, .slice o2 n2 k2, .slice o3 n3 k3] 28)) 9 (.string from_)
    rw [World.size_alloc] at this
    exact ((((this.alloc _).alloc _).alloc _).alloc _).alloc _
  have bt : Boxed W0 (w.heap.size + 2) 9 (.string to_) := by
    rw [hW0]
    have := Boxed.new ((w.alloc (.cells #[.slice o1 n1 k1, .slice o2 n2 k2, .slice o3 n3 k3] 28)).alloc (.cells #[.string from_] 9)) 9 (.string to_)
    rw [World.size_alloc, World.size_alloc] at this
    exact (((this.alloc _).alloc _).alloc _).alloc _
  have bo : Boxed W0 (w.heap.size + 3) 31 (.slice none 0 0) := by
    rw [hW0]
    have := Boxed.new (((w.alloc (.cells #[.slice o1 n1 k1, .slice o2 n2 k2, .slice o3 n3 k3] 28)).alloc (.cells #[.string from_] 9)).alloc (.cells #[.string to_] 9)) 31 (.slice none 0 0)
    rw [World.size_alloc, World.size_alloc, World.size_alloc] at this
    exact ((this.alloc _).alloc _).alloc _
  obtain ⟨Wc, hWc⟩ : ∃ Wc, Wc = (((w.alloc (.cells #[.slice o1 n1 k1, .slice o2 n2 k2, .slice o3 n3 k3] 28)).alloc (.cells #[.string from_] 9)).alloc (.cells #[.string to_] 9)).alloc (.cells #[.slice none 0 0] 31) := ⟨_, rfl⟩
  have hsc : Wc.heap.size = w.heap.size + 4 := by rw [hWc]; simp
  rw [← hWc] at hW0
  have bc : C3 W0 (w.heap.size + 4) (.slice o1 n1 k1) (.slice o2 n2 k2) (.slice o3 n3 k3) := by
    rw [hW0, ← hsc]
    exact ((C3.new Wc _ _ _).below ((Below.refl _ _).alloc (Nat.le_refl _) _)).below ((Below.refl _ _).alloc (Nat.le_refl _) _)
  have bT : Boxed W0 (w.heap.size + 5) 23 (.int .i64 t) := by
    rw [hW0]
    have := Boxed.new (Wc.alloc (.cells #[.slice o1 n1 k1, .slice o2 n2 k2, .slice o3 n3 k3] 28)) 23 (.int .i64 t)
    rw [World.size_alloc, hsc] at this
    exact this.alloc _
  have bp : Boxed W0 (w.heap.size + 6) 3 (.int .i64 phys) := by
    rw [hW0]
    have := Boxed.new ((Wc.alloc (.cells #[.slice o1 n1 k1, .slice o2 n2 k2, .slice o3 n3 k3] 28)).alloc (.cells #[.int .i64 t] 23)) 3 (.int .i64 phys)
    rw [World.size_alloc, World.size_alloc, hsc] at this
    exact this
  have hIs : IsC c (.agg #[.slice o1 n1 k1, .slice o2 n2 k2, .slice o3 n3 k3]) W0 := (HHL.out.below hb0).is
  clear hW0 hWc hsc cR
  have hBs : ∀ B ∈ [w.heap.size + 3], B < W0.heap.size := by intro B hB; simp at hB; omega
  refine wpIn_rangeFunc_ownH rfl (by omega) (gf := 103) (lb := #[.pointer (some ⟨w.heap.size + 4, 0, none⟩), .pointer (some ⟨w.heap.size + 5, 0, none⟩), .pointer (some ⟨w.heap.size + 6, 0, none⟩)]) rfl trivial (enters_of Tryz.func103 (by kernel_rfl) rfl)
    (rows_stops _ (by omega) (w.heap.size + 4) (w.heap.size + 5) (w.heap.size + 6) [w.heap.size + 3] c m o1 o2 o3 n1 k1 n2 k2 n3 k3 t phys L hL hG hm W0 bc bT bp hIs (fun B hB => by
      obtain rfl : B = w.heap.size + 3 := by simpa using hB
      exact ⟨by omega, by omega, fun i hi => by rw [blk_box bo] at hi; cases hi⟩)) KV.trans (fun W l o o' hl hW ho _ => KV.put hBs W l o o' hl hW ho) (Below.refl _ _) (fun _ => rfl)
    (fun pre W => CollS W0.heap.size (w.heap.size + 3) (w.heap.size + 1) (w.heap.size + 2) from_ to_ pre W ∧ Below w.heap.size W0 W)
    (fun c pre W => c = .exit 0 ∧ (∃ q x, pre = q ++ [x] ∧ lessS x.key to_ = false ∧ CollS W0.heap.size (w.heap.size + 3) (w.heap.size + 1) (w.heap.size + 2) from_ to_ q W) ∧ Below w.heap.size W0 W)
    (OwnFrom.and (Own.from (collS_own _ _ _ _ _ _) _) (ownFrom_below (by omega) (by omega)))
    (fun c => OwnFrom.and (Own.from (fun s A B row hs hg hr => hs) _) (OwnFrom.and (Own.from (fun s A B row hs hg hr => by obtain ⟨q, x, e1, e2, e3⟩ := hs; exact ⟨q, x, e1, e2, collS_own _ _ _ _ _ _ _ _ _ _ e3 hg hr⟩) _) (ownFrom_below (by omega) (by omega))))
    ⟨⟨fun x hx => by simp at hx, ⟨_, bo, World.ownsRow_nil _ _ _ _⟩, bf, bt⟩, Below.refl _ _⟩
    (fun x a' W => ∃ q, RwAt W q x ∧ a' = { tmps := #[.agg #[.slice o1 n1 k1, .slice o2 n2 k2, .slice o3 n3 k3], .int .i64 t, .string from_, .string to_, .int .i64 phys, .pointer (some ⟨w.heap.size, 0, none⟩), undef, .pointer (some ⟨w.heap.size + 1, 0, none⟩), .pointer (some ⟨w.heap.size + 2, 0, none⟩), undef, .slice none 0 0, .pointer (some ⟨w.heap.size + 3, 0, none⟩), .pointer (some ⟨q, 0, none⟩), .agg #[.slice o1 n1 k1, .slice o2 n2 k2, .slice o3 n3 k3], .int .i64 t, .int .i64 phys, .func (.func 103) #[] #[.pointer (some ⟨w.heap.size + 4, 0, none⟩), .pointer (some ⟨w.heap.size + 5, 0, none⟩), .pointer (some ⟨w.heap.size + 6, 0, none⟩)], vRw x, undef, undef, undef, undef, undef, undef, undef, undef, undef, undef, undef, undef, undef], defers := [] })
    (fun x a' X Y row _ hs hgr hr => by obtain ⟨q, e1, e2⟩ := hs; exact ⟨q, rwAt_own e1 hgr (fun r e => (hr r e).2), e2⟩)
    ?assign ?body ?done ?stop
  case assign =>
    rintro l pre x W K ⟨⟨h0, ⟨vo, c1, c2⟩, c3, c4⟩, hB⟩ hK
    have hs := hB.size
    obtain ⟨xkey, xval, ⟨xp, xl, xw⟩⟩ := x
    unfold vRw
    simp only [] at hK ⊢
    gi_wp2
    exact hK _ _ ((KeepsOthers.alloc _ _).from _) (kv_below (fun B hB => by have := hBs B hB; omega) ((Below.refl _ _).alloc (Nat.le_refl _) _)) ⟨⟨h0, ⟨vo, c1.alloc _, c2.alloc _⟩, c3.alloc _, c4.alloc _⟩, hB.alloc (by omega) _⟩ ⟨W.heap.size, World.alloc_heap_new W _, rfl⟩
  case body =>
    rintro l pre x a' W hl _ ⟨⟨h0, ⟨vo, c1, c2⟩, c3, c4⟩, hB⟩ ⟨q, hq, rfl⟩ hlt
    have hs := hB.size
    have hql := hq.lt
    obtain ⟨d0, d1, d2, d3, d4⟩ := hq.cells
    have g1 := c1.cell
    have g3 := c3.cell
    have g4 := c4.cell
    have hHN := HHLN.out
    have hkn : (pre.filter fun x => !lessS x.key from_).length ≤ pre.length := List.length_filter_le _ _
    obtain ⟨k, hk⟩ : ∃ k : Nat, k = (pre.filter fun x => !lessS x.key from_).length := ⟨_, rfl⟩
    rw [← hk] at c2 hkn
    have HK2 := Lib.hid hk
    have R1 := Lib.hid c2
    have C1 := Lib.hid c1
    have C34 := Lib.hid (And.intro c3 c4)
    have H0 := Lib.hid h0
    cases hto : lessS x.key to_
    · -- break
      have e1 : Op.bytesLess x.key.toList to_.toList = false := hto
      have HTO := Lib.hid hto
      clear hk c2 c1 hq h0 c3 c4 hto
      gi_wp2
      exact ⟨KeepsFrom.refl _ _, rfl, ⟨pre, x, rfl, HTO.out, H0.out, ⟨vo, C1.out, by rw [← HK2.out]; exact R1.out⟩, C34.out.1, C34.out.2⟩, hB⟩
    · have e1 : Op.bytesLess x.key.toList to_.toList = true := hto
      have HALL := Lib.hid (show ∀ y ∈ pre ++ [x], lessS y.key to_ = true from fun y hy => by
        rcases List.mem_append.1 hy with g | g
        · exact h0 y g
        · rw [List.mem_singleton.1 g]; exact hto)
      cases hfr : lessS x.key from_
      · have e2 : Op.bytesLess x.key.toList from_.toList = false := hfr
        have HFI := Lib.hid (show ((pre ++ [x]).filter fun x => !lessS x.key from_) = (pre.filter fun x => !lessS x.key from_) ++ [x] by rw [List.filter_append]; simp [hfr])
        clear hk c2 c1 hq h0 c3 c4 hto hfr
        gi_wp2_with (gi_at_builtin; refine wpListIn_append_own_at _ rfl (.tmp 26) (.tmp 28) 31 rfl W0.heap.size 100 i0 zeroRw 5 56 Tryz.underlying31 HI.out HZ0.out HZ1.out HZ2.out rfl (by decide) vo _ _ rfl (R1.out.alloc _) ⟨_, 0, none⟩ 1 1 (enRw x) rfl rfl (new_cells _ (enRw x) _) (enRw_one x) (by unfold maxLen; omega) (by omega) (by simp; omega) ?_; intro v' w1 hown1 hgrow1 hnil1 hat1; obtain ⟨ao1, cap1, rfl⟩ := row_form hown1; have A0 := scan_append (n₀ := w.heap.size) C1.out R1.out (by omega) (by omega) (by omega) C34.out.1 C34.out.2 (by omega) (by omega) hown1 hgrow1 hat1; have A := Lib.hid A0.2; have k1 := A0.1.cell; have k2 := A0.1.frozen; clear A0 hown1 hgrow1 hat1 hnil1)
        refine ⟨A.out.2.2.1.from _, A.out.2.2.2.2.1, ⟨HALL.out, ⟨_, A.out.1, ?_⟩, A.out.2.2.2.2.2.1, A.out.2.2.2.2.2.2⟩, hB.trans A.out.2.2.2.1⟩
        rw [HFI.out, List.length_append, List.flatMap_append, List.flatMap_singleton, ← HK2.out]
        exact A.out.2.1
      · have e2 : Op.bytesLess x.key.toList from_.toList = true := hfr
        have HFI := Lib.hid (show ((pre ++ [x]).filter fun x => !lessS x.key from_) = (pre.filter fun x => !lessS x.key from_) by rw [List.filter_append]; simp [hfr])
        clear hk c2 c1 hq h0 c3 c4 hto hfr
        gi_wp2
        exact ⟨KeepsFrom.refl _ _, KV.refl _ _ _, ⟨HALL.out, ⟨vo, C1.out, by rw [HFI.out, ← HK2.out]; exact R1.out⟩, C34.out.1, C34.out.2⟩, hB⟩
  case done =>
    rintro D ys W hD rfl ⟨⟨h0, ⟨vo, c1, c2⟩, c3, c4⟩, hB⟩ hK
    have g1 := c1.cell
    have HE := Lib.hid (show Q = ys.filter fun y => !lessS y.key from_ by rw [HQ.out]; exact scan_all from_ to_ h0)
    have R := Lib.hid c2
    clear c2 c3 c4 h0
    gi_wp2
    refine ⟨by simp, .inl ⟨_, _, rfl, run_takeDeferred hK, ?_⟩⟩
    exact ⟨_, results_tmp rfl _ _ _, vo, rfl, by rw [HE.out]; exact Lst.of_owns enRw_len (by decide) (ownsRow_putObj R.out (.deferred none) hK rfl), hb0.trans (hB.trans (belowK_b (w := w) (Nat.le_refl _) W D _ _ (by omega) hK rfl rfl))⟩
  case stop =>
    rintro D c pre W hD ⟨j, hj, hpre⟩ ⟨rfl, ⟨q, x, e1, e2, h0, ⟨vo, c1, c2⟩, c3, c4⟩, hB⟩ hK
    have g1 := c1.cell
    have HE := Lib.hid (show Q = q.filter fun y => !lessS y.key from_ by
      rw [HQ.out]
      exact scan_stop HK.out from_ to_ q x (L.drop j) (by have h := (List.take_append_drop j L).symm; rw [← hpre, e1, List.append_assoc] at h; simpa using h) h0 e2)
    have R := Lib.hid c2
    clear c2 c3 c4 h0 e1 e2 hpre
    gi_wp2
    refine ⟨by simp, .inl ⟨_, _, rfl, run_takeDeferred hK, ?_⟩⟩
    exact ⟨_, results_tmp rfl _ _ _, vo, rfl, by rw [HE.out]; exact Lst.of_owns enRw_len (by decide) (ownsRow_putObj R.out (.deferred none) hK rfl), hb0.trans (hB.trans (belowK_b (w := w) (Nat.le_refl _) W D _ _ (by omega) hK rfl rfl))⟩
end Go.Proofs.YtmfhmcegmeinnaaGreatDoor.Mut
