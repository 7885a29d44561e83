/- Layer 18 (tier), the law: least, alive. PRINTED by wip/gentierlaw.py. -/
import Derived.Test.YtihfcohebgemdaaTierRounds
set_option linter.unusedSimpArgs false
set_option linter.unusedVariables false
namespace Go.Proofs.Ytihfcohebgemdaa.Tier
open Go.RowKit Go.Proofs.Ytihfcohebgemdaa.Ints Go.Proofs.Ytihfcohebgemdaa.Spare

/-- The size at a place. -/
def at_ (l : List Int) (y : Int) : Int := l.getD y.toNat 0
def leastF (l p : List Int) : Int := p.foldl (fun n y => min n (at_ l y)) (at_ l (p.headD 0))
theorem at_get {l : List Int} {k : Nat} {x : Int} (h : l[k]? = some x) : at_ l k = x := by
  unfold at_
  rw [List.getD_eq_getElem?_getD, Int.toNat_natCast, h]; rfl
theorem foldl_min (f : Int → Int) : ∀ (p : List Int) (a : Int), (p.foldl (fun n y => min n (f y)) a = a ∨ ∃ z ∈ p, p.foldl (fun n y => min n (f y)) a = f z)
  | [], a => Or.inl rfl
  | y :: p, a => by
    rw [List.foldl_cons]
    rcases foldl_min f p (min a (f y)) with h | ⟨z, hz, h⟩
    · rw [h]
      rcases Int.min_def a (f y) ▸ (by by_cases c : a ≤ f y <;> simp [c] : (if a ≤ f y then a else f y) = a ∨ (if a ≤ f y then a else f y) = f y) with q | q
      · exact Or.inl q
      · exact Or.inr ⟨y, by simp, q⟩
    · exact Or.inr ⟨z, by simp [hz], h⟩
theorem least_mem {l p : List Int} (hp : p ≠ []) : ∃ z ∈ p, leastF l p = at_ l z := by
  unfold leastF
  match p, hp with
  | a :: p, _ =>
    rcases foldl_min (at_ l) (a :: p) (at_ l ((a :: p).headD 0)) with h | h
    · exact ⟨a, by simp, h⟩
    · exact h
/-- None is more than twice as great as the least one. -/
theorem least_ok {l p : List Int} (h : PickI l p) (hl : ∀ x ∈ l, 1 ≤ x) {y : Int} (hy : y ∈ p) : at_ l y ≤ 2 * leastF l p := by
  obtain ⟨z, hz, e⟩ := least_mem (l := l) (List.ne_nil_of_mem hy)
  have h1 := h.like y hy z hz
  have hm := h.mem z hz
  have h2 : 1 ≤ at_ l z := by
    unfold at_
    have hlt : z.toNat < l.length := by omega
    rw [List.getD_eq_getElem?_getD, List.getElem?_eq_getElem hlt]
    exact hl _ (List.getElem_mem hlt)
  have e1 : ∀ y, sz l y = max (at_ l y) 0 := fun y => rfl
  rw [e1, e1] at h1
  rw [e]
  omega
theorem least_bd {l p : List Int} (hp : p ≠ []) (hm : ∀ y ∈ p, 0 ≤ y ∧ y < l.length) (hl : ∀ x ∈ l, 1 ≤ x ∧ x ≤ 1099511627776) : 1 ≤ leastF l p ∧ leastF l p ≤ 1099511627776 := by
  obtain ⟨z, hz, e⟩ := least_mem (l := l) hp
  have h := hm z hz
  rw [e]
  unfold at_
  have hlt : z.toNat < l.length := by omega
  rw [List.getD_eq_getElem?_getD, List.getElem?_eq_getElem hlt]
  exact hl _ (List.getElem_mem hlt)

set_option maxRecDepth 100000 in
set_option maxHeartbeats 4000000 in
theorem least_any (ao po : Option Addr) (ac pc : Nat) (l p : List Int) (w : World) (ha : IRow w (.slice ao l.length ac) l) (hp : IRow w (.slice po p.length pc) p) (hl : l.length ≤ 100) (hpl : p.length ≤ 100) (h0 : 0 < p.length) (hm : ∀ y ∈ p, 0 ≤ y ∧ y < l.length) :
    Calls Try.prog 9 #[.slice ao l.length ac, .slice po p.length pc] w fun e w' => e = .returned (.int .i64 (leastF l p)) ∧ w = w' := by
  have HA := Lib.hid ha
  have HP := Lib.hid hp
  have HM := Lib.hid hm
  clear ha hp hm
  obtain ⟨y, hy⟩ : ∃ y, p[0]? = some y := ⟨_, List.getElem?_eq_getElem h0⟩
  obtain ⟨pb, poff, rfl, hpb, p0⟩ := int_at HP.out hy
  rw [Nat.add_zero] at p0
  obtain ⟨y0, y1⟩ := HM.out y (List.mem_of_getElem? hy)
  have hhd : p.headD 0 = y := by
    cases p with
    | nil => simp at h0
    | cons a p => simp at hy; rw [← hy]; rfl
  obtain ⟨yn, rfl⟩ := Int.eq_ofNat_of_zero_le y0
  have hyn : yn < l.length := by omega
  obtain ⟨x, hx⟩ : ∃ x, l[yn]? = some x := ⟨_, List.getElem?_eq_getElem hyn⟩
  obtain ⟨lb, loff, rfl, hlb, l0⟩ := int_at HA.out hx
  have hax := at_get hx
  have HS := Lib.hid (show leastF l p = p.foldl (fun n y => min n (at_ l y)) x from by unfold leastF; rw [hhd, hax])
  rw [HS.out]
  clear hhd hax hy hx y0 y1
  go_enter Try.func9, Try.ntmps9
  go_wp2_with fail
  clear p0 l0
  go_loopw [5, 6] (fun nv iv wr => ∃ k : Nat, k ≤ p.length ∧ iv = .int .i64 k ∧ nv = .int .i64 ((p.take k).foldl (fun n y => min n (at_ l y)) x) ∧ wr = w) (fun _ iv _ => p.length - (intOf iv).toNat)
  case atStart => exact ⟨0, by omega, rfl, rfl, rfl⟩
  case round =>
    obtain ⟨k, hk, rfl, rfl, rfl⟩ := hrel
    by_cases hlt : k < p.length
    · obtain ⟨z, hz⟩ : ∃ z, p[k]? = some z := ⟨_, List.getElem?_eq_getElem hlt⟩
      obtain ⟨pb', poff', e1, hpb', p0⟩ := int_at HP.out hz
      cases e1
      obtain ⟨z0, z1⟩ := HM.out z (List.mem_of_getElem? hz)
      obtain ⟨zn, rfl⟩ := Int.eq_ofNat_of_zero_le z0
      have hzn : zn < l.length := by omega
      obtain ⟨v, hv⟩ : ∃ v, l[zn]? = some v := ⟨_, List.getElem?_eq_getElem hzn⟩
      obtain ⟨lb', loff', e2, hlb', l0⟩ := int_at HA.out hv
      cases e2
      have HT := Lib.hid (show (p.take (k + 1)).foldl (fun n y => min n (at_ l y)) x = min ((p.take k).foldl (fun n y => min n (at_ l y)) x) v from by rw [List.take_add_one, hz, Option.toList_some, List.foldl_append, ← at_get hv]; rfl)
      generalize (p.take k).foldl (fun n y => min n (at_ l y)) x = m at *
      clear hz hv z0 z1
      go_wp2_with fail
      go_roundw
      case rel => exact ⟨k + 1, by omega, by go_num, by rw [HT.out], trivial⟩
      case measure => simp [intOf]; omega
    · have hkn : k = p.length := by omega
      have HT := Lib.hid (show (p.take k).foldl (fun n y => min n (at_ l y)) x = p.foldl (fun n y => min n (at_ l y)) x from by rw [hkn, List.take_length])
      rw [HT.out]
      clear hkn
      go_wp2_with fail
      go_ret
      exact ⟨rfl, rfl⟩

theorem irow_new (w : World) (l : List Int) (vs : Array Value) (t : TypeId) (n H : Nat) (hv : vs = ⟨l.map (Value.int .i64)⟩) (hn : n = l.length) (hH : w.heap.size = H) (hl : l.length ≤ 1000) : IRow (w.alloc (.cells vs t)) (.slice (some ⟨H, 0, none⟩) n n) l := by
  subst hv hn hH
  refine ⟨_, _, rfl, Nat.le_refl _, by unfold maxLen; omega, Or.inr ⟨w.heap.size, 0, rfl, by simp, fun i x hi j hj => ?_⟩⟩
  obtain rfl : j = 0 := by omega
  have := new_cells w (l.map (Value.int .i64)) t i (.int .i64 x) (by rw [List.getElem?_map, hi]; rfl)
  rw [addr_add] at this
  rw [show 0 + i * 1 + 0 = 0 + i by omega]
  exact this
theorem exG : groups [5, 1, 2, 9] = [[1, 2], [0, 3]] := by decide +kernel
theorem exP : pickF [1, 1, 1, 1] = [0, 1, 2, 3] := by
  unfold pickF
  rw [show groups [1, 1, 1, 1] = [[0, 1, 2, 3]] from by decide +kernel, pickOf_take _ _ (by decide)]
  exact List.mergeSort_of_pairwise (by simp [leB])

set_option maxRecDepth 100000 in
set_option maxHeartbeats 4000000 in
theorem alive_any (w : World) : Calls Try.prog 11 #[] w fun e w' => e = .returned (.bool true) ∧ Below w.heap.size w w' := by
  go_enter Try.func11, Try.ntmps11
  go_wp2_with fail
  refine (groups_any (some ⟨w.heap.size, 0, none⟩) 4 [5, 1, 2, 9] _ (irow_new w [5, 1, 2, 9] _ _ 4 _ rfl rfl rfl (by decide)) (by decide) (by decide)).mono ?_
  rintro e w1 ⟨base, ov, V, rfl, hgs, hvm, hbase, hb1⟩
  rw [exG] at hvm
  obtain ⟨v1, v2, rfl⟩ : ∃ v1 v2, V = [(v1, [1, 2]), (v2, [0, 3])] := by
    match V, hvm with
    | [(a, x), (b, y)], h => simp at h; exact ⟨a, b, by rw [h.1, h.2]⟩
  obtain ⟨og, oc, rfl, ho1, ho2, ho3⟩ := own_some hgs.outer (by simp)
  obtain ⟨g1, c1, e1, _, hg1, _⟩ := hgs.has (p := (v1, [1, 2])) (by simp)
  obtain ⟨g2, c2, e2, _, hg2, _⟩ := hgs.has (p := (v2, [0, 3])) (by simp)
  simp only [] at e1 e2
  subst e1 e2
  have HF := Lib.hid (fun W' (hb : Below w1.heap.size w1 W') => show W'.cell? ⟨og, 0, none⟩ = some (.slice (some ⟨g1, 0, none⟩) 2 c1) ∧ W'.cell? ⟨og, 1, none⟩ = some (.slice (some ⟨g2, 0, none⟩) 2 c2) ∧ IRow W' (.slice (some ⟨g1, 0, none⟩) 2 c1) [1, 2] ∧ IRow W' (.slice (some ⟨g2, 0, none⟩) 2 c2) [0, 3] from by
    have hgs' := hgs.below hb
    refine ⟨?_, ?_, ?_, ?_⟩
    · rw [World.ownsRow.cellAt hgs'.outer 0 (by simp)]; rfl
    · rw [World.ownsRow.cellAt hgs'.outer 1 (by simp)]; rfl
    · exact Lst.of_owns (fun _ => rfl) (by decide) (hgs'.inner (_, [1, 2]) (by simp)).1
    · exact Lst.of_owns (fun _ => rfl) (by decide) (hgs'.inner (_, [0, 3]) (by simp)).1)
  have HB1 := Lib.hid (show Below w.heap.size w w1 from below_then ((Below.refl w.heap.size w).alloc (Nat.le_refl _) _) (Nat.le_refl _) hb1)
  obtain ⟨q0, q1, -, -⟩ := HF.out w1 (Below.refl _ _)
  clear hgs hvm hb1 hbase ho1 ho3
  go_wp2_with fail
  refine (equal_lit true _ _ _ _ [1, 2] [1, 2] _ (by decide) ((HF.out w1 (Below.refl _ _)).2.2.1.alloc _) (irow_new w1 [1, 2] _ _ 2 _ rfl rfl rfl (by decide)) (by decide) (by decide)).mono ?_
  rintro e w2 ⟨rfl, hb2⟩
  have HB2 := Lib.hid (show Below w1.heap.size w1 w2 from below_then ((Below.refl w1.heap.size w1).alloc (Nat.le_refl _) _) (Nat.le_refl _) hb2)
  have hs2 := HB2.out.size
  clear hb2 q0 q1
  obtain ⟨q0, q1, -, -⟩ := HF.out w2 HB2.out
  go_wp2_with fail
  refine (equal_lit true _ _ _ _ [0, 3] [0, 3] _ (by decide) ((HF.out w2 HB2.out).2.2.2.alloc _) (irow_new w2 [0, 3] _ _ 2 _ rfl rfl rfl (by decide)) (by decide) (by decide)).mono ?_
  rintro e w3 ⟨rfl, hb3⟩
  have HB3 := Lib.hid (show Below w2.heap.size w2 w3 from below_then ((Below.refl w2.heap.size w2).alloc (Nat.le_refl _) _) (Nat.le_refl _) hb3)
  clear hb3 q0 q1
  go_wp2_with fail
  refine (pick_any (some ⟨w3.heap.size, 0, none⟩) 4 [1, 1, 1, 1] _ (irow_new w3 [1, 1, 1, 1] _ _ 4 _ rfl rfl rfl (by decide)) (by decide) (by decide)).mono ?_
  rintro e w4 ⟨bo, bc, rfl, hr4, hb4⟩
  rw [exP] at hr4 ⊢
  have HR4 := Lib.hid hr4
  have HB4 := Lib.hid (show Below w3.heap.size w3 w4 from below_then ((Below.refl w3.heap.size w3).alloc (Nat.le_refl _) _) (Nat.le_refl _) hb4)
  clear hr4 hb4
  go_wp2_with fail
  refine (equal_lit true _ _ _ _ [0, 1, 2, 3] [0, 1, 2, 3] _ (by decide) (HR4.out.alloc _) (irow_new w4 [0, 1, 2, 3] _ _ 4 _ rfl rfl rfl (by decide)) (by decide) (by decide)).mono ?_
  rintro e w5 ⟨rfl, hb5⟩
  have HB5 := Lib.hid (show Below w4.heap.size w4 w5 from below_then ((Below.refl w4.heap.size w4).alloc (Nat.le_refl _) _) (Nat.le_refl _) hb5)
  clear hb5
  go_wp2_with fail
  go_ret
  exact ⟨rfl, below_then (below_then (below_then (below_then HB1.out (Nat.le_refl _) HB2.out) (Nat.le_refl _) HB3.out) (Nat.le_refl _) HB4.out) (Nat.le_refl _) HB5.out⟩
end Go.Proofs.Ytihfcohebgemdaa.Tier
