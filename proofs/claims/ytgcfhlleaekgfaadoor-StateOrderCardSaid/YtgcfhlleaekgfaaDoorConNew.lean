/- The walk of state.Content.Add (layer 8). PRINTED by wip/genconnew.py. -/
import Derived.Test.YtgcfhlleaekgfaaDoorConWipe
import Derived.Test.YtgcfhlleaekgfaaDoorConSib
namespace Go.Proofs.YtgcfhlleaekgfaaDoor.Mut
open Go.RowKit Go.Sort Go.Proofs.YtgcfhlleaekgfaaDoor.Ord

/-- A content comes back: what is left, with a mutation more, if it may be. -/
def AddQ (w : World) (S : Mu → Prop) (m : Mu) (n : Nat) (e : Ending) (w' : World) : Prop :=
  ∃ a b d c, e = .returned (.agg #[a, b, d]) ∧ Lies w' a b d c ∧ Reps (fun y => S y ∨ (y = m ∧ rightF m = true)) c ∧ Okc c (n + 1) ∧ RowKit.Below w.heap.size w w'
theorem Reads.slice {w : World} {v : Value} {l : List Mu} (h : Reads w v l) : ∃ ao n cap, v = .slice ao n cap := by
  obtain ⟨ao, cap, e, -⟩ := h.form
  exact ⟨ao, _, cap, e⟩
/-- A content's variable is none of the rows: what is written there leaves them. -/
def Plain3 (w w' : World) : Prop := w.heap.size ≤ w'.heap.size ∧ ∀ p v, w.cell? p = some v → (3 ≤ p.off ∨ ∀ ao n c, v ≠ Value.slice ao n c) → w'.cell? p = some v
theorem plain3 {w : World} {k : Nat} {ao bo dd : Option Addr} {an ac bn bc dn dc : Nat} (h : C3 w k (.slice ao an ac) (.slice bo bn bc) (.slice dd dn dc)) (a' b' d' : Value) : Plain3 w (((w.setCell ⟨k, 0, none⟩ a').setCell ⟨k, 1, none⟩ b').setCell ⟨k, 2, none⟩ d') := by
  refine ⟨by simp, ?_⟩
  rintro p v hv hp
  have n0 : (⟨k, 0, none⟩ : Addr) ≠ p := fun e => by
    subst e
    rw [h.c0] at hv
    rcases hp with hp | hp
    · simp at hp
    · exact hp _ _ _ (by injection hv with hv; exact hv.symm)
  have n1 : (⟨k, 1, none⟩ : Addr) ≠ p := fun e => by
    subst e
    rw [h.c1] at hv
    rcases hp with hp | hp
    · simp at hp
    · exact hp _ _ _ (by injection hv with hv; exact hv.symm)
  have n2 : (⟨k, 2, none⟩ : Addr) ≠ p := fun e => by
    subst e
    rw [h.c2] at hv
    rcases hp with hp | hp
    · simp at hp
    · exact hp _ _ _ (by injection hv with hv; exact hv.symm)
  rw [World.cell?_setCell_other (h := n2), World.cell?_setCell_other (h := n1), World.cell?_setCell_other (h := n0)]
  exact hv
theorem Lst.plain3 {α : Type} {sz : Nat} {en : α → List Value} {w w' : World} {v : Value} {l : List α} (h : Lst sz en w v l) (hp : Plain3 w w') (hl : ∀ x, (en x).length = sz) (hn : ∀ x j u, (en x)[j]? = some u → 3 ≤ j ∨ ∀ ao n c, u ≠ Value.slice ao n c) : Lst sz en w' v l := by
  obtain ⟨ao, cap, e, h1, h2, h3⟩ := h
  refine ⟨ao, cap, e, h1, h2, h3.imp id ?_⟩
  rintro ⟨b, off, e1, hb, hc⟩
  refine ⟨b, off, e1, Nat.lt_of_lt_of_le hb hp.1, fun i x hi j hj => ?_⟩
  have h4 := hc i x hi j hj
  rw [List.getElem?_eq_getElem (by rw [hl]; exact hj)] at h4 ⊢
  refine hp.2 _ _ h4 ((hn x j _ (List.getElem?_eq_getElem (by rw [hl]; exact hj))).imp (fun h => ?_) id)
  show 3 ≤ off + i * sz + j
  omega
theorem Over.plain3 {w w' : World} {x : Ro} (h : Over w x) (hp : Plain3 w w') : Over w' x := Lst.plain3 h hp enS_len (fun x j u hu => Or.inr fun ao n c e => by
  subst e
  unfold enS at hu
  rcases j with _ | _ | _ | j <;> simp at hu)
theorem Reads.plain3 {w w' : World} {v : Value} {l : List Mu} (h : Reads w v l) (hp : Plain3 w w') : Reads w' v l := by
  obtain ⟨R, e, hR⟩ := h
  refine ⟨R, e, Lst.plain3 hR.row hp enM_len ?_, fun x hx => (hR.over x hx).plain3 hp⟩
  intro x j u hu
  by_cases hj : 3 ≤ j
  · exact Or.inl hj
  · refine Or.inr fun ao n c e => ?_
    subst e
    unfold enM at hu
    rcases j with _ | _ | _ | j
    · simp at hu
    · simp at hu
    · simp at hu
    · omega
theorem Lies.plain3 {w w' : World} {a b d : Value} {c : Con} (h : Lies w a b d c) (hp : Plain3 w w') : Lies w' a b d c := ⟨h.cells.plain3 hp, h.wipes.plain3 hp, h.sibs.plain3 hp⟩
theorem over_own {w : World} {base : Nat} {m : Mu} {v : Value} (h : w.ownsRow base 31 3 v m.over.length (m.over.flatMap enS)) : Over w (m, v) := Lst.owned enS_len (by decide) rfl h

set_option maxHeartbeats 4000000 in
set_option maxRecDepth 100000 in
theorem add_any (a b d : Value) (c : Con) (S : Mu → Prop) (n : Nat) (x : Ro) (w : World) (hT : Tabs w) (hc : Lies w a b d c) (hR : Reps S c) (hO : Okc c n) (hn : n ≤ 100000) (hx : Over w x) (hs : Small x.1) :
    Calls Tryd.prog 11 #[.agg #[a, b, d], vM x] w (AddQ w S x.1 n) := by
  obtain ⟨ao, na, ac, rfl⟩ := hc.cells.slice
  obtain ⟨bo, nb, bc, rfl⟩ := hc.wipes.slice
  obtain ⟨dd, nd, dc, rfl⟩ := hc.sibs.slice
  obtain ⟨xo, xc, ex, -, -⟩ := Over.form hx
  obtain ⟨m, xv⟩ := x
  simp only [] at ex hs
  obtain ⟨xn, hxn⟩ : ∃ k, k = m.over.length := ⟨_, rfl⟩
  rw [← hxn] at ex
  subst ex
  clear hxn
  have HRt := Lib.hid (fun (W : World) (hW : RowKit.Below w.heap.size w W) => right_any (m, .slice xo xn xc) W (hT.below hW) (hx.below hW) hs.over hs.key hs.fin hs.val)
  have HCo := Lib.hid (fun (W : World) (hW : RowKit.Below w.heap.size w W) => copy_any (m, .slice xo xn xc) W (hx.below hW) hs.over)
  have HAd := Lib.hid (fun (W : World) (yo : Option Addr) (yn yc : Nat) (hW : RowKit.Below w.heap.size w W) (hv : Over W (m, .slice yo yn yc)) (hr : rightF m = true) (hk : isC m) => cell_at ao bo dd na ac nb bc nd dc c S n m yo yn yc W (hc.below hW) hR hO hn hv hr hk)
  have HAw := Lib.hid (fun (W : World) (yo : Option Addr) (yn yc : Nat) (hW : RowKit.Below w.heap.size w W) (hv : Over W (m, .slice yo yn yc)) (hr : rightF m = true) (hk : isW m) => wipe_at ao bo dd na ac nb bc nd dc c S n m yo yn yc W (hc.below hW) hR hO hn hv hr hk)
  have HAs := Lib.hid (fun (W : World) (yo : Option Addr) (yn yc : Nat) (hW : RowKit.Below w.heap.size w W) (hv : Over W (m, .slice yo yn yc)) (hr : rightF m = true) (hk : isS m) => sib_at ao bo dd na ac nb bc nd dc c S n m yo yn yc W (hc.below hW) hR hO hn hv hr hk)
  have hA := A0.of ((At.new (w.alloc (.cells #[.slice ao na ac, .slice bo nb bc, .slice dd nd dc] 25)) 34 (m, .slice xo xn xc)).below ((Below.refl _ _).alloc (by simp) (.cells #[.slice none 0 0, .slice none 0 0, .slice none 0 0] 25)))
  rw [World.size_alloc] at hA
  have hP := (((C3.new w (.slice ao na ac) (.slice bo nb bc) (.slice dd nd dc)).below ((Below.refl _ _).alloc (Nat.le_refl _) (.cells (enM (m, .slice xo xn xc)).toArray 34))).below ((Below.refl _ _).alloc (by simp) (.cells #[.slice none 0 0, .slice none 0 0, .slice none 0 0] 25)))
  have hT3 := C3.new ((w.alloc (.cells #[.slice ao na ac, .slice bo nb bc, .slice dd nd dc] 25)).alloc (.cells (enM (m, .slice xo xn xc)).toArray 34)) (.slice none 0 0) (.slice none 0 0) (.slice none 0 0)
  rw [World.size_alloc, World.size_alloc] at hT3
  have HP := Lib.hid hP
  have HT := Lib.hid hT3
  have HA := Lib.hid hA
  obtain ⟨Q, hQ⟩ : ∃ Q, Q = rightF m := ⟨_, rfl⟩
  rw [← hQ] at HRt
  have HQ := Lib.hid hQ
  have HL := Lib.hid hc
  have HR := Lib.hid hR
  have HO := Lib.hid hO
  clear hA hP hT3 hQ hc hR hO hx hs hT
  obtain ⟨at1, ak1, akey1, afin1, aval1, aex1, ⟨ap1, al1, aw1⟩, aov1⟩ := m
  unfold vM at HRt HCo HAd HAw HAs ⊢
  unfold enM at HA HP HT
  simp only [] at HA HP HT HRt HCo HAd HAw HAs ⊢
  go_enter Tryd.func11, Tryd.ntmps11
  go_wp2_with fail
  have hB := Lib.hid (((((Below.refl _ w).alloc (Nat.le_refl _) (.cells #[.slice ao na ac, .slice bo nb bc, .slice dd nd dc] 25)).alloc (by simp) (.cells #[.int .i64 at1, .int .i64 ak1, .string akey1, .string afin1, .string aval1, .int .i64 aex1, .int .i64 ap1, .int .i64 al1, .int .i64 aw1, .slice xo xn xc] 34))).alloc (by simp; omega) (.cells #[.slice none 0 0, .slice none 0 0, .slice none 0 0] 25))
  refine (HRt.out _ hB.out).mono ?_
  rintro e w1 ⟨rfl, hb⟩
  have HB1 := Lib.hid (below_then hB.out (Nat.le_refl _) hb)
  have HA1 := Lib.hid (HA.out.below hb)
  have HP1 := Lib.hid (HP.out.below hb)
  have HT1 := Lib.hid (HT.out.below hb)
  clear hb
  have hsz : w.heap.size + 1 + 1 < w1.heap.size := HT1.out.lt
  obtain ⟨-, p0, p1, p2, -⟩ := HP1.out
  cases Q
  · obtain ⟨tl, t0, t1, t2, f0, f1, f2⟩ := HT1.out
    go_wp2_with fail
    obtain ⟨-, e0, e1, e2, -⟩ := c3_put HT1.out (.slice ao na ac) (.slice bo nb bc) (.slice dd nd dc)
    refine bodyPost_ret (v := .agg #[.slice ao na ac, .slice bo nb bc, .slice dd nd dc]) (by simp [results, Tryd.f11, go_sem, e0, e1, e2]) rfl ?_
    have hb3 := c3_put_below HB1.out (k := w.heap.size + 1 + 1) (by omega) (.slice ao na ac) (.slice bo nb bc) (.slice dd nd dc)
    have hq := HQ.out
    exact ⟨_, _, _, c, rfl, HL.out.below hb3, HR.out.same (fun y => ⟨Or.inl, fun h => h.elim id fun h => by rw [← hq] at h; cases h.2⟩), HO.out.more (by omega), hb3⟩
  · obtain ⟨-, a0, a1, a2, a3, a4, a5, a6, a7, a8, a9⟩ := HA1.out
    simp only [] at a0 a1 a2 a3 a4 a5 a6 a7 a8 a9
    by_cases kt : at1 = 2
    · have HK := Lib.hid (show isS ⟨at1, ak1, akey1, afin1, aval1, aex1, ⟨ap1, al1, aw1⟩, aov1⟩ from kt)
      subst kt
      go_wp2_with fail
      go_region_law (first
        | (go_simp; go_at_call 20; (with_reducible refine (HCo.out _ (HB1.out.drew)).mono ?_); rintro e w2 ⟨v, he, ⟨yo, yc, rfl⟩, hown, hb2⟩; unfold vM at he; simp only [] at he; subst he; have B2 := below_then ((Below.refl w1.heap.size w1).drew) (Nat.le_refl _) hb2; obtain ⟨-, p0, p1, p2, -⟩ := HP1.out.below B2; have HV := Lib.hid (over_own hown); have HB2 := Lib.hid (below_then HB1.out (Nat.le_refl _) B2); have HT2 := Lib.hid (HT1.out.below B2); clear hown B2 hb2)
        | (go_simp; go_at_call 19; (with_reducible refine (HAs.out _ _ _ _ HB2.out HV.out HQ.out.symm HK.out).mono ?_); rintro e w3 ⟨va, vb, vd, c', rfl, hl, hr, ho, hb3⟩; obtain ⟨o1, m1, k1, hv1⟩ := hl.cells.slice; obtain ⟨o2, m2, k2, hv2⟩ := hl.wipes.slice; obtain ⟨o3, m3, k3, hv3⟩ := hl.sibs.slice; subst hv1 hv2 hv3; have HB3 := Lib.hid (below_then HB2.out (Nat.le_refl _) hb3); have HT3 := Lib.hid (HT2.out.below hb3); have HX := Lib.hid (And.intro hl (And.intro hr ho)); obtain ⟨tl, t0, t1, t2, f0, f1, f2⟩ := HT3.out; clear hl hr ho hb3))
      all_goals
        go_wp2_with fail
        obtain ⟨-, e0, e1, e2, -⟩ := c3_put HT3.out (.slice o1 m1 k1) (.slice o2 m2 k2) (.slice o3 m3 k3)
        refine bodyPost_ret (v := .agg #[.slice o1 m1 k1, .slice o2 m2 k2, .slice o3 m3 k3]) (by simp [results, Tryd.f11, go_sem, e0, e1, e2]) rfl ?_
        have hb3 := c3_put_below HB3.out (k := w.heap.size + 1 + 1) (by omega) (.slice o1 m1 k1) (.slice o2 m2 k2) (.slice o3 m3 k3)
        have hl := HX.out.1.plain3 (plain3 HT3.out (.slice o1 m1 k1) (.slice o2 m2 k2) (.slice o3 m3 k3))
        have hq := HQ.out.symm
        exact ⟨_, _, _, c', rfl, hl, HX.out.2.1.same (fun y => or_congr Iff.rfl ⟨fun h => ⟨h, hq⟩, fun h => h.1⟩), HX.out.2.2, hb3⟩
    · by_cases kw : ak1 = 3
      · have HK := Lib.hid (show isW ⟨at1, ak1, akey1, afin1, aval1, aex1, ⟨ap1, al1, aw1⟩, aov1⟩ from ⟨kt, kw⟩)
        subst kw
        go_wp2_with fail
        go_region_law (first
          | (go_simp; go_at_call 20; (with_reducible refine (HCo.out _ (HB1.out.drew)).mono ?_); rintro e w2 ⟨v, he, ⟨yo, yc, rfl⟩, hown, hb2⟩; unfold vM at he; simp only [] at he; subst he; have B2 := below_then ((Below.refl w1.heap.size w1).drew) (Nat.le_refl _) hb2; obtain ⟨-, p0, p1, p2, -⟩ := HP1.out.below B2; have HV := Lib.hid (over_own hown); have HB2 := Lib.hid (below_then HB1.out (Nat.le_refl _) B2); have HT2 := Lib.hid (HT1.out.below B2); clear hown B2 hb2)
          | (go_simp; go_at_call 21; (with_reducible refine (HAw.out _ _ _ _ HB2.out HV.out HQ.out.symm HK.out).mono ?_); rintro e w3 ⟨va, vb, vd, c', rfl, hl, hr, ho, hb3⟩; obtain ⟨o1, m1, k1, hv1⟩ := hl.cells.slice; obtain ⟨o2, m2, k2, hv2⟩ := hl.wipes.slice; obtain ⟨o3, m3, k3, hv3⟩ := hl.sibs.slice; subst hv1 hv2 hv3; have HB3 := Lib.hid (below_then HB2.out (Nat.le_refl _) hb3); have HT3 := Lib.hid (HT2.out.below hb3); have HX := Lib.hid (And.intro hl (And.intro hr ho)); obtain ⟨tl, t0, t1, t2, f0, f1, f2⟩ := HT3.out; clear hl hr ho hb3))
        all_goals
          go_wp2_with fail
          obtain ⟨-, e0, e1, e2, -⟩ := c3_put HT3.out (.slice o1 m1 k1) (.slice o2 m2 k2) (.slice o3 m3 k3)
          refine bodyPost_ret (v := .agg #[.slice o1 m1 k1, .slice o2 m2 k2, .slice o3 m3 k3]) (by simp [results, Tryd.f11, go_sem, e0, e1, e2]) rfl ?_
          have hb3 := c3_put_below HB3.out (k := w.heap.size + 1 + 1) (by omega) (.slice o1 m1 k1) (.slice o2 m2 k2) (.slice o3 m3 k3)
          have hl := HX.out.1.plain3 (plain3 HT3.out (.slice o1 m1 k1) (.slice o2 m2 k2) (.slice o3 m3 k3))
          have hq := HQ.out.symm
          exact ⟨_, _, _, c', rfl, hl, HX.out.2.1.same (fun y => or_congr Iff.rfl ⟨fun h => ⟨h, hq⟩, fun h => h.1⟩), HX.out.2.2, hb3⟩
      · have HK := Lib.hid (show isC ⟨at1, ak1, akey1, afin1, aval1, aex1, ⟨ap1, al1, aw1⟩, aov1⟩ from ⟨kt, kw⟩)
        go_wp2_with fail
        go_region_law (first
          | (go_simp; go_at_call 20; (with_reducible refine (HCo.out _ (HB1.out.drew)).mono ?_); rintro e w2 ⟨v, he, ⟨yo, yc, rfl⟩, hown, hb2⟩; unfold vM at he; simp only [] at he; subst he; have B2 := below_then ((Below.refl w1.heap.size w1).drew) (Nat.le_refl _) hb2; obtain ⟨-, p0, p1, p2, -⟩ := HP1.out.below B2; have HV := Lib.hid (over_own hown); have HB2 := Lib.hid (below_then HB1.out (Nat.le_refl _) B2); have HT2 := Lib.hid (HT1.out.below B2); clear hown B2 hb2)
          | (go_simp; go_at_call 22; (with_reducible refine (HAd.out _ _ _ _ HB2.out HV.out HQ.out.symm HK.out).mono ?_); rintro e w3 ⟨va, vb, vd, c', rfl, hl, hr, ho, hb3⟩; obtain ⟨o1, m1, k1, hv1⟩ := hl.cells.slice; obtain ⟨o2, m2, k2, hv2⟩ := hl.wipes.slice; obtain ⟨o3, m3, k3, hv3⟩ := hl.sibs.slice; subst hv1 hv2 hv3; have HB3 := Lib.hid (below_then HB2.out (Nat.le_refl _) hb3); have HT3 := Lib.hid (HT2.out.below hb3); have HX := Lib.hid (And.intro hl (And.intro hr ho)); obtain ⟨tl, t0, t1, t2, f0, f1, f2⟩ := HT3.out; clear hl hr ho hb3))
        all_goals
          go_wp2_with fail
          obtain ⟨-, e0, e1, e2, -⟩ := c3_put HT3.out (.slice o1 m1 k1) (.slice o2 m2 k2) (.slice o3 m3 k3)
          refine bodyPost_ret (v := .agg #[.slice o1 m1 k1, .slice o2 m2 k2, .slice o3 m3 k3]) (by simp [results, Tryd.f11, go_sem, e0, e1, e2]) rfl ?_
          have hb3 := c3_put_below HB3.out (k := w.heap.size + 1 + 1) (by omega) (.slice o1 m1 k1) (.slice o2 m2 k2) (.slice o3 m3 k3)
          have hl := HX.out.1.plain3 (plain3 HT3.out (.slice o1 m1 k1) (.slice o2 m2 k2) (.slice o3 m3 k3))
          have hq := HQ.out.symm
          exact ⟨_, _, _, c', rfl, hl, HX.out.2.1.same (fun y => or_congr Iff.rfl ⟨fun h => ⟨h, hq⟩, fun h => h.1⟩), HX.out.2.2, hb3⟩
end Go.Proofs.YtgcfhlleaekgfaaDoor.Mut
