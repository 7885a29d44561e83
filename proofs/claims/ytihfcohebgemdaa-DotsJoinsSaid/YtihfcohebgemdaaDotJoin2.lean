/- Layer 6 (dots): Join. PRINTED by wip/gendotjoin2.py. -/
import Derived.Shelf.SlSortCmp.NoneTotal
import Derived.Test.YtihfcohebgemdaaDotJoin
set_option linter.unusedSimpArgs false
set_option linter.unusedVariables false
namespace Go.Proofs.Ytihfcohebgemdaa.Dots
open Go.RowKit Go.Maps Go.Sort Go.Shelf Go.Proofs.Ytihfcohebgemdaa.Vec Go.Proofs.Ytihfcohebgemdaa.Spare Go.Proofs.Ytihfcohebgemdaa.RegInv

theorem sort_any (base : Nat) (v : Value) (R : List P) (w : World) (hown : w.ownsRow base 33 2 v R.length (R.flatMap enD)) (hn : R.length ≤ 1000000) :
    Calls Try.prog 47 #[v, .func (.func 43) #[] #[]] w (SortP base w v R) := by
  by_cases h0 : R.length = 0
  · obtain rfl : R = [] := List.eq_nil_of_length_eq_zero h0
    obtain ⟨ao, cap, rfl⟩ := row_form hown
    refine (AnyF.slices_SortFunc_none layDot ao cap _ w).mono ?_
    rintro e w' ⟨rfl, rfl⟩
    exact ⟨rfl, [], List.Perm.refl _, List.Pairwise.nil, hown, World.grownBy.refl _ _⟩
  · obtain ⟨g, cap, spare, rfl, -⟩ := own_whole hown (by omega)
    exact sort_some base g cap R w hown hn

theorem comp_spec : ∀ (R : List P) (p : Option P), R.Pairwise (fun a b => ¬ lt b a) → (∀ q, p = some q → ∀ x ∈ R, ¬ lt x q) →
    Str (compG p R) ∧ (∀ x ∈ compG p R, ∀ q, p = some q → lt q x) ∧ ∀ x, x ∈ compG p R ↔ x ∈ R ∧ p ≠ some x
  | [], p, _, _ => ⟨List.Pairwise.nil, (fun x hx => by simp [compG] at hx), (fun x => by simp [compG])⟩
  | x :: t, p, hs, hp => by
    have hc := List.pairwise_cons.1 hs
    obtain ⟨i1, i2, i3⟩ := comp_spec t (some x) hc.2 (fun q e y hy => by cases e; exact hc.1 y hy)
    unfold compG
    by_cases e : p = some x
    · rw [if_pos e]
      refine ⟨i1, fun y hy q hq => ?_, fun y => ?_⟩
      · rw [e] at hq
        cases hq
        exact i2 y hy x rfl
      · rw [i3 y, e]
        constructor
        · rintro ⟨h1, h2⟩
          exact ⟨List.mem_cons_of_mem _ h1, h2⟩
        · rintro ⟨h1, h2⟩
          rcases List.mem_cons.1 h1 with e2 | e2
          · exact (h2 (by rw [e2])).elim
          · exact ⟨e2, h2⟩
    · rw [if_neg e]
      have hlt : ∀ q, p = some q → lt q x := fun q hq => by
        rcases lt_tri q x with h | h | h
        · exact h
        · exact (e (by rw [hq, h])).elim
        · exact (hp q hq x (by simp) h).elim
      refine ⟨List.pairwise_cons.2 ⟨fun y hy => i2 y hy x rfl, i1⟩, fun y hy q hq => ?_, fun y => ?_⟩
      · rcases List.mem_cons.1 hy with e2 | e2
        · rw [e2]; exact hlt q hq
        · exact lt_trans (hlt q hq) (i2 y e2 x rfl)
      · rw [List.mem_cons, i3 y, List.mem_cons]
        constructor
        · rintro (h | ⟨h1, h2⟩)
          · exact ⟨Or.inl h, by rw [h]; exact e⟩
          · refine ⟨Or.inr h1, fun e3 => ?_⟩
            have h3 := hlt y e3
            exact hc.1 y h1 h3
        · rintro ⟨h | h, h2⟩
          · exact Or.inl h
          · by_cases h3 : y = x
            · exact Or.inl h3
            · exact Or.inr ⟨h, fun e4 => h3 (by injection e4 with e4; exact e4.symm)⟩
theorem comp_len : ∀ (R : List P) (p : Option P), (compG p R).length ≤ R.length
  | [], p => Nat.le_refl _
  | x :: t, p => by
    have := comp_len t (some x)
    unfold compG
    split <;> simp <;> omega
/-- Sorted, each once: just the same writes, rising. -/
theorem comp_sorted {R R' : List P} (hp : R'.Perm R) (hs : R'.Pairwise fun a b => ¬ lt b a) : Str (compG none R') ∧ ∀ x, x ∈ compG none R' ↔ x ∈ R := by
  obtain ⟨h1, -, h3⟩ := comp_spec R' none hs (fun q e => by cases e)
  exact ⟨h1, fun x => by rw [h3 x, hp.mem_iff]; simp⟩
theorem inK_join {A B : List P} (ha : Vec.Good A) (hb : Vec.Good B) (x : P) : inK (joinF A B) x ↔ inK A x ∨ inK B x := by
  unfold inK
  rw [joinF_get B ha hb x.who]
  constructor
  · rintro ⟨h1, h2⟩
    by_cases c : x.n ≤ getF A x.who
    · exact Or.inl ⟨h1, c⟩
    · exact Or.inr ⟨h1, by omega⟩
  · rintro (⟨h1, h2⟩ | ⟨h1, h2⟩)
    · exact ⟨h1, by omega⟩
    · exact ⟨h1, by omega⟩
/-- A vector that came back. -/
def MapT (W : World) (v : Value) (K : List P) : Prop := ∃ b, v = .map (some b) ∧ VMap W b K
theorem MapT.below {W W' : World} {v : Value} {K : List P} (h : MapT W v K) (hb : Below W.heap.size W W') : MapT W' v K := by
  obtain ⟨b, e, h1⟩ := h
  exact ⟨b, e, VMap.below h1 hb⟩
theorem MapT.grown {W W' : World} {v : Value} {K : List P} {r : Option Nat} (h : MapT W v K) (hg : W.grownBy W' r) (hr : ∀ j, r = some j → ∃ cs, W.heap[j]? = some (.cells cs 33 (0, 0))) : MapT W' v K := by
  obtain ⟨b, e, h1⟩ := h
  refine ⟨b, e, World.ownsMap.kept h1 hg (fun e2 => ?_)⟩
  obtain ⟨cs, hc⟩ := hr b e2.symm
  obtain ⟨es, clock, hm, _⟩ := h1
  rw [hm] at hc
  cases hc
/-- A new variable for a set. -/
def VarT (base : Nat) (W : World) (v : Value) : Prop := ∃ k, v = .pointer (some ⟨k, 0, none⟩) ∧ W.heap[k]? = some (.cells #[.map none, .slice none 0 0] 40 (0, 0)) ∧ base ≤ k
theorem VarT.below {base : Nat} {W W' : World} {v : Value} (h : VarT base W v) (hb : Below W.heap.size W W') : VarT base W' v := by
  obtain ⟨k, e, h1, h2⟩ := h
  exact ⟨k, e, (hb.block k (Array.getElem?_eq_some_iff.1 h1).1).trans h1, h2⟩
theorem VarT.grown {base : Nat} {W W' : World} {v : Value} {r : Option Nat} (h : VarT base W v) (hg : W.grownBy W' r) (hr : ∀ j, r = some j → ∃ cs, W.heap[j]? = some (.cells cs 33 (0, 0))) : VarT base W' v := by
  obtain ⟨k, e, h1, h2⟩ := h
  refine ⟨k, e, (hg.block k (Array.getElem?_eq_some_iff.1 h1).1 (fun e2 => ?_)).trans h1, h2⟩
  obtain ⟨cs, hc⟩ := hr k e2.symm
  rw [h1] at hc
  injection hc with hc
  injection hc with h1 h2
  exact absurd h2 (by decide)
theorem row_kind {W : World} {base : Nat} {v : Value} {n : Nat} {xs : List Value} (h : W.ownsRow base 33 2 v n xs) : ∀ j, v.ownBlock = some j → ∃ cs, W.heap[j]? = some (.cells cs 33 (0, 0)) := by
  intro j hj
  rcases h.2 with ⟨rfl, _⟩ | ⟨g, cap, cur, rfl, _, h3, _⟩
  · simp [Value.ownBlock] at hj
  · simp [Value.ownBlock] at hj
    subst hj
    exact ⟨cur, h3⟩
def sMapT (K : List P) : RSpec := sOne (fun v W => MapT W v K) (fun _ _ _ h hb => h.below hb)
def sVarT (base : Nat) : RSpec := sOne (fun v W => VarT base W v) (fun _ _ _ h hb => h.below hb)
theorem VarT.new {base : Nat} (W : World) (hb : base ≤ W.heap.size) : VarT base (W.alloc (.cells #[.map none, .slice none 0 0] 40)) (.pointer (some ⟨W.heap.size, 0, none⟩)) := ⟨_, rfl, heap_alloc_new W _, hb⟩

theorem nice_join {A B : List P} (hA : Nice A) (hB : Nice B) (hl : A.length + B.length ≤ 250) : Nice (setOf (A ++ B)) := nice_setOf (fun x hx => by
  rcases List.mem_append.1 hx with e | e
  · exact hA.sm x e
  · exact hB.sm x e) (by rw [List.length_append]; exact hl)
theorem join_mem {A B : List P} (hA : Nice A) (hB : Nice B) (x : P) : x ∈ setOf (A ++ B) ↔ inK (joinF (kn A) (kn B)) x ∨ x ∈ rs A ++ rs B := by
  rw [mem_setOf, inK_join hA.kn.1 hB.kn.1, List.mem_append, List.mem_append, mem_parts hA.fine x, mem_parts hB.fine x]
  constructor
  · rintro ⟨(h | h) | (h | h), -⟩
    · exact Or.inl (Or.inl h)
    · exact Or.inr (Or.inl h)
    · exact Or.inl (Or.inr h)
    · exact Or.inr (Or.inr h)
  · intro h
    refine ⟨?_, ?_⟩
    · rcases h with (h | h) | (h | h)
      · exact Or.inl (Or.inl h)
      · exact Or.inr (Or.inl h)
      · exact Or.inl (Or.inr h)
      · exact Or.inr (Or.inr h)
    · rcases h with (h | h) | (h | h)
      · exact h.1
      · exact h.1
      · exact hA.rs.1.ok x h
      · exact hB.rs.1.ok x h

set_option maxRecDepth 100000 in
set_option maxHeartbeats 8000000 in
theorem dots_join_any (va vb : Value) (A B : List P) (w : World) (hva : SAt w va A) (hvb : SAt w vb B) (hA : Nice A) (hB : Nice B) (hl : A.length + B.length ≤ 250) :
    Calls Try.prog 20 #[va, vb] w (SetP w (setOf (A ++ B))) := by
  obtain ⟨oa, ao, ac, rfl, ha1, ha2⟩ := hva
  obtain ⟨ob, bo, bc, rfl, hb1, hb2⟩ := hvb
  have HJN := Lib.hid (fun w' (hb : Below w.heap.size w w') => join_any oa ob (kn A) (kn B) w' hA.kn.1 hA.kn.2.1 hB.kn.1 hB.kn.2.1 (ha1.below hb) (hb1.below hb) (by have := hA.kn.2.2; omega) (by have := hB.kn.2.2; omega))
  have HCL := Lib.hid (fun w' (hb : Below w.heap.size w w') => clone_any _ (rs A) w' (Lst.below ha2 hb) (by have := hA.rs.2.2; omega))
  have HSB := Lib.hid (fun w' (hb : Below w.heap.size w w') => Mut.lst_src enD_len (by decide) (Lst.below hb2 hb))
  have HN := Lib.hid (And.intro hA hB)
  have lA := Nat.le_trans (rs_len A) (show A.length ≤ A.length from Nat.le_refl _)
  have lB := rs_len B
  have lK := joinF_len (kn A) (kn B)
  have lKA := kn_len A
  have lKB := kn_len B
  obtain ⟨i0, hi, hz0, hz1, hz2⟩ := info_parts_D
  have HI := Lib.hid (And.intro hi (And.intro hz0 (And.intro hz1 hz2)))
  obtain ⟨na, hna⟩ : ∃ n, n = (rs A).length := ⟨_, rfl⟩
  obtain ⟨nb, hnb⟩ : ∃ n, n = (rs B).length := ⟨_, rfl⟩
  rw [← hna] at lA HCL ⊢
  rw [← hnb] at lB HSB ⊢
  have HNN := Lib.hid (And.intro hna hnb)
  have hnn : na + nb ≤ 250 := by omega
  have HLK := Lib.hid (show (joinF (kn A) (kn B)).length ≤ 400 from by omega)
  clear hi hz0 hz1 hz2 ha1 ha2 hb1 hb2 hA hB hna hnb lA lB lK lKA lKB
  go_enter Try.func20, Try.ntmps20
  go_upto_region 1 with fail
  obtain ⟨W1, hW1⟩ : ∃ W, W = (((w.alloc (.cells #[.map oa, .slice ao na ac] 40)).alloc (.cells #[.map ob, .slice bo nb bc] 40)).alloc (.cells #[.map none, .slice none 0 0] 40)) := ⟨_, rfl⟩
  have c0 : W1.cell? ⟨w.heap.size, 0, none⟩ = some (.map oa) := by rw [hW1]; go_simp
  have c1 : W1.cell? ⟨w.heap.size, 1, none⟩ = some (.slice ao na ac) := by rw [hW1]; go_simp
  have c2 : W1.cell? ⟨w.heap.size + 1, 0, none⟩ = some (.map ob) := by rw [hW1]; go_simp
  have c3 : W1.cell? ⟨w.heap.size + 1, 1, none⟩ = some (.slice bo nb bc) := by rw [hW1]; go_simp
  have c4 : W1.heap[w.heap.size + 2]? = some (.cells #[.map none, .slice none 0 0] 40 (0, 0)) := by
    rw [hW1]
    have := heap_alloc_new ((w.alloc (.cells #[.map oa, .slice ao na ac] 40)).alloc (.cells #[.map ob, .slice bo nb bc] 40)) (.cells #[.map none, .slice none 0 0] 40)
    simpa using this
  have hs1 : W1.heap.size = w.heap.size + 3 := by rw [hW1]; simp
  have hb1 : Below w.heap.size w W1 := by rw [hW1]; exact (((Below.refl _ _).alloc (Nat.le_refl _) _).alloc (by simp) _).alloc (by simp; omega) _
  rw [← hW1]
  have HM := Lib.hid (fun W' (h : Below W1.heap.size W1 W') => show (W'.cell? ⟨w.heap.size, 0, none⟩ = some (.map oa) ∧ W'.cell? ⟨w.heap.size, 1, none⟩ = some (.slice ao na ac)) ∧ (W'.cell? ⟨w.heap.size + 1, 0, none⟩ = some (.map ob) ∧ W'.cell? ⟨w.heap.size + 1, 1, none⟩ = some (.slice bo nb bc)) ∧ W'.heap[w.heap.size + 2]? = some (.cells #[.map none, .slice none 0 0] 40 (0, 0)) from
    ⟨⟨(h.cell (p := ⟨w.heap.size, 0, none⟩) (by simp; omega)).trans c0, (h.cell (p := ⟨w.heap.size, 1, none⟩) (by simp; omega)).trans c1⟩, ⟨(h.cell (p := ⟨w.heap.size + 1, 0, none⟩) (by simp; omega)).trans c2, (h.cell (p := ⟨w.heap.size + 1, 1, none⟩) (by simp; omega)).trans c3⟩, (h.block _ (by omega)).trans c4⟩)
  have HB1 := Lib.hid hb1
  have hs2 : w.heap.size + 3 ≤ W1.heap.size := by omega
  clear hW1 c0 c1 c2 c3 c4 hb1 hs1
  have hcm : ∀ a b, Below W1.heap.size W1 a → Below a.heap.size a b → Below W1.heap.size W1 b := fun a b h hb => below_then h (Nat.le_refl _) hb
  have hpr : ∀ (j : Nat) (a b : World), (j = 10 → (fun _ => True) a) → Below a.heap.size a b → (j = 10 → (fun _ => True) b) := fun _ _ _ _ _ _ => trivial
  refine RegLin.wp_region_lin (RegLin.useL [(7, 10)]) (fun W => Below W1.heap.size W1 W) (fun j W => j = 10 → (fun _ => True) W) 13 [false, false, false, false, false, true, true, true, true, true, true, true, true, true, true, true, true, true, false, false, false, false, false, false, false, false, false]
    [sLit (.pointer (some ⟨w.heap.size, 0, none⟩)),
    sLit (.map oa),
    sLit (.pointer (some ⟨w.heap.size + 1, 0, none⟩)),
    sLit (.map ob),
    sMapT (joinF (kn A) (kn B)),
    sLit (.pointer (some ⟨w.heap.size, 1, none⟩)),
    sLit (.slice ao na ac),
    sRowD W1.heap.size (rs A),
    sLit (.pointer (some ⟨w.heap.size + 1, 1, none⟩)),
    sLit (.slice bo nb bc),
    sRowD W1.heap.size (rs A ++ rs B),
    sFn2 10 16 (fun x y => .agg #[x, y]),
    sVarT W1.heap.size] ((Below.refl _ _).drew) (fun j _ _ => trivial) (by kernel_rfl) (by kernel_rfl) (by kernel_rfl) (by kernel_rfl) (fun F hF => ?_)
  simp only [over, overL, Nat.reduceAdd] at hF
  obtain rfl := funext hF
  clear hF
  refine ⟨⟨?_, ?_, ?_, ?_, ?_, ?_, ?_, ?_, ?_, ?_, ?_, ?_, ?_, trivial⟩, ?_⟩
  · intro V W hc hp hd K hK _
    clear hd
    go_wp2_with fail
    refine hK _ _ ?_ ?_ ?_
    · rfl
    · exact RegLin.keeps_below hcm hpr hc (Below.refl _ _)
    · exact rfl
  · intro V W hc hp hd K hK _
    have h0 : (V 6) = .pointer (some ⟨w.heap.size, 0, none⟩) := hd 0 (by decide) (by kernel_rfl) (RegLin.useL_ok (by kernel_rfl))
    clear hd
    obtain ⟨⟨c0, c1⟩, -, -⟩ := HM.out W hc
    go_wp2_with fail
    refine hK _ _ ?_ ?_ ?_
    · rfl
    · exact RegLin.keeps_below hcm hpr hc (Below.refl _ _)
    · exact rfl
  · intro V W hc hp hd K hK _
    clear hd
    go_wp2_with fail
    refine hK _ _ ?_ ?_ ?_
    · rfl
    · exact RegLin.keeps_below hcm hpr hc (Below.refl _ _)
    · exact rfl
  · intro V W hc hp hd K hK _
    have h2 : (V 8) = .pointer (some ⟨w.heap.size + 1, 0, none⟩) := hd 2 (by decide) (by kernel_rfl) (RegLin.useL_ok (by kernel_rfl))
    clear hd
    obtain ⟨-, ⟨c2, c3⟩, -⟩ := HM.out W hc
    go_wp2_with fail
    refine hK _ _ ?_ ?_ ?_
    · rfl
    · exact RegLin.keeps_below hcm hpr hc (Below.refl _ _)
    · exact rfl
  · intro V W hc hp hd K hK _
    have h1 : (V 7) = .map oa := hd 1 (by decide) (by kernel_rfl) (RegLin.useL_ok (by kernel_rfl))
    have h3 : (V 9) = .map ob := hd 3 (by decide) (by kernel_rfl) (RegLin.useL_ok (by kernel_rfl))
    clear hd
    have HCC := Lib.hid hc
    clear hc hp
    go_wp2_with fail
    refine (HJN.out W (below_then HB1.out (by omega) HCC.out)).mono ?_
    rintro e w1 ⟨b1, rfl, hv1, hbb, hb1⟩
    go_wp2_with fail
    refine hK _ _ ?_ ?_ ?_
    · rfl
    · exact RegLin.keeps_below hcm hpr HCC.out (hb1)
    · exact ⟨b1, rfl, hv1⟩
  · intro V W hc hp hd K hK _
    clear hd
    go_wp2_with fail
    refine hK _ _ ?_ ?_ ?_
    · rfl
    · exact RegLin.keeps_below hcm hpr hc (Below.refl _ _)
    · exact rfl
  · intro V W hc hp hd K hK _
    have h5 : (V 11) = .pointer (some ⟨w.heap.size, 1, none⟩) := hd 5 (by decide) (by kernel_rfl) (RegLin.useL_ok (by kernel_rfl))
    clear hd
    obtain ⟨⟨c0, c1⟩, -, -⟩ := HM.out W hc
    go_wp2_with fail
    refine hK _ _ ?_ ?_ ?_
    · rfl
    · exact RegLin.keeps_below hcm hpr hc (Below.refl _ _)
    · exact rfl
  · intro V W hc hp hd K hK _
    have h6 : (V 12) = .slice ao na ac := hd 6 (by decide) (by kernel_rfl) (RegLin.useL_ok (by kernel_rfl))
    clear hd
    have HCC := Lib.hid hc
    clear hc hp
    go_wp2_with fail
    refine (HCL.out W (below_then HB1.out (by omega) HCC.out)).mono ?_
    rintro e w1 ⟨v1, rfl, hv1, hb1⟩
    go_wp2_with fail
    refine hK _ _ ?_ ?_ ?_
    · rfl
    · exact RegLin.keeps_below hcm hpr HCC.out (hb1)
    · exact ⟨own_base (Spare.own hv1) HCC.out.size, hv1.rest⟩
  · intro V W hc hp hd K hK _
    clear hd
    go_wp2_with fail
    refine hK _ _ ?_ ?_ ?_
    · rfl
    · exact RegLin.keeps_below hcm hpr hc (Below.refl _ _)
    · exact rfl
  · intro V W hc hp hd K hK _
    have h8 : (V 14) = .pointer (some ⟨w.heap.size + 1, 1, none⟩) := hd 8 (by decide) (by kernel_rfl) (RegLin.useL_ok (by kernel_rfl))
    clear hd
    obtain ⟨-, ⟨c2, c3⟩, -⟩ := HM.out W hc
    go_wp2_with fail
    refine hK _ _ ?_ ?_ ?_
    · rfl
    · exact RegLin.keeps_below hcm hpr hc (Below.refl _ _)
    · exact rfl
  · intro V W hc hp hd K hK _
    have h7 : SpD W W1.heap.size (V 13) (rs A) := hd 7 (by decide) (by kernel_rfl) (RegLin.useL_ok (by kernel_rfl))
    have h9 : (V 15) = .slice bo nb bc := hd 9 (by decide) (by kernel_rfl) (RegLin.useL_ok (by kernel_rfl))
    clear hd
    have hbw : W1.heap.size ≤ W.heap.size := hc.size
    have HCC := Lib.hid hc
    have HA := Lib.hid (show Spare W W1.heap.size 33 [.int .i64 0, .int .i64 0] (V 13) na ((rs A).flatMap enD) from by have h := h7; unfold SpD at h; rw [← HNN.out.1] at h; exact h)
    clear hc hp h7
    go_wp2_with (at_builtin; refine wpList_append_spareAny rfl (.tmp 13) (.tmp 15) 31 rfl W1.heap.size 33 i0 (.agg #[.int .i64 0, .int .i64 0]) [.int .i64 0, .int .i64 0] 16 Try.underlying31 HI.out.1 HI.out.2.1 rfl HI.out.2.2.1 HI.out.2.2.2 (by decide) (V 13) na ((rs A).flatMap enD) rfl HA.out bo nb bc ((rs B).flatMap enD) (by first | rfl | exact h9) (by rw [flatMap_len enD_len, ← HNN.out.2]; rfl) (HSB.out _ (below_then HB1.out (by omega) HCC.out)) (cells_one _) (by unfold maxLen; omega) (by omega) hbw ?_)
    intro v1 w1 g1 g2 g3 g4
    have G1 := Lib.hid (show SpD w1 W1.heap.size v1 (rs A ++ rs B) from by unfold SpD; rw [List.length_append, ← HNN.out.1, ← HNN.out.2, List.flatMap_append]; exact g1)
    have G2 := Lib.hid (show Below W1.heap.size W1 w1 from HCC.out.grown g2 hbw (fun k hk => ((Spare.own HA.out).lt k hk).1))
    have G3 := Lib.hid (And.intro g2 (row_kind (Spare.own HA.out)))
    clear g1 g2 g3 g4
    go_wp2_with fail
    refine hK _ _ ?_ ?_ ?_
    · rfl
    · refine RegLin.keeps_by G2.out (by kernel_rfl) (fun j hj hne hl h => ?_)
      match j, hj, hne, hl, h with
      | 0, _, _, _, h => exact h
      | 1, _, _, _, h => exact h
      | 2, _, _, _, h => exact h
      | 3, _, _, _, h => exact h
      | 4, _, _, _, h => exact MapT.grown (W := W) (v := V 10) (K := joinF (kn A) (kn B)) h G3.out.1 G3.out.2
      | 5, _, _, _, h => exact h
      | 6, _, _, _, h => exact h
      | 7, _, _, hl, _ => exact Bool.noConfusion (hl.symm.trans (show RegLin.liveB _ 13 [(7, 10)] 10 7 = false from by kernel_rfl))
      | 8, _, _, _, h => exact h
      | 9, _, _, _, h => exact h
      | 10, _, hne, _, _ => exact absurd rfl hne
      | 11, _, _, hl, _ => exact Bool.noConfusion (hl.symm.trans (show RegLin.liveB _ 13 [(7, 10)] 10 11 = false from by kernel_rfl))
      | 12, _, _, _, h => exact VarT.grown (base := W1.heap.size) (W := W) (v := V 5) h G3.out.1 G3.out.2
      | j + 13, hj, _, _, _ => exact absurd hj (by omega)
    · exact G1.out
  · intro V W hc hp hd K hK _
    have h4 : MapT W (V 10) (joinF (kn A) (kn B)) := hd 4 (by decide) (by kernel_rfl) (RegLin.useL_ok (by kernel_rfl))
    have h10 : SpD W W1.heap.size (V 16) (rs A ++ rs B) := hd 10 (by decide) (by kernel_rfl) (RegLin.useL_ok (by kernel_rfl))
    clear hd
    have HCC := Lib.hid hc
    obtain ⟨bm, e10, -⟩ := h4
    obtain ⟨vo, vc, e16⟩ := row_form (Spare.own h10)
    clear hc hp h10
    go_wp2_with fail
    refine hK _ _ ?_ ?_ ?_
    · rfl
    · exact RegLin.keeps_below hcm hpr HCC.out (Below.refl _ _)
    · show _ = Value.agg #[V 10, V 16]
      rw [e10, e16, List.length_append]
      rfl
  · intro V W hc hp hd K hK _
    clear hd
    have HCC := Lib.hid hc
    clear hc hp
    go_wp2_with fail
    refine hK _ _ ?_ ?_ ?_
    · rfl
    · exact RegLin.keeps_below hcm hpr HCC.out ((Below.refl _ _).alloc (Nat.le_refl _) _)
    · exact VarT.new _ HCC.out.size
  · intro V W hc hd
    have h4 : MapT W (V 10) (joinF (kn A) (kn B)) := hd 4 (by decide) rfl
    have h10 : SpD W W1.heap.size (V 16) (rs A ++ rs B) := hd 10 (by decide) rfl
    have h11 : (V 17) = .agg #[V 10, V 16] := hd 11 (by decide) rfl
    have h12 : VarT W1.heap.size W (V 5) := hd 12 (by decide) rfl
    clear hd
    simp only [List.drop_succ_cons, List.drop_zero]
    obtain ⟨bm, e4, hvm⟩ := h4
    obtain ⟨k5, e12, hk5, hkb⟩ := h12
    have HCC := Lib.hid hc
    obtain ⟨vo, vc, e10⟩ := row_form (Spare.own h10)
    rw [e10] at h10
    have hnl : (rs A ++ rs B).length = na + nb := by rw [List.length_append, ← HNN.out.1, ← HNN.out.2]
    rw [hnl] at e10 h10
    have HR10 := Lib.hid h10
    have HVM := Lib.hid hvm
    have HNL := Lib.hid hnl
    have hcsz := hc.size
    have hklt : k5 < W.heap.size := (Array.getElem?_eq_some_iff.1 hk5).1
    rw [e4, e10] at h11
    generalize V 10 = x10 at *
    generalize V 16 = x16 at *
    generalize V 17 = x17 at *
    generalize V 5 = x5 at *
    subst e4 e10 h11 e12
    have f0 := frozen_of_row W k5 0 _ _ hk5
    have f1 := frozen_of_row W k5 1 _ _ hk5
    have q0 : W.cell? ⟨k5, 0, none⟩ = some (.map none) := by rw [cell_of_row W _ 0 _ _ (0, 0) hk5]; rfl
    have q1 : W.cell? ⟨k5, 1, none⟩ = some (.slice none 0 0) := by rw [cell_of_row W _ 1 _ _ (0, 0) hk5]; rfl
    have hgs : W.grownBy ((W.setCell ⟨k5, 0, none⟩ (.map (some bm))).setCell ⟨k5, 1, none⟩ (.slice vo (na + nb) vc)) (some k5) := by
      iterate 2 refine grown_setCell ?_ (Or.inl rfl) _
      exact World.grownBy.refl _ _
    have hk5' := heap_setCell_same _ k5 1 _ _ (.slice vo (na + nb) vc) (heap_setCell_same W k5 0 _ _ (.map (some bm)) hk5)
    have hvm' := (set_kept hk5 (.map (some bm)) (.slice vo (na + nb) vc)).1 _ _ hvm
    have hr' : SpD ((W.setCell ⟨k5, 0, none⟩ (.map (some bm))).setCell ⟨k5, 1, none⟩ (.slice vo (na + nb) vc)) W1.heap.size (.slice vo (na + nb) vc) (rs A ++ rs B) := Spare.kept h10 hgs (by
      cases e : (Value.slice vo (na + nb) vc).ownBlock with
      | none => exact Or.inl rfl
      | some j =>
        refine Or.inr fun e2 => ?_
        injection e2 with e2
        subst e2
        obtain ⟨cs, hcs⟩ := row_kind (Spare.own h10) j e
        rw [hk5] at hcs
        injection hcs with hcs
        injection hcs with _ hcs
        exact absurd hcs (by decide))
    have hb' : Below W1.heap.size W1 ((W.setCell ⟨k5, 0, none⟩ (.map (some bm))).setCell ⟨k5, 1, none⟩ (.slice vo (na + nb) vc)) := (hc.setCell (p := ⟨k5, 0, none⟩) hkb _).setCell (p := ⟨k5, 1, none⟩) hkb _
    have HVM2 := Lib.hid hvm'
    have HR2 := Lib.hid hr'
    have HB2 := Lib.hid hb'
    have HK5 := Lib.hid hk5'
    clear hvm' hr' hb' hk5' hgs hvm h10 hc hk5 hnl
    go_upto_region 2 with fail
    obtain ⟨W2, hW2⟩ : ∃ W2, W2 = ((W.setCell ⟨k5, 0, none⟩ (.map (some bm))).setCell ⟨k5, 1, none⟩ (.slice vo (na + nb) vc)) := ⟨_, rfl⟩
    rw [← hW2] at HVM2 HR2 HB2 HK5 ⊢
    have hz2 : k5 < W2.heap.size := by rw [hW2]; simpa using hklt
    clear hW2 f0 f1 q0 q1 hklt
    have hk52 := HK5.out
    have q0 : W2.cell? ⟨k5, 0, none⟩ = some (.map (some bm)) := by rw [cell_of_row W2 _ 0 _ _ (0, 0) hk52]; rfl
    have q1 : W2.cell? ⟨k5, 1, none⟩ = some (.slice vo (na + nb) vc) := by rw [cell_of_row W2 _ 1 _ _ (0, 0) hk52]; rfl
    clear hk52
    go_wp2_with fail
    have hso := sort_any W1.heap.size (.slice vo (na + nb) vc) (rs A ++ rs B) W2 (Spare.own HR2.out) (by rw [HNL.out]; omega)
    refine hso.mono ?_
    clear hso
    rintro e w3 ⟨rfl, R', hp3, hs3, ho3, hg3⟩
    have hkind := row_kind (Spare.own HR2.out)
    have hne5 : ∀ j, (Value.slice vo (na + nb) vc).ownBlock = some j → j ≠ k5 := fun j hj e => by
      subst e
      obtain ⟨cs, hcs⟩ := hkind j hj
      rw [HK5.out] at hcs
      injection hcs with hcs
      injection hcs with _ hcs
      exact absurd hcs (by decide)
    have hlt2 : ∀ j, (Value.slice vo (na + nb) vc).ownBlock = some j → W1.heap.size ≤ j := fun j hj => (World.ownsRow.lt (Spare.own HR2.out) j hj).1
    have hk53 := (hg3.block k5 hz2 (fun e => hne5 k5 e.symm rfl)).trans HK5.out
    have hvm3 : MapT w3 (.map (some bm)) (joinF (kn A) (kn B)) := MapT.grown ⟨bm, rfl, HVM2.out⟩ hg3 hkind
    have hlen3 : R'.length = na + nb := by rw [hp3.length_eq, HNL.out]
    have HB3 := Lib.hid (show Below W1.heap.size W1 w3 from HB2.out.grown hg3 HB2.out.size hlt2)
    have HR3 := Lib.hid ho3
    have HP3 := Lib.hid (And.intro hp3 hs3)
    have HVM3 := Lib.hid hvm3
    have HK53 := Lib.hid hk53
    have HL3 := Lib.hid hlen3
    have hz3 : k5 < w3.heap.size := Nat.lt_of_lt_of_le hz2 hg3.size
    have q13 : w3.cell? ⟨k5, 1, none⟩ = some (.slice vo (na + nb) vc) := by rw [cell_of_row w3 _ 1 _ _ (0, 0) hk53]; rfl
    clear hkind hne5 hlt2 hk53 hvm3 hlen3 ho3 hp3 hs3 hg3 q0 q1
    go_wp2_with fail
    refine (compact_any W1.heap.size (.slice vo (na + nb) vc) R' w3 HR3.out (by rw [HL3.out]; omega)).mono ?_
    rintro e w4 ⟨v4, rfl, ho4, hg4, hob⟩
    obtain ⟨co, cc, rfl⟩ := row_form ho4
    obtain ⟨cstr, cmem⟩ := comp_sorted HP3.out.1 HP3.out.2
    obtain ⟨C, hC⟩ : ∃ C, C = compG none R' := ⟨_, rfl⟩
    rw [← hC] at ho4 hob cstr cmem ⊢
    have hkind := row_kind HR3.out
    have hne5 : ∀ j, (Value.slice vo (na + nb) vc).ownBlock = some j → j ≠ k5 := fun j hj e => by
      subst e
      obtain ⟨cs, hcs⟩ := hkind j hj
      rw [HK53.out] at hcs
      injection hcs with hcs
      injection hcs with _ hcs
      exact absurd hcs (by decide)
    have hlt2 : ∀ j, (Value.slice vo (na + nb) vc).ownBlock = some j → W1.heap.size ≤ j := fun j hj => (World.ownsRow.lt HR3.out j hj).1
    have hk54 := (hg4.block k5 hz3 (fun e => hne5 k5 e.symm rfl)).trans HK53.out
    have hvm4 : MapT w4 (.map (some bm)) (joinF (kn A) (kn B)) := MapT.grown HVM3.out hg4 hkind
    have HB4 := Lib.hid (show Below W1.heap.size W1 w4 from HB3.out.grown hg4 HB3.out.size hlt2)
    have hz4 : k5 < w4.heap.size := Nat.lt_of_lt_of_le hz3 hg4.size
    have HROW4 := Lib.hid (Lst.of_owns (w := w4) (l := C) enD_len (by decide) ho4)
    have hlenC : C.length ≤ 250 := by
      have h1 : w4.ownsRow W1.heap.size 33 2 (.slice co C.length cc) C.length (C.flatMap enD) := ho4
      have h2 : C.length ≤ R'.length := by rw [hC]; exact comp_len R' none
      have := HL3.out
      omega
    have f0 := frozen_of_row w4 k5 0 _ _ hk54
    have f1 := frozen_of_row w4 k5 1 _ _ hk54
    have q0 : w4.cell? ⟨k5, 0, none⟩ = some (.map (some bm)) := by rw [cell_of_row w4 _ 0 _ _ (0, 0) hk54]; rfl
    have q1 : w4.cell? ⟨k5, 1, none⟩ = some (.slice vo (na + nb) vc) := by rw [cell_of_row w4 _ 1 _ _ (0, 0) hk54]; rfl
    obtain ⟨bm', e, hvm4⟩ := hvm4
    cases e
    have HK54 := Lib.hid hk54
    have hvm5 : VMap (w4.setCell ⟨k5, 1, none⟩ (.slice co C.length cc)) bm (joinF (kn A) (kn B)) := World.ownsMap.kept hvm4 (grown_setCell (World.grownBy.refl _ _) (Or.inl rfl) _ : w4.grownBy _ (some k5)) (fun e => by
      injection e with e
      subst e
      obtain ⟨es, clock, hm, _⟩ := hvm4
      rw [hk54] at hm
      cases hm)
    have hrow5 : DRow (w4.setCell ⟨k5, 1, none⟩ (.slice co C.length cc)) (.slice co C.length cc) C := Lst.of_owns enD_len (by decide) (World.ownsRow.kept ho4 (grown_setCell (World.grownBy.refl _ _) (Or.inl rfl) _ : w4.grownBy _ (some k5)) (by
      cases e : (Value.slice co C.length cc).ownBlock with
      | none => exact Or.inl rfl
      | some j =>
        refine Or.inr fun e2 => ?_
        injection e2 with e2
        subst e2
        obtain ⟨cs, hcs⟩ := row_kind ho4 j e
        rw [hk54] at hcs
        injection hcs with hcs
        injection hcs with _ hcs
        exact absurd hcs (by decide)))
    have HB5 := Lib.hid (HB4.out.setCell (p := ⟨k5, 1, none⟩) hkb (.slice co C.length cc))
    have HV5 := Lib.hid (And.intro hvm5 hrow5)
    have HCM := Lib.hid (And.intro cstr cmem)
    have hk55 := heap_setCell_same w4 k5 1 _ _ (.slice co C.length cc) hk54
    have HK55 := Lib.hid hk55
    clear hkind hne5 hlt2 hk54 hvm4 ho4 hg4 hob hvm5 hrow5 cstr cmem hC hk55 q13
    go_upto_region 4 with fail
    obtain ⟨W5, hW5⟩ : ∃ W5, W5 = w4.setCell ⟨k5, 1, none⟩ (.slice co C.length cc) := ⟨_, rfl⟩
    rw [← hW5] at HB5 HV5 HK55 ⊢
    clear hW5 f0 f1 q0 q1
    have hk55 := HK55.out
    have q0 : W5.cell? ⟨k5, 0, none⟩ = some (.map (some bm)) := by rw [cell_of_row W5 _ 0 _ _ (0, 0) hk55]; rfl
    have q1 : W5.cell? ⟨k5, 1, none⟩ = some (.slice co C.length cc) := by rw [cell_of_row W5 _ 1 _ _ (0, 0) hk55]; rfl
    clear hk55
    have hCr : ∀ x ∈ C, right x = true ∧ x.who ≤ 9223372036854775807 := fun x hx => by
      rcases List.mem_append.1 ((HCM.out.2 x).1 hx) with e | e
      · exact ⟨HN.out.1.rs.1.ok x e, HN.out.1.rs.2.1 x e⟩
      · exact ⟨HN.out.2.rs.1.ok x e, HN.out.2.rs.2.1 x e⟩
    have hKJ := joinF_good HN.out.1.kn.1 (kn B)
    have hPE := pack_eq hKJ HCM.out.1 (fun x hx => (hCr x hx).1) (setOf_fine (A ++ B)) (fun x => by rw [join_mem HN.out.1 HN.out.2 x, HCM.out.2 x])
    have hpk := packed_any (some bm) co cc (joinF (kn A) (kn B)) C W5 hKJ (Sm.join HN.out.1.kn.2.1 HN.out.2.kn.2.1) HLK.out (fun x hx => (hCr x hx).1) (fun x hx => (hCr x hx).2) (by omega) HV5.out.1 HV5.out.2
    rw [hPE] at hpk
    have HPK := Lib.hid hpk
    clear hpk hPE hKJ hCr
    go_wp2_with fail
    refine HPK.out.mono ?_
    rintro e w6 ⟨b6, po, pc, rfl, hv6, hr6, hb6⟩
    simp only [] at hv6 hr6
    have HB6 := Lib.hid (below_then HB5.out (Nat.le_refl _) hb6)
    have HV6 := Lib.hid (And.intro hv6 hr6)
    have hc7 := (HM.out w6 HB6.out).2.2
    have f0 := frozen_of_row w6 (w.heap.size + 2) 0 _ _ hc7
    have f1 := frozen_of_row w6 (w.heap.size + 2) 1 _ _ hc7
    have r0 : w6.cell? ⟨w.heap.size + 2, 0, none⟩ = some (.map none) := by rw [cell_of_row w6 _ 0 _ _ (0, 0) hc7]; rfl
    have r1 : w6.cell? ⟨w.heap.size + 2, 1, none⟩ = some (.slice none 0 0) := by rw [cell_of_row w6 _ 1 _ _ (0, 0) hc7]; rfl
    have hz7 := HB6.out.size
    clear hv6 hr6 hb6 hc7 q0 q1
    go_wp2_with fail
    have p0 : ((w6.setCell ⟨w.heap.size + 2, 0, none⟩ (.map (some b6))).setCell ⟨w.heap.size + 2, 1, none⟩ (.slice po (rs (setOf (A ++ B))).length pc)).cell? ⟨w.heap.size + 2, 0, none⟩ = some (.map (some b6)) := by go_simp
    have p1 : ((w6.setCell ⟨w.heap.size + 2, 0, none⟩ (.map (some b6))).setCell ⟨w.heap.size + 2, 1, none⟩ (.slice po (rs (setOf (A ++ B))).length pc)).cell? ⟨w.heap.size + 2, 1, none⟩ = some (.slice po (rs (setOf (A ++ B))).length pc) := by go_simp
    refine bodyPost_ret (v := .agg #[.map (some b6), .slice po (rs (setOf (A ++ B))).length pc]) (by simp [results, Try.f20, go_sem, p0, p1]) rfl ?_
    have hk := set_kept (HM.out w6 HB6.out).2.2 (.map (some b6)) (.slice po (rs (setOf (A ++ B))).length pc)
    exact ⟨_, rfl, ⟨some b6, po, pc, rfl, hk.1 _ _ HV6.out.1, hk.2 _ _ HV6.out.2⟩, ((below_then HB1.out (by omega) HB6.out).setCell (p := ⟨w.heap.size + 2, 0, none⟩) (by simp) _).setCell (p := ⟨w.heap.size + 2, 1, none⟩) (by simp) _⟩
end Go.Proofs.Ytihfcohebgemdaa.Dots
