/- The walk of the law StateOrder (layer 8): up to its last statement. -/
import Derived.Test.YtgcfhlleaekgfaaDoorConRows
namespace Go.Proofs.YtgcfhlleaekgfaaDoor.Mut
open Go.RowKit Go.Sort Go.Proofs.YtgcfhlleaekgfaaDoor.Ord

theorem or_rot {a b c : Prop} : ((c ∨ b) ∨ a) ↔ (a ∨ (b ∨ c)) := by
  constructor
  · rintro ((h | h) | h)
    · exact Or.inr (Or.inr h)
    · exact Or.inr (Or.inl h)
    · exact Or.inl h
  · rintro (h | h | h)
    · exact Or.inr h
    · exact Or.inl (Or.inr h)
    · exact Or.inl (Or.inl h)
theorem or_dup {a b c : Prop} : (a ∨ (b ∨ c)) ↔ ((a ∨ (b ∨ c)) ∨ b) :=
  ⟨Or.inl, fun h => h.elim id fun h => Or.inr (Or.inl h)⟩
theorem fits_all {A B C L : List Ro} (h : L = C ++ B ++ A ++ B) (u : Mu) : Fits (L.map (·.1)) u ↔ (Fits (A.map (·.1)) u ∨ (Fits (B.map (·.1)) u ∨ Fits (C.map (·.1)) u)) := by
  subst h
  unfold Fits
  simp only [List.map_append, List.mem_append]
  constructor
  · rintro ⟨((h | h) | h) | h, h2⟩
    · exact Or.inr (Or.inr ⟨h, h2⟩)
    · exact Or.inr (Or.inl ⟨h, h2⟩)
    · exact Or.inl ⟨h, h2⟩
    · exact Or.inr (Or.inl ⟨h, h2⟩)
  · rintro (⟨h, h2⟩ | ⟨h, h2⟩ | ⟨h, h2⟩)
    · exact ⟨Or.inl (Or.inr h), h2⟩
    · exact ⟨Or.inr h, h2⟩
    · exact ⟨Or.inl (Or.inl (Or.inl h)), h2⟩
theorem fits_rev (L : List Ro) (u : Mu) : Fits (L.reverse.map (·.1)) u ↔ Fits (L.map (·.1)) u := by
  unfold Fits
  rw [List.map_reverse, List.mem_reverse]
theorem fits_two {l a b c : List Mu} (ha : a.Perm l) (hb : b.Perm l) (hc : c.Perm l) (u : Mu) : (Fits b u ∨ Fits c u) ↔ Fits a u := by
  unfold Fits
  rw [ha.mem_iff, hb.mem_iff, hc.mem_iff]
  exact ⟨fun h => h.elim id id, Or.inl⟩

/-- A content in a new variable. -/
def OneAt (w0 : World) (S : Mu → Prop) (n : Nat) (p : Value) (w : World) : Prop :=
  ∃ (k : Nat) (o1 : Option Addr) (m1 k1 : Nat) (o2 : Option Addr) (m2 k2 : Nat) (o3 : Option Addr) (m3 k3 : Nat) (c : Con), p = .pointer (some ⟨k, 0, none⟩) ∧ w0.heap.size ≤ k ∧ C3 w k (.slice o1 m1 k1) (.slice o2 m2 k2) (.slice o3 m3 k3) ∧ Lies w (.slice o1 m1 k1) (.slice o2 m2 k2) (.slice o3 m3 k3) c ∧ Reps S c ∧ Okc c n ∧ RowKit.Below w0.heap.size w0 w

set_option maxHeartbeats 8000000 in
set_option maxRecDepth 100000 in
theorem order_any (v1 v2 v3 : Value) (A B C : List Ro) (w : World) (hT : Tabs w) (hA : MRow w v1 A) (hB : MRow w v2 B) (hC : MRow w v3 C) (zA : ∀ x ∈ A, x.1.key.size ≤ maxLen ∧ x.1.fin.size ≤ maxLen ∧ x.1.val.size ≤ maxLen) (zB : ∀ x ∈ B, x.1.key.size ≤ maxLen ∧ x.1.fin.size ≤ maxLen ∧ x.1.val.size ≤ maxLen) (zC : ∀ x ∈ C, x.1.key.size ≤ maxLen ∧ x.1.fin.size ≤ maxLen ∧ x.1.val.size ≤ maxLen) :
    Calls Tryd.prog 3 #[v1, v2, v3] w fun e w' => e = .returned (.bool true) ∧ RowKit.Below w.heap.size w w' := by
  have HGa := Lib.hid (great_any v1 A 30 w hA (by decide) zA)
  have HGb := Lib.hid (great_any v2 B 30 w hB (by decide) zB)
  have HGc := Lib.hid (great_any v3 C 30 w hC (by decide) zC)
  obtain ⟨ga, hga⟩ : ∃ q, q = greatF (A.map (·.1)) 30 := ⟨_, rfl⟩
  obtain ⟨gb, hgb⟩ : ∃ q, q = greatF (B.map (·.1)) 30 := ⟨_, rfl⟩
  obtain ⟨gc, hgc⟩ : ∃ q, q = greatF (C.map (·.1)) 30 := ⟨_, rfl⟩
  rw [← hga] at HGa
  rw [← hgb] at HGb
  rw [← hgc] at HGc
  obtain ⟨ao, ac, rfl, -, -⟩ := hA.form
  obtain ⟨bo, bc, rfl, -, -⟩ := hB.form
  obtain ⟨co, cc, rfl, -, -⟩ := hC.form
  obtain ⟨na, hna⟩ : ∃ k, k = A.length := ⟨_, rfl⟩
  obtain ⟨nb, hnb⟩ : ∃ k, k = B.length := ⟨_, rfl⟩
  obtain ⟨nc, hnc⟩ : ∃ k, k = C.length := ⟨_, rfl⟩
  rw [← hna] at hA HGa ⊢
  rw [← hnb] at hB HGb ⊢
  rw [← hnc] at hC HGc ⊢
  have HT := Lib.hid hT
  have HA := Lib.hid hA
  have HB := Lib.hid hB
  have HC := Lib.hid hC
  have HGG := Lib.hid (And.intro hga (And.intro hgb hgc))
  have HNN := Lib.hid (And.intro hna (And.intro hnb hnc))
  clear hT hA hB hC zA zB zC hga hgb hgc hna hnb hnc
  cases ga
  case true =>
    go_enter Tryd.func3, Tryd.ntmps3
    go_wp2_with fail
    refine HGa.out.mono ?_
    rintro e w1 ⟨rfl, rfl⟩
    go_wp2_with fail
    go_ret
    exact ⟨rfl, Below.refl _ _⟩
  cases gb
  case true =>
    go_enter Tryd.func3, Tryd.ntmps3
    go_wp2_with fail
    refine HGa.out.mono ?_
    rintro e w1 ⟨rfl, rfl⟩
    go_wp2_with fail
    refine HGb.out.mono ?_
    rintro e w1 ⟨rfl, rfl⟩
    go_wp2_with fail
    go_ret
    exact ⟨rfl, Below.refl _ _⟩
  cases gc
  case true =>
    go_enter Tryd.func3, Tryd.ntmps3
    go_wp2_with fail
    refine HGa.out.mono ?_
    rintro e w1 ⟨rfl, rfl⟩
    go_wp2_with fail
    refine HGb.out.mono ?_
    rintro e w1 ⟨rfl, rfl⟩
    go_wp2_with fail
    refine HGc.out.mono ?_
    rintro e w1 ⟨rfl, rfl⟩
    go_wp2_with fail
    go_ret
    exact ⟨rfl, Below.refl _ _⟩
  obtain ⟨lA, sA⟩ := great_small HGG.out.1.symm
  obtain ⟨lB, sB⟩ := great_small HGG.out.2.1.symm
  obtain ⟨lC, sC⟩ := great_small HGG.out.2.2.symm
  rw [List.length_map] at lA lB lC
  have l1 : na ≤ 30 := by have := HNN.out.1; omega
  have l2 : nb ≤ 30 := by have := HNN.out.2.1; omega
  have l3 : nc ≤ 30 := by have := HNN.out.2.2; omega
  have HS := Lib.hid (show (∀ x ∈ A, Small x.1) ∧ (∀ x ∈ B, Small x.1) ∧ (∀ x ∈ C, Small x.1) from ⟨fun x hx => sA _ (List.mem_map.2 ⟨x, hx, rfl⟩), fun x hx => sB _ (List.mem_map.2 ⟨x, hx, rfl⟩), fun x hx => sC _ (List.mem_map.2 ⟨x, hx, rfl⟩)⟩)
  clear lA lB lC sA sB sC HGG
  go_enter Tryd.func3, Tryd.ntmps3
  go_wp2_with fail
  refine HGa.out.mono ?_
  rintro e w1 ⟨rfl, rfl⟩
  go_wp2_with fail
  refine HGb.out.mono ?_
  rintro e w1 ⟨rfl, rfl⟩
  go_wp2_with fail
  refine HGc.out.mono ?_
  rintro e w1 ⟨rfl, rfl⟩
  clear HGa HGb HGc
  go_wp2_with fail
  refine (of_any _ A w HT.out HA.out (by have := HNN.out.1; omega) HS.out.1).mono ?_
  rintro e w1 ⟨a1, b1, d1, x, rfl, hl, hr, ho, hb⟩
  have HR1 := Lib.hid (And.intro hr ho)
  have HL1 := Lib.hid (HasC.cons hl (HasC.nil w1))
  have HB1 := Lib.hid hb
  clear hl hr ho hb
  go_wp2_with fail
  refine (of_any _ B w1 (HT.out.below HB1.out) (HB.out.below HB1.out) (by have := HNN.out.2.1; omega) HS.out.2.1).mono ?_
  rintro e w2 ⟨a2, b2, d2, y, rfl, hl, hr, ho, hb⟩
  have HR2 := Lib.hid (And.intro hr ho)
  have HL2 := Lib.hid (HasC.cons hl (HL1.out.below hb))
  have HB2 := Lib.hid (below_then HB1.out (Nat.le_refl _) hb)
  clear hl hr ho hb HL1
  go_wp2_with fail
  refine (of_any _ C w2 (HT.out.below HB2.out) (HC.out.below HB2.out) (by have := HNN.out.2.2; omega) HS.out.2.2).mono ?_
  rintro e w3 ⟨a3, b3, d3, z, rfl, hl, hr, ho, hb⟩
  have HR3 := Lib.hid (And.intro hr ho)
  have HL3 := Lib.hid (HasC.cons hl (HL2.out.below hb))
  have HB3 := Lib.hid (below_then HB2.out (Nat.le_refl _) hb)
  clear hl hr ho hb HL2
  obtain ⟨p1, q1, r1, hv1⟩ := (HL3.out.get (by simp) : Lies _ a1 b1 d1 x).cells.slice
  obtain ⟨p2, q2, r2, hv2⟩ := (HL3.out.get (by simp) : Lies _ a1 b1 d1 x).wipes.slice
  obtain ⟨p3, q3, r3, hv3⟩ := (HL3.out.get (by simp) : Lies _ a1 b1 d1 x).sibs.slice
  obtain ⟨p4, q4, r4, hv4⟩ := (HL3.out.get (by simp) : Lies _ a2 b2 d2 y).cells.slice
  obtain ⟨p5, q5, r5, hv5⟩ := (HL3.out.get (by simp) : Lies _ a2 b2 d2 y).wipes.slice
  obtain ⟨p6, q6, r6, hv6⟩ := (HL3.out.get (by simp) : Lies _ a2 b2 d2 y).sibs.slice
  obtain ⟨p7, q7, r7, hv7⟩ := (HL3.out.get (by simp) : Lies _ a3 b3 d3 z).cells.slice
  obtain ⟨p8, q8, r8, hv8⟩ := (HL3.out.get (by simp) : Lies _ a3 b3 d3 z).wipes.slice
  obtain ⟨p9, q9, r9, hv9⟩ := (HL3.out.get (by simp) : Lies _ a3 b3 d3 z).sibs.slice
  subst hv1 hv2 hv3 hv4 hv5 hv6 hv7 hv8 hv9
  go_upto_region 4 with fail
  obtain ⟨W4, hW4⟩ : ∃ W4, W4 = ((w3.alloc (.cells #[.slice p1 q1 r1, .slice p2 q2 r2, .slice p3 q3 r3] 25)).alloc (.cells #[.slice p4 q4 r4, .slice p5 q5 r5, .slice p6 q6 r6] 25)).alloc (.cells #[.slice p7 q7 r7, .slice p8 q8 r8, .slice p9 q9 r9] 25) := ⟨_, rfl⟩
  rw [← hW4]
  have hb4 : RowKit.Below w3.heap.size w3 W4 := by rw [hW4]; exact (((Below.refl _ w3).alloc (Nat.le_refl _) _).alloc (by simp) _).alloc (by simp; omega) _
  have hs4 : W4.heap.size = w3.heap.size + 1 + 1 + 1 := by rw [hW4]; simp
  have x4 : C3 W4 w3.heap.size (.slice p1 q1 r1) (.slice p2 q2 r2) (.slice p3 q3 r3) := by
    rw [hW4]
    exact ((C3.new w3 _ _ _).below ((Below.refl _ _).alloc (Nat.le_refl _) _)).below ((Below.refl _ _).alloc (Nat.le_refl _) _)
  have y4 : C3 W4 (w3.heap.size + 1) (.slice p4 q4 r4) (.slice p5 q5 r5) (.slice p6 q6 r6) := by
    rw [hW4]
    have := (C3.new (w3.alloc (.cells #[.slice p1 q1 r1, .slice p2 q2 r2, .slice p3 q3 r3] 25)) (.slice p4 q4 r4) (.slice p5 q5 r5) (.slice p6 q6 r6)).below ((Below.refl _ _).alloc (Nat.le_refl _) (.cells #[.slice p7 q7 r7, .slice p8 q8 r8, .slice p9 q9 r9] 25))
    rwa [World.size_alloc] at this
  have z4 : C3 W4 (w3.heap.size + 1 + 1) (.slice p7 q7 r7) (.slice p8 q8 r8) (.slice p9 q9 r9) := by
    rw [hW4]
    have := C3.new ((w3.alloc (.cells #[.slice p1 q1 r1, .slice p2 q2 r2, .slice p3 q3 r3] 25)).alloc (.cells #[.slice p4 q4 r4, .slice p5 q5 r5, .slice p6 q6 r6] 25)) (.slice p7 q7 r7) (.slice p8 q8 r8) (.slice p9 q9 r9)
    rwa [World.size_alloc, World.size_alloc] at this
  have HX4 := Lib.hid (And.intro x4 (And.intro y4 z4))
  have HL4 := Lib.hid (HL3.out.below hb4)
  have HB4 := Lib.hid (below_then HB3.out (Nat.le_refl _) hb4)
  obtain ⟨n3, hn3⟩ : ∃ n3, n3 = w3.heap.size := ⟨_, rfl⟩
  rw [← hn3] at HX4 hs4 ⊢
  have HS4 := Lib.hid hs4
  clear hW4 hb4 x4 y4 z4 HL3 HB1 HB2 HB3 hn3 hs4
  have HM := Lib.hid (show ∀ W, RowKit.Below W4.heap.size W4 W → MRow W (.slice ao na ac) A ∧ MRow W (.slice bo nb bc) B ∧ MRow W (.slice co nc cc) C from fun W h => ⟨HA.out.below (below_then HB4.out (Nat.le_refl _) h), HB.out.below (below_then HB4.out (Nat.le_refl _) h), HC.out.below (below_then HB4.out (Nat.le_refl _) h)⟩)
  have hM0 := (Below.refl W4.heap.size W4).alloc (Nat.le_refl _) (.cells #[] 34)
  have HM0 := Lib.hid hM0
  clear hM0
  go_wp2_with (at_builtin; refine wpList_append_rows rfl (.tmp 29) (.tmp 30) rfl W4.heap.size (.slice (some ⟨W4.heap.size, 0, none⟩) 0 0) 0 [] rfl (World.ownsRow_made W4 #[] 0 (Nat.le_refl _) (Nat.zero_le _) (by simp)) co nc cc C rfl (HM.out _ HM0.out).2.2 (by omega) (by simp) ?_)
  intro v5 w5 hown hgr
  have hb5 := HM0.out.grown hgr (by simp) (fun k hk => by simp [Value.ownBlock] at hk; omega)
  have HO5 := Lib.hid hown
  have HB5 := Lib.hid hb5
  clear hown hgr hb5
  go_wp2_with (at_builtin; refine wpList_append_rows rfl (.tmp 31) (.tmp 32) rfl W4.heap.size v5 nc (C.flatMap enM) rfl HO5.out bo nb bc B rfl (HM.out _ HB5.out).2.1 (by omega) HB5.out.size ?_)
  intro v6 w6 hown hgr
  have hb6 := HB5.out.grown hgr HB5.out.size (fun k hk => (HO5.out.lt k hk).1)
  have HO6 := Lib.hid hown
  have HB6 := Lib.hid hb6
  clear hown hgr hb6
  go_wp2_with (at_builtin; refine wpList_append_rows rfl (.tmp 33) (.tmp 34) rfl W4.heap.size v6 (nc + nb) _ rfl HO6.out ao na ac A rfl (HM.out _ HB6.out).1 (by omega) HB6.out.size ?_)
  intro v7 w7 hown hgr
  have hb7 := HB6.out.grown hgr HB6.out.size (fun k hk => (HO6.out.lt k hk).1)
  have HO7 := Lib.hid hown
  have HB7 := Lib.hid hb7
  clear hown hgr hb7
  go_wp2_with (at_builtin; refine wpList_append_rows rfl (.tmp 35) (.tmp 36) rfl W4.heap.size v7 (nc + nb + na) _ rfl HO7.out bo nb bc B rfl (HM.out _ HB7.out).2.1 (by omega) HB7.out.size ?_)
  intro v8 w8 hown hgr
  have hb8 := HB7.out.grown hgr HB7.out.size (fun k hk => (HO7.out.lt k hk).1)
  try simp only [List.append_assoc] at hown
  have hall : C.flatMap enM ++ (B.flatMap enM ++ (A.flatMap enM ++ B.flatMap enM)) = (C ++ B ++ A ++ B).flatMap enM := by simp only [List.flatMap_append, List.append_assoc]
  have hlen : nc + nb + na + nb = (C ++ B ++ A ++ B).length := by simp only [List.length_append]; have := HNN.out; omega
  rw [hall, hlen] at hown
  obtain ⟨L, hL⟩ : ∃ L, L = C ++ B ++ A ++ B := ⟨_, rfl⟩
  have hLl : L.length ≤ 120 := by rw [hL, ← hlen]; omega
  rw [← hL] at hown
  have hmr : MRow w8 v8 L := ⟨Lst.owned enM_len (by decide) rfl hown, fun q hq => by
    rw [hL] at hq
    simp only [List.mem_append] at hq
    have := HM.out _ hb8
    rcases hq with ((h | h) | h) | h
    · exact this.2.2.over q h
    · exact this.2.1.over q h
    · exact this.1.over q h
    · exact this.2.1.over q h⟩
  have HLL := Lib.hid hL
  have HO8 := Lib.hid (And.intro hown hmr)
  have HB8 := Lib.hid hb8
  have HSL := Lib.hid (show ∀ q ∈ L, Small q.1 from fun q hq => by
    rw [hL] at hq
    simp only [List.mem_append] at hq
    rcases hq with ((h | h) | h) | h
    · exact HS.out.2.2 q h
    · exact HS.out.2.1 q h
    · exact HS.out.1 q h
    · exact HS.out.2.1 q h)
  clear hown hgr hb8 hall hlen hmr hL HO5 HO6 HO7 HB5 HB6 HB7 HM0
  obtain ⟨vo8, vc8, hv8⟩ := own_slice HO8.out.1
  obtain ⟨ln, hln⟩ : ∃ q, q = L.length := ⟨_, rfl⟩
  rw [← hln] at hv8 hLl
  subst hv8
  have HLN := Lib.hid hln
  have hm8 := (Below.refl w8.heap.size w8).alloc (Nat.le_refl _) (.cells #[] 34)
  have HM8 := Lib.hid hm8
  clear hln hm8
  have hr8 := HO8.out.2
  go_wp2_with (at_builtin; refine wpList_append_rows rfl (.tmp 38) (.tmp 39) rfl w8.heap.size (.slice (some ⟨w8.heap.size, 0, none⟩) 0 0) 0 [] rfl (World.ownsRow_made w8 #[] 0 (Nat.le_refl _) (Nat.zero_le _) (by simp)) vo8 ln vc8 L rfl (HO8.out.2.below HM8.out) (by omega) (by simp) ?_)
  intro v9 w9 hown hgr
  have hb9 := HM8.out.grown hgr (by simp) (fun k hk => by simp [Value.ownBlock] at hk; omega)
  rw [HLN.out] at hown
  have HO9 := Lib.hid hown
  have HB9 := Lib.hid hb9
  clear hown hgr hb9 hr8
  go_wp2_with fail
  refine (reverse_any w8.heap.size v9 L w9 HO9.out HO8.out.2.forms (by have := HLN.out; omega)).mono ?_
  rintro e w10 ⟨rfl, hown, hgr⟩
  have hb10 := HB9.out.grown hgr HB9.out.size (fun k hk => (HO9.out.lt k hk).1)
  have hmb : MRow w10 v9 L.reverse := ⟨Lst.owned enM_len (by decide) (by simp) hown, fun q hq => (HO8.out.2.over q (List.mem_reverse.1 hq)).below hb10⟩
  have hb84 := below_then HB8.out (Nat.le_refl _) hb10
  have HB10 := Lib.hid (below_then HB4.out (Nat.le_refl _) hb84)
  have HR10 := Lib.hid (HasR.cons (HO8.out.2.below hb10) (HasR.cons hmb (HasR.nil w10)))
  have HL10 := Lib.hid (HL4.out.below hb84)
  have HX10 := Lib.hid (show C3 w10 n3 (.slice p1 q1 r1) (.slice p2 q2 r2) (.slice p3 q3 r3) ∧ C3 w10 (n3 + 1) (.slice p4 q4 r4) (.slice p5 q5 r5) (.slice p6 q6 r6) ∧ C3 w10 (n3 + 1 + 1) (.slice p7 q7 r7) (.slice p8 q8 r8) (.slice p9 q9 r9) from ⟨HX4.out.1.below hb84, HX4.out.2.1.below hb84, HX4.out.2.2.below hb84⟩)
  have HT10 := Lib.hid (HT.out.below HB10.out)
  clear hown hgr hb10 hmb hb84 HO8 HO9 HB8 HB9 HX4 HL4 HB4 HM HM8 HA HB HC HT
  go_wp2_with fail
  go_cut [12] (fun p wx => OneAt w10 (fun u => Fits (A.map (·.1)) u ∨ (Fits (B.map (·.1)) u ∨ Fits (C.map (·.1)) u)) (A.length + (B.length + C.length)) p wx)
  case first =>
    have HXl := Lib.hid (show Lies w10 (.slice p1 q1 r1) (.slice p2 q2 r2) (.slice p3 q3 r3) x from HL10.out.get (by simp))
    have HJ1 := Lib.hid (fun (W : World) (hW : RowKit.Below w10.heap.size w10 W) => join_any (.slice p4 q4 r4) (.slice p5 q5 r5) (.slice p6 q6 r6) (.slice p7 q7 r7) (.slice p8 q8 r8) (.slice p9 q9 r9) y z _ _ B.length C.length W (HT10.out.below hW) ((HL10.out.below hW).get (by simp)) HR2.out.1 HR2.out.2 ((HL10.out.below hW).get (by simp)) HR3.out.1 HR3.out.2 (by have := HNN.out; omega))
    obtain ⟨⟨-, s1, s2, s3, -⟩, ⟨-, s4, s5, s6, -⟩, ⟨-, s7, s8, s9, -⟩⟩ := HX10.out
    have hlt := HX10.out.2.2.lt
    have na10 : w10.heap.size ≠ n3 := by omega
    have nb10 : w10.heap.size ≠ n3 + 1 := by omega
    have nc10 : w10.heap.size ≠ n3 + 1 + 1 := by omega
    go_region_held3 (fun w' => w'.cell? ⟨n3, 0, none⟩ = some (.slice p1 q1 r1) ∧ w'.cell? ⟨n3, 1, none⟩ = some (.slice p2 q2 r2) ∧ w'.cell? ⟨n3, 2, none⟩ = some (.slice p3 q3 r3) ∧ w'.cell? ⟨n3 + 1, 0, none⟩ = some (.slice p4 q4 r4) ∧ w'.cell? ⟨n3 + 1, 1, none⟩ = some (.slice p5 q5 r5) ∧ w'.cell? ⟨n3 + 1, 2, none⟩ = some (.slice p6 q6 r6) ∧ w'.cell? ⟨n3 + 1 + 1, 0, none⟩ = some (.slice p7 q7 r7) ∧ w'.cell? ⟨n3 + 1 + 1, 1, none⟩ = some (.slice p8 q8 r8) ∧ w'.cell? ⟨n3 + 1 + 1, 2, none⟩ = some (.slice p9 q9 r9)) (go_keep) (first
      | (go_simp; go_at_call 7; (with_reducible refine (join_any _ _ _ ja jb jd x jc _ _ A.length (B.length + C.length) _ (HT10.out.below (below_then HB12.out (Nat.le_refl _) (Below.refl w12.heap.size w12))) (HXl.out.below (below_then HB12.out (Nat.le_refl _) (Below.refl w12.heap.size w12))) HR1.out.1 HR1.out.2 (HJ.out.1.below (Below.refl w12.heap.size w12)) HJ.out.2.1 HJ.out.2.2 (by have := HNN.out; omega)).mono ?_); rintro e w13 ⟨oa, ob, od, oc, rfl, hl, hr, ho, hb⟩; obtain ⟨o1, m1, k1, hv1⟩ := hl.cells.slice; obtain ⟨o2, m2, k2, hv2⟩ := hl.wipes.slice; obtain ⟨o3, m3, k3, hv3⟩ := hl.sibs.slice; subst hv1 hv2 hv3; have hb3 := below_then (Below.refl w12.heap.size w12) (Nat.le_refl _) hb; have HB13 := Lib.hid (below_then HB12.out (Nat.le_refl _) hb3); have HO := Lib.hid (And.intro hl (And.intro hr ho)); obtain ⟨⟨-, s1, s2, s3, -⟩, ⟨-, s4, s5, s6, -⟩, ⟨-, s7, s8, s9, -⟩⟩ := (show C3 w13 n3 (.slice p1 q1 r1) (.slice p2 q2 r2) (.slice p3 q3 r3) ∧ C3 w13 (n3 + 1) (.slice p4 q4 r4) (.slice p5 q5 r5) (.slice p6 q6 r6) ∧ C3 w13 (n3 + 1 + 1) (.slice p7 q7 r7) (.slice p8 q8 r8) (.slice p9 q9 r9) from ⟨HX12.out.1.below hb3, HX12.out.2.1.below hb3, HX12.out.2.2.below hb3⟩); (try (have HK := Lib.hid (HK.out.below hb3); obtain ⟨kl, c0, c1, c2, f0, f1, f2⟩ := HK.out)); have hs13 : n3 + 1 + 1 < w13.heap.size := Nat.lt_of_lt_of_le HX12.out.2.2.lt hb3.size; have na13 : w13.heap.size ≠ n3 := (by omega); have nb13 : w13.heap.size ≠ n3 + 1 := (by omega); have nc13 : w13.heap.size ≠ n3 + 1 + 1 := (by omega); clear hl hr ho hb hb3)
      | (go_simp; go_at_call 7; (with_reducible refine (join_any _ _ _ ja jb jd x jc _ _ A.length (B.length + C.length) _ (HT10.out.below (below_then HB12.out (Nat.le_refl _) ((Below.refl w12.heap.size w12).alloc (Nat.le_refl _) (.cells #[.slice none 0 0, .slice none 0 0, .slice none 0 0] 25)))) (HXl.out.below (below_then HB12.out (Nat.le_refl _) ((Below.refl w12.heap.size w12).alloc (Nat.le_refl _) (.cells #[.slice none 0 0, .slice none 0 0, .slice none 0 0] 25)))) HR1.out.1 HR1.out.2 (HJ.out.1.below ((Below.refl w12.heap.size w12).alloc (Nat.le_refl _) (.cells #[.slice none 0 0, .slice none 0 0, .slice none 0 0] 25))) HJ.out.2.1 HJ.out.2.2 (by have := HNN.out; omega)).mono ?_); rintro e w13 ⟨oa, ob, od, oc, rfl, hl, hr, ho, hb⟩; obtain ⟨o1, m1, k1, hv1⟩ := hl.cells.slice; obtain ⟨o2, m2, k2, hv2⟩ := hl.wipes.slice; obtain ⟨o3, m3, k3, hv3⟩ := hl.sibs.slice; subst hv1 hv2 hv3; have hb3 := below_then ((Below.refl w12.heap.size w12).alloc (Nat.le_refl _) (.cells #[.slice none 0 0, .slice none 0 0, .slice none 0 0] 25)) (Nat.le_refl _) hb; have HB13 := Lib.hid (below_then HB12.out (Nat.le_refl _) hb3); have HO := Lib.hid (And.intro hl (And.intro hr ho)); obtain ⟨⟨-, s1, s2, s3, -⟩, ⟨-, s4, s5, s6, -⟩, ⟨-, s7, s8, s9, -⟩⟩ := (show C3 w13 n3 (.slice p1 q1 r1) (.slice p2 q2 r2) (.slice p3 q3 r3) ∧ C3 w13 (n3 + 1) (.slice p4 q4 r4) (.slice p5 q5 r5) (.slice p6 q6 r6) ∧ C3 w13 (n3 + 1 + 1) (.slice p7 q7 r7) (.slice p8 q8 r8) (.slice p9 q9 r9) from ⟨HX12.out.1.below hb3, HX12.out.2.1.below hb3, HX12.out.2.2.below hb3⟩); have HK := Lib.hid ((C3.new w12 (.slice none 0 0) (.slice none 0 0) (.slice none 0 0)).below hb); obtain ⟨kl, c0, c1, c2, f0, f1, f2⟩ := HK.out; have hs13 : n3 + 1 + 1 < w13.heap.size := Nat.lt_of_lt_of_le HX12.out.2.2.lt hb3.size; have na13 : w13.heap.size ≠ n3 := (by omega); have nb13 : w13.heap.size ≠ n3 + 1 := (by omega); have nc13 : w13.heap.size ≠ n3 + 1 + 1 := (by omega); clear hl hr ho hb hb3)
      | (go_simp; go_at_call 7; (with_reducible refine (HJ1.out _ ((Below.refl w10.heap.size w10).drew)).mono ?_); rintro e w12 ⟨ja, jb, jd, jc, rfl, hl, hr, ho, hb⟩; have hb2 := below_then ((Below.refl w10.heap.size w10).drew) (Nat.le_refl _) hb; have HB12 := Lib.hid hb2; have HJ := Lib.hid (And.intro hl (And.intro hr ho)); have HX12 := Lib.hid (show C3 w12 n3 (.slice p1 q1 r1) (.slice p2 q2 r2) (.slice p3 q3 r3) ∧ C3 w12 (n3 + 1) (.slice p4 q4 r4) (.slice p5 q5 r5) (.slice p6 q6 r6) ∧ C3 w12 (n3 + 1 + 1) (.slice p7 q7 r7) (.slice p8 q8 r8) (.slice p9 q9 r9) from ⟨HX10.out.1.below hb2, HX10.out.2.1.below hb2, HX10.out.2.2.below hb2⟩); obtain ⟨⟨-, s1, s2, s3, -⟩, ⟨-, s4, s5, s6, -⟩, ⟨-, s7, s8, s9, -⟩⟩ := HX12.out; have hs12 : n3 + 1 + 1 < w12.heap.size := HX12.out.2.2.lt; have na12 : w12.heap.size ≠ n3 := (by omega); have nb12 : w12.heap.size ≠ n3 + 1 := (by omega); have nc12 : w12.heap.size ≠ n3 + 1 + 1 := (by omega); clear hl hr ho hb hb2)
      | (go_simp; go_at_call 7; (with_reducible refine (HJ1.out _ (((Below.refl w10.heap.size w10).alloc (Nat.le_refl _) (.cells #[.slice none 0 0, .slice none 0 0, .slice none 0 0] 25)).drew)).mono ?_); rintro e w12 ⟨ja, jb, jd, jc, rfl, hl, hr, ho, hb⟩; have hb2 := below_then (((Below.refl w10.heap.size w10).alloc (Nat.le_refl _) (.cells #[.slice none 0 0, .slice none 0 0, .slice none 0 0] 25)).drew) (Nat.le_refl _) hb; have HB12 := Lib.hid hb2; have HJ := Lib.hid (And.intro hl (And.intro hr ho)); have HX12 := Lib.hid (show C3 w12 n3 (.slice p1 q1 r1) (.slice p2 q2 r2) (.slice p3 q3 r3) ∧ C3 w12 (n3 + 1) (.slice p4 q4 r4) (.slice p5 q5 r5) (.slice p6 q6 r6) ∧ C3 w12 (n3 + 1 + 1) (.slice p7 q7 r7) (.slice p8 q8 r8) (.slice p9 q9 r9) from ⟨HX10.out.1.below hb2, HX10.out.2.1.below hb2, HX10.out.2.2.below hb2⟩); obtain ⟨⟨-, s1, s2, s3, -⟩, ⟨-, s4, s5, s6, -⟩, ⟨-, s7, s8, s9, -⟩⟩ := HX12.out; have HK := Lib.hid ((C3.new w10 (.slice none 0 0) (.slice none 0 0) (.slice none 0 0)).below (below_then (((Below.refl _ (w10.alloc (.cells #[.slice none 0 0, .slice none 0 0, .slice none 0 0] 25)))).drew) (Nat.le_refl _) hb)); have hs12 : n3 + 1 + 1 < w12.heap.size := HX12.out.2.2.lt; have na12 : w12.heap.size ≠ n3 := (by omega); have nb12 : w12.heap.size ≠ n3 + 1 := (by omega); have nc12 : w12.heap.size ≠ n3 + 1 + 1 := (by omega); clear hl hr ho hb hb2))
    · go_wp2_with fail
      go_meet
      exact ⟨w13.heap.size, o1, m1, k1, o2, m2, k2, o3, m3, k3, oc, rfl, HB13.out.size, C3.new _ _ _ _, HO.out.1.below ((Below.refl _ _).alloc (Nat.le_refl _) _), HO.out.2.1, HO.out.2.2, HB13.out.alloc HB13.out.size _⟩
    · go_wp2_with fail
      go_meet
      exact ⟨_, o1, m1, k1, o2, m2, k2, o3, m3, k3, oc, rfl, HB12.out.size, c3_put HK.out _ _ _, HO.out.1.plain3 (plain3 HK.out _ _ _), HO.out.2.1, HO.out.2.2, c3_put_below HB13.out HB12.out.size _ _ _⟩
    · go_wp2_with fail
      go_meet
      exact ⟨_, o1, m1, k1, o2, m2, k2, o3, m3, k3, oc, rfl, Nat.le_refl _, c3_put HK.out _ _ _, HO.out.1.plain3 (plain3 HK.out _ _ _), HO.out.2.1, HO.out.2.2, c3_put_below HB13.out (Nat.le_refl _) _ _ _⟩
  case rest =>
    obtain ⟨kk, o1, m1, k1, o2, m2, k2, o3, m3, k3, cone, rfl, hkk, hc, hl, hr, ho, hb⟩ := hcut
    have HRo := Lib.hid (And.intro hr ho)
    have HLl := Lib.hid (And.intro hLl (And.intro l1 (And.intro l2 l3)))
    have HTc := Lib.hid (HT10.out.below hb)
    have hb0 := (Below.refl wc.heap.size wc).drew
    have HH0 := Lib.hid ((HasC.cons hl (HL10.out.below hb)).below hb0)
    have RR0 := Lib.hid ((HR10.out.below hb).below hb0)
    have BB0 := Lib.hid hb0
    have BBw := Lib.hid (below_then HB10.out (Nat.le_refl _) hb)
    have XX0 := Lib.hid (show C3 wc.drew n3 (.slice p1 q1 r1) (.slice p2 q2 r2) (.slice p3 q3 r3) ∧ C3 wc.drew (n3 + 1) (.slice p4 q4 r4) (.slice p5 q5 r5) (.slice p6 q6 r6) ∧ C3 wc.drew (n3 + 1 + 1) (.slice p7 q7 r7) (.slice p8 q8 r8) (.slice p9 q9 r9) ∧ C3 wc.drew kk (.slice o1 m1 k1) (.slice o2 m2 k2) (.slice o3 m3 k3) from ⟨(HX10.out.1.below hb).below hb0, (HX10.out.2.1.below hb).below hb0, (HX10.out.2.2.below hb).below hb0, hc.below hb0⟩)
    have hS0 : wc.drew.cell? ⟨n3, 0, none⟩ = some (.slice p1 q1 r1) ∧ wc.drew.cell? ⟨n3, 1, none⟩ = some (.slice p2 q2 r2) ∧ wc.drew.cell? ⟨n3, 2, none⟩ = some (.slice p3 q3 r3) ∧ wc.drew.cell? ⟨n3 + 1, 0, none⟩ = some (.slice p4 q4 r4) ∧ wc.drew.cell? ⟨n3 + 1, 1, none⟩ = some (.slice p5 q5 r5) ∧ wc.drew.cell? ⟨n3 + 1, 2, none⟩ = some (.slice p6 q6 r6) ∧ wc.drew.cell? ⟨n3 + 1 + 1, 0, none⟩ = some (.slice p7 q7 r7) ∧ wc.drew.cell? ⟨n3 + 1 + 1, 1, none⟩ = some (.slice p8 q8 r8) ∧ wc.drew.cell? ⟨n3 + 1 + 1, 2, none⟩ = some (.slice p9 q9 r9) ∧ wc.drew.cell? ⟨kk, 0, none⟩ = some (.slice o1 m1 k1) ∧ wc.drew.cell? ⟨kk, 1, none⟩ = some (.slice o2 m2 k2) ∧ wc.drew.cell? ⟨kk, 2, none⟩ = some (.slice o3 m3 k3) := ⟨XX0.out.1.c0, XX0.out.1.c1, XX0.out.1.c2, XX0.out.2.1.c0, XX0.out.2.1.c1, XX0.out.2.1.c2, XX0.out.2.2.1.c0, XX0.out.2.2.1.c1, XX0.out.2.2.1.c2, XX0.out.2.2.2.c0, XX0.out.2.2.2.c1, XX0.out.2.2.2.c2⟩
    clear hr ho hl hb hc hb0 HL10 HR10 HX10 HT10 HB10 hkk hLl l1 l2 l3
    go_wp2_with fail
    go_region_held3 (fun w' => w'.cell? ⟨n3, 0, none⟩ = some (.slice p1 q1 r1) ∧ w'.cell? ⟨n3, 1, none⟩ = some (.slice p2 q2 r2) ∧ w'.cell? ⟨n3, 2, none⟩ = some (.slice p3 q3 r3) ∧ w'.cell? ⟨n3 + 1, 0, none⟩ = some (.slice p4 q4 r4) ∧ w'.cell? ⟨n3 + 1, 1, none⟩ = some (.slice p5 q5 r5) ∧ w'.cell? ⟨n3 + 1, 2, none⟩ = some (.slice p6 q6 r6) ∧ w'.cell? ⟨n3 + 1 + 1, 0, none⟩ = some (.slice p7 q7 r7) ∧ w'.cell? ⟨n3 + 1 + 1, 1, none⟩ = some (.slice p8 q8 r8) ∧ w'.cell? ⟨n3 + 1 + 1, 2, none⟩ = some (.slice p9 q9 r9) ∧ w'.cell? ⟨kk, 0, none⟩ = some (.slice o1 m1 k1) ∧ w'.cell? ⟨kk, 1, none⟩ = some (.slice o2 m2 k2) ∧ w'.cell? ⟨kk, 2, none⟩ = some (.slice o3 m3 k3)) (first | assumption | go_keep) (first
      | (go_simp; go_at_call 10; (with_reducible refine (alive_any _ (HTc.out.below BB17.out)).mono ?_); rintro e v18 ⟨rfl, hb⟩; have HH18 := Lib.hid (HH17.out.below hb); have RR18 := Lib.hid (RR17.out.below hb); have BB18 := Lib.hid (below_then BB17.out (Nat.le_refl _) hb); have XX18 := Lib.hid (show C3 v18 n3 (.slice p1 q1 r1) (.slice p2 q2 r2) (.slice p3 q3 r3) ∧ C3 v18 (n3 + 1) (.slice p4 q4 r4) (.slice p5 q5 r5) (.slice p6 q6 r6) ∧ C3 v18 (n3 + 1 + 1) (.slice p7 q7 r7) (.slice p8 q8 r8) (.slice p9 q9 r9) ∧ C3 v18 kk (.slice o1 m1 k1) (.slice o2 m2 k2) (.slice o3 m3 k3) from ⟨XX17.out.1.below hb, XX17.out.2.1.below hb, XX17.out.2.2.1.below hb, XX17.out.2.2.2.below hb⟩); have hS18 : v18.cell? ⟨n3, 0, none⟩ = some (.slice p1 q1 r1) ∧ v18.cell? ⟨n3, 1, none⟩ = some (.slice p2 q2 r2) ∧ v18.cell? ⟨n3, 2, none⟩ = some (.slice p3 q3 r3) ∧ v18.cell? ⟨n3 + 1, 0, none⟩ = some (.slice p4 q4 r4) ∧ v18.cell? ⟨n3 + 1, 1, none⟩ = some (.slice p5 q5 r5) ∧ v18.cell? ⟨n3 + 1, 2, none⟩ = some (.slice p6 q6 r6) ∧ v18.cell? ⟨n3 + 1 + 1, 0, none⟩ = some (.slice p7 q7 r7) ∧ v18.cell? ⟨n3 + 1 + 1, 1, none⟩ = some (.slice p8 q8 r8) ∧ v18.cell? ⟨n3 + 1 + 1, 2, none⟩ = some (.slice p9 q9 r9) ∧ v18.cell? ⟨kk, 0, none⟩ = some (.slice o1 m1 k1) ∧ v18.cell? ⟨kk, 1, none⟩ = some (.slice o2 m2 k2) ∧ v18.cell? ⟨kk, 2, none⟩ = some (.slice o3 m3 k3) := ⟨XX18.out.1.c0, XX18.out.1.c1, XX18.out.1.c2, XX18.out.2.1.c0, XX18.out.2.1.c1, XX18.out.2.1.c2, XX18.out.2.2.1.c0, XX18.out.2.2.1.c1, XX18.out.2.2.1.c2, XX18.out.2.2.2.c0, XX18.out.2.2.2.c1, XX18.out.2.2.2.c2⟩; clear hb HH17 RR17 BB17 XX17 hS17)
      | (go_simp; go_at_call 8; (with_reducible refine (same_con aO3 bO3 dO3 aJ4 bJ4 dJ4 cO3 cJ4 _ _ R1.length (R2.length + R3.length) _ true ⟨fun _ => HRO3.out.1.unique (HRJ4.out.1.same (fun u => fits_two HPO3.out HPO4.out HPO5.out u)), fun _ => rfl⟩ (HH16.out.get (by simp)) HRO3.out.1 HRO3.out.2 (HH16.out.get (by simp)) HRJ4.out.1 HRJ4.out.2 (by have := HNN.out; have := HLN.out; have := HLl.out; have := HR1.out.2.len; first | omega | (simp only [List.length_reverse]; omega) | (have h1 := HPO3.out.length_eq; have h2 := HPO4.out.length_eq; have h3 := HPO5.out.length_eq; rw [List.length_map] at h1 h2 h3; omega)) (by have := HNN.out; have := HLN.out; have := HLl.out; have := HR1.out.2.len; first | omega | (simp only [List.length_reverse]; omega) | (have h1 := HPO3.out.length_eq; have h2 := HPO4.out.length_eq; have h3 := HPO5.out.length_eq; rw [List.length_map] at h1 h2 h3; omega))).mono ?_); rintro e v17 ⟨rfl, hb⟩; have HH17 := Lib.hid (HH16.out.below hb); have RR17 := Lib.hid (RR16.out.below hb); have BB17 := Lib.hid (below_then BB16.out (Nat.le_refl _) hb); have XX17 := Lib.hid (show C3 v17 n3 (.slice p1 q1 r1) (.slice p2 q2 r2) (.slice p3 q3 r3) ∧ C3 v17 (n3 + 1) (.slice p4 q4 r4) (.slice p5 q5 r5) (.slice p6 q6 r6) ∧ C3 v17 (n3 + 1 + 1) (.slice p7 q7 r7) (.slice p8 q8 r8) (.slice p9 q9 r9) ∧ C3 v17 kk (.slice o1 m1 k1) (.slice o2 m2 k2) (.slice o3 m3 k3) from ⟨XX16.out.1.below hb, XX16.out.2.1.below hb, XX16.out.2.2.1.below hb, XX16.out.2.2.2.below hb⟩); have hS17 : v17.cell? ⟨n3, 0, none⟩ = some (.slice p1 q1 r1) ∧ v17.cell? ⟨n3, 1, none⟩ = some (.slice p2 q2 r2) ∧ v17.cell? ⟨n3, 2, none⟩ = some (.slice p3 q3 r3) ∧ v17.cell? ⟨n3 + 1, 0, none⟩ = some (.slice p4 q4 r4) ∧ v17.cell? ⟨n3 + 1, 1, none⟩ = some (.slice p5 q5 r5) ∧ v17.cell? ⟨n3 + 1, 2, none⟩ = some (.slice p6 q6 r6) ∧ v17.cell? ⟨n3 + 1 + 1, 0, none⟩ = some (.slice p7 q7 r7) ∧ v17.cell? ⟨n3 + 1 + 1, 1, none⟩ = some (.slice p8 q8 r8) ∧ v17.cell? ⟨n3 + 1 + 1, 2, none⟩ = some (.slice p9 q9 r9) ∧ v17.cell? ⟨kk, 0, none⟩ = some (.slice o1 m1 k1) ∧ v17.cell? ⟨kk, 1, none⟩ = some (.slice o2 m2 k2) ∧ v17.cell? ⟨kk, 2, none⟩ = some (.slice o3 m3 k3) := ⟨XX17.out.1.c0, XX17.out.1.c1, XX17.out.1.c2, XX17.out.2.1.c0, XX17.out.2.1.c1, XX17.out.2.1.c2, XX17.out.2.2.1.c0, XX17.out.2.2.1.c1, XX17.out.2.2.1.c2, XX17.out.2.2.2.c0, XX17.out.2.2.2.c1, XX17.out.2.2.2.c2⟩; clear hb HH16 RR16 BB16 XX16 hS16)
      | (go_simp; go_at_call 7; (with_reducible refine (join_any aO4 bO4 dO4 aO5 bO5 dO5 cO4 cO5 _ _ R2.length R3.length _ (HTc.out.below BB15.out) (HH15.out.get (by simp)) HRO4.out.1 HRO4.out.2 (HH15.out.get (by simp)) HRO5.out.1 HRO5.out.2 (by have := HNN.out; have := HLN.out; have := HLl.out; have := HR1.out.2.len; first | omega | (simp only [List.length_reverse]; omega) | (have h1 := HPO3.out.length_eq; have h2 := HPO4.out.length_eq; have h3 := HPO5.out.length_eq; rw [List.length_map] at h1 h2 h3; omega))).mono ?_); rintro e v16 ⟨aJ4, bJ4, dJ4, cJ4, rfl, hl, hr, ho, hb⟩; have HRJ4 := Lib.hid (And.intro hr ho); have HH16 := Lib.hid (HasC.cons hl (HH15.out.below hb)); have RR16 := Lib.hid (RR15.out.below hb); have BB16 := Lib.hid (below_then BB15.out (Nat.le_refl _) hb); have XX16 := Lib.hid (show C3 v16 n3 (.slice p1 q1 r1) (.slice p2 q2 r2) (.slice p3 q3 r3) ∧ C3 v16 (n3 + 1) (.slice p4 q4 r4) (.slice p5 q5 r5) (.slice p6 q6 r6) ∧ C3 v16 (n3 + 1 + 1) (.slice p7 q7 r7) (.slice p8 q8 r8) (.slice p9 q9 r9) ∧ C3 v16 kk (.slice o1 m1 k1) (.slice o2 m2 k2) (.slice o3 m3 k3) from ⟨XX15.out.1.below hb, XX15.out.2.1.below hb, XX15.out.2.2.1.below hb, XX15.out.2.2.2.below hb⟩); have hS16 : v16.cell? ⟨n3, 0, none⟩ = some (.slice p1 q1 r1) ∧ v16.cell? ⟨n3, 1, none⟩ = some (.slice p2 q2 r2) ∧ v16.cell? ⟨n3, 2, none⟩ = some (.slice p3 q3 r3) ∧ v16.cell? ⟨n3 + 1, 0, none⟩ = some (.slice p4 q4 r4) ∧ v16.cell? ⟨n3 + 1, 1, none⟩ = some (.slice p5 q5 r5) ∧ v16.cell? ⟨n3 + 1, 2, none⟩ = some (.slice p6 q6 r6) ∧ v16.cell? ⟨n3 + 1 + 1, 0, none⟩ = some (.slice p7 q7 r7) ∧ v16.cell? ⟨n3 + 1 + 1, 1, none⟩ = some (.slice p8 q8 r8) ∧ v16.cell? ⟨n3 + 1 + 1, 2, none⟩ = some (.slice p9 q9 r9) ∧ v16.cell? ⟨kk, 0, none⟩ = some (.slice o1 m1 k1) ∧ v16.cell? ⟨kk, 1, none⟩ = some (.slice o2 m2 k2) ∧ v16.cell? ⟨kk, 2, none⟩ = some (.slice o3 m3 k3) := ⟨XX16.out.1.c0, XX16.out.1.c1, XX16.out.1.c2, XX16.out.2.1.c0, XX16.out.2.1.c1, XX16.out.2.1.c2, XX16.out.2.2.1.c0, XX16.out.2.2.1.c1, XX16.out.2.2.1.c2, XX16.out.2.2.2.c0, XX16.out.2.2.2.c1, XX16.out.2.2.2.c2⟩; clear hb HH15 RR15 BB15 XX15 hS15 hl hr ho)
      | (go_simp; go_at_call 5; (with_reducible refine (of_any (.slice (some ⟨g3, 0, none⟩) x.all.length k13) R3 _ (HTc.out.below BB14.out) (RR14.out.get (by simp)) (by have := HLN.out; have := HLl.out; first | omega | (simp only [List.length_reverse]; omega) | (have h := HPO5.out.length_eq; rw [List.length_map] at h; have := HR1.out.2.len; have := HNN.out; omega)) (fun q hq => small_right (HR1.out.2.right _ (HPO5.out.mem_iff.1 (List.mem_map.2 ⟨q, hq, rfl⟩))))).mono ?_); rintro e v15 ⟨aO5, bO5, dO5, cO5, rfl, hl, hr, ho, hb⟩; have HRO5 := Lib.hid (And.intro hr ho); have HH15 := Lib.hid (HasC.cons hl (HH14.out.below hb)); have RR15 := Lib.hid (RR14.out.below hb); have BB15 := Lib.hid (below_then BB14.out (Nat.le_refl _) hb); have XX15 := Lib.hid (show C3 v15 n3 (.slice p1 q1 r1) (.slice p2 q2 r2) (.slice p3 q3 r3) ∧ C3 v15 (n3 + 1) (.slice p4 q4 r4) (.slice p5 q5 r5) (.slice p6 q6 r6) ∧ C3 v15 (n3 + 1 + 1) (.slice p7 q7 r7) (.slice p8 q8 r8) (.slice p9 q9 r9) ∧ C3 v15 kk (.slice o1 m1 k1) (.slice o2 m2 k2) (.slice o3 m3 k3) from ⟨XX14.out.1.below hb, XX14.out.2.1.below hb, XX14.out.2.2.1.below hb, XX14.out.2.2.2.below hb⟩); have hS15 : v15.cell? ⟨n3, 0, none⟩ = some (.slice p1 q1 r1) ∧ v15.cell? ⟨n3, 1, none⟩ = some (.slice p2 q2 r2) ∧ v15.cell? ⟨n3, 2, none⟩ = some (.slice p3 q3 r3) ∧ v15.cell? ⟨n3 + 1, 0, none⟩ = some (.slice p4 q4 r4) ∧ v15.cell? ⟨n3 + 1, 1, none⟩ = some (.slice p5 q5 r5) ∧ v15.cell? ⟨n3 + 1, 2, none⟩ = some (.slice p6 q6 r6) ∧ v15.cell? ⟨n3 + 1 + 1, 0, none⟩ = some (.slice p7 q7 r7) ∧ v15.cell? ⟨n3 + 1 + 1, 1, none⟩ = some (.slice p8 q8 r8) ∧ v15.cell? ⟨n3 + 1 + 1, 2, none⟩ = some (.slice p9 q9 r9) ∧ v15.cell? ⟨kk, 0, none⟩ = some (.slice o1 m1 k1) ∧ v15.cell? ⟨kk, 1, none⟩ = some (.slice o2 m2 k2) ∧ v15.cell? ⟨kk, 2, none⟩ = some (.slice o3 m3 k3) := ⟨XX15.out.1.c0, XX15.out.1.c1, XX15.out.1.c2, XX15.out.2.1.c0, XX15.out.2.1.c1, XX15.out.2.1.c2, XX15.out.2.2.1.c0, XX15.out.2.2.1.c1, XX15.out.2.2.1.c2, XX15.out.2.2.2.c0, XX15.out.2.2.2.c1, XX15.out.2.2.2.c2⟩; clear hb HH14 RR14 BB14 XX14 hS14 hl hr ho)
      | (go_simp; go_at_call 9; (with_reducible refine (all_any (.slice p1 q1 r1) (.slice p2 q2 r2) (.slice p3 q3 r3) x A.length _ (HH13.out.get (by simp)) HR1.out.2 (by have := HNN.out; have := HLN.out; have := HLl.out; have := HR1.out.2.len; first | omega | (simp only [List.length_reverse]; omega) | (have h1 := HPO3.out.length_eq; have h2 := HPO4.out.length_eq; have h3 := HPO5.out.length_eq; rw [List.length_map] at h1 h2 h3; omega))).mono ?_); rintro e v14 ⟨g3, k13, R3, rfl, hcop, hperm, -, hb⟩; have HH14 := Lib.hid (HH13.out.below hb); have RR14 := Lib.hid (HasR.cons hcop.mrow (RR13.out.below hb)); have BB14 := Lib.hid (below_then BB13.out (Nat.le_refl _) hb); have XX14 := Lib.hid (show C3 v14 n3 (.slice p1 q1 r1) (.slice p2 q2 r2) (.slice p3 q3 r3) ∧ C3 v14 (n3 + 1) (.slice p4 q4 r4) (.slice p5 q5 r5) (.slice p6 q6 r6) ∧ C3 v14 (n3 + 1 + 1) (.slice p7 q7 r7) (.slice p8 q8 r8) (.slice p9 q9 r9) ∧ C3 v14 kk (.slice o1 m1 k1) (.slice o2 m2 k2) (.slice o3 m3 k3) from ⟨XX13.out.1.below hb, XX13.out.2.1.below hb, XX13.out.2.2.1.below hb, XX13.out.2.2.2.below hb⟩); have hS14 : v14.cell? ⟨n3, 0, none⟩ = some (.slice p1 q1 r1) ∧ v14.cell? ⟨n3, 1, none⟩ = some (.slice p2 q2 r2) ∧ v14.cell? ⟨n3, 2, none⟩ = some (.slice p3 q3 r3) ∧ v14.cell? ⟨n3 + 1, 0, none⟩ = some (.slice p4 q4 r4) ∧ v14.cell? ⟨n3 + 1, 1, none⟩ = some (.slice p5 q5 r5) ∧ v14.cell? ⟨n3 + 1, 2, none⟩ = some (.slice p6 q6 r6) ∧ v14.cell? ⟨n3 + 1 + 1, 0, none⟩ = some (.slice p7 q7 r7) ∧ v14.cell? ⟨n3 + 1 + 1, 1, none⟩ = some (.slice p8 q8 r8) ∧ v14.cell? ⟨n3 + 1 + 1, 2, none⟩ = some (.slice p9 q9 r9) ∧ v14.cell? ⟨kk, 0, none⟩ = some (.slice o1 m1 k1) ∧ v14.cell? ⟨kk, 1, none⟩ = some (.slice o2 m2 k2) ∧ v14.cell? ⟨kk, 2, none⟩ = some (.slice o3 m3 k3) := ⟨XX14.out.1.c0, XX14.out.1.c1, XX14.out.1.c2, XX14.out.2.1.c0, XX14.out.2.1.c1, XX14.out.2.1.c2, XX14.out.2.2.1.c0, XX14.out.2.2.1.c1, XX14.out.2.2.1.c2, XX14.out.2.2.2.c0, XX14.out.2.2.2.c1, XX14.out.2.2.2.c2⟩; have HPO5 := Lib.hid hperm; clear hb HH13 RR13 BB13 XX13 hS13; clear hcop hperm)
      | (go_simp; go_at_call 5; (with_reducible refine (of_any (.slice (some ⟨g2, 0, none⟩) x.all.length k12) R2 _ (HTc.out.below BB12.out) (RR12.out.get (by simp)) (by have := HLN.out; have := HLl.out; first | omega | (simp only [List.length_reverse]; omega) | (have h := HPO4.out.length_eq; rw [List.length_map] at h; have := HR1.out.2.len; have := HNN.out; omega)) (fun q hq => small_right (HR1.out.2.right _ (HPO4.out.mem_iff.1 (List.mem_map.2 ⟨q, hq, rfl⟩))))).mono ?_); rintro e v13 ⟨aO4, bO4, dO4, cO4, rfl, hl, hr, ho, hb⟩; have HRO4 := Lib.hid (And.intro hr ho); have HH13 := Lib.hid (HasC.cons hl (HH12.out.below hb)); have RR13 := Lib.hid (RR12.out.below hb); have BB13 := Lib.hid (below_then BB12.out (Nat.le_refl _) hb); have XX13 := Lib.hid (show C3 v13 n3 (.slice p1 q1 r1) (.slice p2 q2 r2) (.slice p3 q3 r3) ∧ C3 v13 (n3 + 1) (.slice p4 q4 r4) (.slice p5 q5 r5) (.slice p6 q6 r6) ∧ C3 v13 (n3 + 1 + 1) (.slice p7 q7 r7) (.slice p8 q8 r8) (.slice p9 q9 r9) ∧ C3 v13 kk (.slice o1 m1 k1) (.slice o2 m2 k2) (.slice o3 m3 k3) from ⟨XX12.out.1.below hb, XX12.out.2.1.below hb, XX12.out.2.2.1.below hb, XX12.out.2.2.2.below hb⟩); have hS13 : v13.cell? ⟨n3, 0, none⟩ = some (.slice p1 q1 r1) ∧ v13.cell? ⟨n3, 1, none⟩ = some (.slice p2 q2 r2) ∧ v13.cell? ⟨n3, 2, none⟩ = some (.slice p3 q3 r3) ∧ v13.cell? ⟨n3 + 1, 0, none⟩ = some (.slice p4 q4 r4) ∧ v13.cell? ⟨n3 + 1, 1, none⟩ = some (.slice p5 q5 r5) ∧ v13.cell? ⟨n3 + 1, 2, none⟩ = some (.slice p6 q6 r6) ∧ v13.cell? ⟨n3 + 1 + 1, 0, none⟩ = some (.slice p7 q7 r7) ∧ v13.cell? ⟨n3 + 1 + 1, 1, none⟩ = some (.slice p8 q8 r8) ∧ v13.cell? ⟨n3 + 1 + 1, 2, none⟩ = some (.slice p9 q9 r9) ∧ v13.cell? ⟨kk, 0, none⟩ = some (.slice o1 m1 k1) ∧ v13.cell? ⟨kk, 1, none⟩ = some (.slice o2 m2 k2) ∧ v13.cell? ⟨kk, 2, none⟩ = some (.slice o3 m3 k3) := ⟨XX13.out.1.c0, XX13.out.1.c1, XX13.out.1.c2, XX13.out.2.1.c0, XX13.out.2.1.c1, XX13.out.2.1.c2, XX13.out.2.2.1.c0, XX13.out.2.2.1.c1, XX13.out.2.2.1.c2, XX13.out.2.2.2.c0, XX13.out.2.2.2.c1, XX13.out.2.2.2.c2⟩; clear hb HH12 RR12 BB12 XX12 hS12 hl hr ho)
      | (go_simp; go_at_call 9; (with_reducible refine (all_any (.slice p1 q1 r1) (.slice p2 q2 r2) (.slice p3 q3 r3) x A.length _ (HH11.out.get (by simp)) HR1.out.2 (by have := HNN.out; have := HLN.out; have := HLl.out; have := HR1.out.2.len; first | omega | (simp only [List.length_reverse]; omega) | (have h1 := HPO3.out.length_eq; have h2 := HPO4.out.length_eq; have h3 := HPO5.out.length_eq; rw [List.length_map] at h1 h2 h3; omega))).mono ?_); rintro e v12 ⟨g2, k12, R2, rfl, hcop, hperm, -, hb⟩; have HH12 := Lib.hid (HH11.out.below hb); have RR12 := Lib.hid (HasR.cons hcop.mrow (RR11.out.below hb)); have BB12 := Lib.hid (below_then BB11.out (Nat.le_refl _) hb); have XX12 := Lib.hid (show C3 v12 n3 (.slice p1 q1 r1) (.slice p2 q2 r2) (.slice p3 q3 r3) ∧ C3 v12 (n3 + 1) (.slice p4 q4 r4) (.slice p5 q5 r5) (.slice p6 q6 r6) ∧ C3 v12 (n3 + 1 + 1) (.slice p7 q7 r7) (.slice p8 q8 r8) (.slice p9 q9 r9) ∧ C3 v12 kk (.slice o1 m1 k1) (.slice o2 m2 k2) (.slice o3 m3 k3) from ⟨XX11.out.1.below hb, XX11.out.2.1.below hb, XX11.out.2.2.1.below hb, XX11.out.2.2.2.below hb⟩); have hS12 : v12.cell? ⟨n3, 0, none⟩ = some (.slice p1 q1 r1) ∧ v12.cell? ⟨n3, 1, none⟩ = some (.slice p2 q2 r2) ∧ v12.cell? ⟨n3, 2, none⟩ = some (.slice p3 q3 r3) ∧ v12.cell? ⟨n3 + 1, 0, none⟩ = some (.slice p4 q4 r4) ∧ v12.cell? ⟨n3 + 1, 1, none⟩ = some (.slice p5 q5 r5) ∧ v12.cell? ⟨n3 + 1, 2, none⟩ = some (.slice p6 q6 r6) ∧ v12.cell? ⟨n3 + 1 + 1, 0, none⟩ = some (.slice p7 q7 r7) ∧ v12.cell? ⟨n3 + 1 + 1, 1, none⟩ = some (.slice p8 q8 r8) ∧ v12.cell? ⟨n3 + 1 + 1, 2, none⟩ = some (.slice p9 q9 r9) ∧ v12.cell? ⟨kk, 0, none⟩ = some (.slice o1 m1 k1) ∧ v12.cell? ⟨kk, 1, none⟩ = some (.slice o2 m2 k2) ∧ v12.cell? ⟨kk, 2, none⟩ = some (.slice o3 m3 k3) := ⟨XX12.out.1.c0, XX12.out.1.c1, XX12.out.1.c2, XX12.out.2.1.c0, XX12.out.2.1.c1, XX12.out.2.1.c2, XX12.out.2.2.1.c0, XX12.out.2.2.1.c1, XX12.out.2.2.1.c2, XX12.out.2.2.2.c0, XX12.out.2.2.2.c1, XX12.out.2.2.2.c2⟩; have HPO4 := Lib.hid hperm; clear hb HH11 RR11 BB11 XX11 hS11; clear hcop hperm)
      | (go_simp; go_at_call 5; (with_reducible refine (of_any (.slice (some ⟨g1, 0, none⟩) x.all.length k11) R1 _ (HTc.out.below BB10.out) (RR10.out.get (by simp)) (by have := HLN.out; have := HLl.out; first | omega | (simp only [List.length_reverse]; omega) | (have h := HPO3.out.length_eq; rw [List.length_map] at h; have := HR1.out.2.len; have := HNN.out; omega)) (fun q hq => small_right (HR1.out.2.right _ (HPO3.out.mem_iff.1 (List.mem_map.2 ⟨q, hq, rfl⟩))))).mono ?_); rintro e v11 ⟨aO3, bO3, dO3, cO3, rfl, hl, hr, ho, hb⟩; have HRO3 := Lib.hid (And.intro hr ho); have HH11 := Lib.hid (HasC.cons hl (HH10.out.below hb)); have RR11 := Lib.hid (RR10.out.below hb); have BB11 := Lib.hid (below_then BB10.out (Nat.le_refl _) hb); have XX11 := Lib.hid (show C3 v11 n3 (.slice p1 q1 r1) (.slice p2 q2 r2) (.slice p3 q3 r3) ∧ C3 v11 (n3 + 1) (.slice p4 q4 r4) (.slice p5 q5 r5) (.slice p6 q6 r6) ∧ C3 v11 (n3 + 1 + 1) (.slice p7 q7 r7) (.slice p8 q8 r8) (.slice p9 q9 r9) ∧ C3 v11 kk (.slice o1 m1 k1) (.slice o2 m2 k2) (.slice o3 m3 k3) from ⟨XX10.out.1.below hb, XX10.out.2.1.below hb, XX10.out.2.2.1.below hb, XX10.out.2.2.2.below hb⟩); have hS11 : v11.cell? ⟨n3, 0, none⟩ = some (.slice p1 q1 r1) ∧ v11.cell? ⟨n3, 1, none⟩ = some (.slice p2 q2 r2) ∧ v11.cell? ⟨n3, 2, none⟩ = some (.slice p3 q3 r3) ∧ v11.cell? ⟨n3 + 1, 0, none⟩ = some (.slice p4 q4 r4) ∧ v11.cell? ⟨n3 + 1, 1, none⟩ = some (.slice p5 q5 r5) ∧ v11.cell? ⟨n3 + 1, 2, none⟩ = some (.slice p6 q6 r6) ∧ v11.cell? ⟨n3 + 1 + 1, 0, none⟩ = some (.slice p7 q7 r7) ∧ v11.cell? ⟨n3 + 1 + 1, 1, none⟩ = some (.slice p8 q8 r8) ∧ v11.cell? ⟨n3 + 1 + 1, 2, none⟩ = some (.slice p9 q9 r9) ∧ v11.cell? ⟨kk, 0, none⟩ = some (.slice o1 m1 k1) ∧ v11.cell? ⟨kk, 1, none⟩ = some (.slice o2 m2 k2) ∧ v11.cell? ⟨kk, 2, none⟩ = some (.slice o3 m3 k3) := ⟨XX11.out.1.c0, XX11.out.1.c1, XX11.out.1.c2, XX11.out.2.1.c0, XX11.out.2.1.c1, XX11.out.2.1.c2, XX11.out.2.2.1.c0, XX11.out.2.2.1.c1, XX11.out.2.2.1.c2, XX11.out.2.2.2.c0, XX11.out.2.2.2.c1, XX11.out.2.2.2.c2⟩; clear hb HH10 RR10 BB10 XX10 hS10 hl hr ho)
      | (go_simp; go_at_call 9; (with_reducible refine (all_any (.slice p1 q1 r1) (.slice p2 q2 r2) (.slice p3 q3 r3) x A.length _ (HH9.out.get (by simp)) HR1.out.2 (by have := HNN.out; have := HLN.out; have := HLl.out; have := HR1.out.2.len; first | omega | (simp only [List.length_reverse]; omega) | (have h1 := HPO3.out.length_eq; have h2 := HPO4.out.length_eq; have h3 := HPO5.out.length_eq; rw [List.length_map] at h1 h2 h3; omega))).mono ?_); rintro e v10 ⟨g1, k11, R1, rfl, hcop, hperm, -, hb⟩; have HH10 := Lib.hid (HH9.out.below hb); have RR10 := Lib.hid (HasR.cons hcop.mrow (RR9.out.below hb)); have BB10 := Lib.hid (below_then BB9.out (Nat.le_refl _) hb); have XX10 := Lib.hid (show C3 v10 n3 (.slice p1 q1 r1) (.slice p2 q2 r2) (.slice p3 q3 r3) ∧ C3 v10 (n3 + 1) (.slice p4 q4 r4) (.slice p5 q5 r5) (.slice p6 q6 r6) ∧ C3 v10 (n3 + 1 + 1) (.slice p7 q7 r7) (.slice p8 q8 r8) (.slice p9 q9 r9) ∧ C3 v10 kk (.slice o1 m1 k1) (.slice o2 m2 k2) (.slice o3 m3 k3) from ⟨XX9.out.1.below hb, XX9.out.2.1.below hb, XX9.out.2.2.1.below hb, XX9.out.2.2.2.below hb⟩); have hS10 : v10.cell? ⟨n3, 0, none⟩ = some (.slice p1 q1 r1) ∧ v10.cell? ⟨n3, 1, none⟩ = some (.slice p2 q2 r2) ∧ v10.cell? ⟨n3, 2, none⟩ = some (.slice p3 q3 r3) ∧ v10.cell? ⟨n3 + 1, 0, none⟩ = some (.slice p4 q4 r4) ∧ v10.cell? ⟨n3 + 1, 1, none⟩ = some (.slice p5 q5 r5) ∧ v10.cell? ⟨n3 + 1, 2, none⟩ = some (.slice p6 q6 r6) ∧ v10.cell? ⟨n3 + 1 + 1, 0, none⟩ = some (.slice p7 q7 r7) ∧ v10.cell? ⟨n3 + 1 + 1, 1, none⟩ = some (.slice p8 q8 r8) ∧ v10.cell? ⟨n3 + 1 + 1, 2, none⟩ = some (.slice p9 q9 r9) ∧ v10.cell? ⟨kk, 0, none⟩ = some (.slice o1 m1 k1) ∧ v10.cell? ⟨kk, 1, none⟩ = some (.slice o2 m2 k2) ∧ v10.cell? ⟨kk, 2, none⟩ = some (.slice o3 m3 k3) := ⟨XX10.out.1.c0, XX10.out.1.c1, XX10.out.1.c2, XX10.out.2.1.c0, XX10.out.2.1.c1, XX10.out.2.1.c2, XX10.out.2.2.1.c0, XX10.out.2.2.1.c1, XX10.out.2.2.1.c2, XX10.out.2.2.2.c0, XX10.out.2.2.2.c1, XX10.out.2.2.2.c2⟩; have HPO3 := Lib.hid hperm; clear hb HH9 RR9 BB9 XX9 hS9; clear hcop hperm)
      | (go_simp; go_at_call 8; (with_reducible refine (same_con aJ3 bJ3 dJ3 (.slice o1 m1 k1) (.slice o2 m2 k2) (.slice o3 m3 k3) cJ3 cone _ _ ((A.length + (B.length + C.length)) + B.length) (A.length + (B.length + C.length)) _ true ⟨fun _ => HRJ3.out.1.unique (HRo.out.1.same (fun u => or_dup)), fun _ => rfl⟩ (HH8.out.get (by simp)) HRJ3.out.1 HRJ3.out.2 (HH8.out.get (by simp)) HRo.out.1 HRo.out.2 (by have := HNN.out; have := HLN.out; have := HLl.out; have := HR1.out.2.len; first | omega | (simp only [List.length_reverse]; omega) | (have h1 := HPO3.out.length_eq; have h2 := HPO4.out.length_eq; have h3 := HPO5.out.length_eq; rw [List.length_map] at h1 h2 h3; omega)) (by have := HNN.out; have := HLN.out; have := HLl.out; have := HR1.out.2.len; first | omega | (simp only [List.length_reverse]; omega) | (have h1 := HPO3.out.length_eq; have h2 := HPO4.out.length_eq; have h3 := HPO5.out.length_eq; rw [List.length_map] at h1 h2 h3; omega))).mono ?_); rintro e v9 ⟨rfl, hb⟩; have HH9 := Lib.hid (HH8.out.below hb); have RR9 := Lib.hid (RR8.out.below hb); have BB9 := Lib.hid (below_then BB8.out (Nat.le_refl _) hb); have XX9 := Lib.hid (show C3 v9 n3 (.slice p1 q1 r1) (.slice p2 q2 r2) (.slice p3 q3 r3) ∧ C3 v9 (n3 + 1) (.slice p4 q4 r4) (.slice p5 q5 r5) (.slice p6 q6 r6) ∧ C3 v9 (n3 + 1 + 1) (.slice p7 q7 r7) (.slice p8 q8 r8) (.slice p9 q9 r9) ∧ C3 v9 kk (.slice o1 m1 k1) (.slice o2 m2 k2) (.slice o3 m3 k3) from ⟨XX8.out.1.below hb, XX8.out.2.1.below hb, XX8.out.2.2.1.below hb, XX8.out.2.2.2.below hb⟩); have hS9 : v9.cell? ⟨n3, 0, none⟩ = some (.slice p1 q1 r1) ∧ v9.cell? ⟨n3, 1, none⟩ = some (.slice p2 q2 r2) ∧ v9.cell? ⟨n3, 2, none⟩ = some (.slice p3 q3 r3) ∧ v9.cell? ⟨n3 + 1, 0, none⟩ = some (.slice p4 q4 r4) ∧ v9.cell? ⟨n3 + 1, 1, none⟩ = some (.slice p5 q5 r5) ∧ v9.cell? ⟨n3 + 1, 2, none⟩ = some (.slice p6 q6 r6) ∧ v9.cell? ⟨n3 + 1 + 1, 0, none⟩ = some (.slice p7 q7 r7) ∧ v9.cell? ⟨n3 + 1 + 1, 1, none⟩ = some (.slice p8 q8 r8) ∧ v9.cell? ⟨n3 + 1 + 1, 2, none⟩ = some (.slice p9 q9 r9) ∧ v9.cell? ⟨kk, 0, none⟩ = some (.slice o1 m1 k1) ∧ v9.cell? ⟨kk, 1, none⟩ = some (.slice o2 m2 k2) ∧ v9.cell? ⟨kk, 2, none⟩ = some (.slice o3 m3 k3) := ⟨XX9.out.1.c0, XX9.out.1.c1, XX9.out.1.c2, XX9.out.2.1.c0, XX9.out.2.1.c1, XX9.out.2.1.c2, XX9.out.2.2.1.c0, XX9.out.2.2.1.c1, XX9.out.2.2.1.c2, XX9.out.2.2.2.c0, XX9.out.2.2.2.c1, XX9.out.2.2.2.c2⟩; clear hb HH8 RR8 BB8 XX8 hS8)
      | (go_simp; go_at_call 7; (with_reducible refine (join_any (.slice o1 m1 k1) (.slice o2 m2 k2) (.slice o3 m3 k3) (.slice p4 q4 r4) (.slice p5 q5 r5) (.slice p6 q6 r6) cone y _ _ (A.length + (B.length + C.length)) B.length _ (HTc.out.below BB7.out) (HH7.out.get (by simp)) HRo.out.1 HRo.out.2 (HH7.out.get (by simp)) HR2.out.1 HR2.out.2 (by have := HNN.out; have := HLN.out; have := HLl.out; have := HR1.out.2.len; first | omega | (simp only [List.length_reverse]; omega) | (have h1 := HPO3.out.length_eq; have h2 := HPO4.out.length_eq; have h3 := HPO5.out.length_eq; rw [List.length_map] at h1 h2 h3; omega))).mono ?_); rintro e v8 ⟨aJ3, bJ3, dJ3, cJ3, rfl, hl, hr, ho, hb⟩; have HRJ3 := Lib.hid (And.intro hr ho); have HH8 := Lib.hid (HasC.cons hl (HH7.out.below hb)); have RR8 := Lib.hid (RR7.out.below hb); have BB8 := Lib.hid (below_then BB7.out (Nat.le_refl _) hb); have XX8 := Lib.hid (show C3 v8 n3 (.slice p1 q1 r1) (.slice p2 q2 r2) (.slice p3 q3 r3) ∧ C3 v8 (n3 + 1) (.slice p4 q4 r4) (.slice p5 q5 r5) (.slice p6 q6 r6) ∧ C3 v8 (n3 + 1 + 1) (.slice p7 q7 r7) (.slice p8 q8 r8) (.slice p9 q9 r9) ∧ C3 v8 kk (.slice o1 m1 k1) (.slice o2 m2 k2) (.slice o3 m3 k3) from ⟨XX7.out.1.below hb, XX7.out.2.1.below hb, XX7.out.2.2.1.below hb, XX7.out.2.2.2.below hb⟩); have hS8 : v8.cell? ⟨n3, 0, none⟩ = some (.slice p1 q1 r1) ∧ v8.cell? ⟨n3, 1, none⟩ = some (.slice p2 q2 r2) ∧ v8.cell? ⟨n3, 2, none⟩ = some (.slice p3 q3 r3) ∧ v8.cell? ⟨n3 + 1, 0, none⟩ = some (.slice p4 q4 r4) ∧ v8.cell? ⟨n3 + 1, 1, none⟩ = some (.slice p5 q5 r5) ∧ v8.cell? ⟨n3 + 1, 2, none⟩ = some (.slice p6 q6 r6) ∧ v8.cell? ⟨n3 + 1 + 1, 0, none⟩ = some (.slice p7 q7 r7) ∧ v8.cell? ⟨n3 + 1 + 1, 1, none⟩ = some (.slice p8 q8 r8) ∧ v8.cell? ⟨n3 + 1 + 1, 2, none⟩ = some (.slice p9 q9 r9) ∧ v8.cell? ⟨kk, 0, none⟩ = some (.slice o1 m1 k1) ∧ v8.cell? ⟨kk, 1, none⟩ = some (.slice o2 m2 k2) ∧ v8.cell? ⟨kk, 2, none⟩ = some (.slice o3 m3 k3) := ⟨XX8.out.1.c0, XX8.out.1.c1, XX8.out.1.c2, XX8.out.2.1.c0, XX8.out.2.1.c1, XX8.out.2.1.c2, XX8.out.2.2.1.c0, XX8.out.2.2.1.c1, XX8.out.2.2.1.c2, XX8.out.2.2.2.c0, XX8.out.2.2.2.c1, XX8.out.2.2.2.c2⟩; clear hb HH7 RR7 BB7 XX7 hS7 hl hr ho)
      | (go_simp; go_at_call 8; (with_reducible refine (same_con (.slice o1 m1 k1) (.slice o2 m2 k2) (.slice o3 m3 k3) aO2 bO2 dO2 cone cO2 _ _ (A.length + (B.length + C.length)) L.reverse.length _ true ⟨fun _ => HRo.out.1.unique (HRO2.out.1.same (fun u => (fits_rev L u).trans (fits_all HLL.out u))), fun _ => rfl⟩ (HH6.out.get (by simp)) HRo.out.1 HRo.out.2 (HH6.out.get (by simp)) HRO2.out.1 HRO2.out.2 (by have := HNN.out; have := HLN.out; have := HLl.out; have := HR1.out.2.len; first | omega | (simp only [List.length_reverse]; omega) | (have h1 := HPO3.out.length_eq; have h2 := HPO4.out.length_eq; have h3 := HPO5.out.length_eq; rw [List.length_map] at h1 h2 h3; omega)) (by have := HNN.out; have := HLN.out; have := HLl.out; have := HR1.out.2.len; first | omega | (simp only [List.length_reverse]; omega) | (have h1 := HPO3.out.length_eq; have h2 := HPO4.out.length_eq; have h3 := HPO5.out.length_eq; rw [List.length_map] at h1 h2 h3; omega))).mono ?_); rintro e v7 ⟨rfl, hb⟩; have HH7 := Lib.hid (HH6.out.below hb); have RR7 := Lib.hid (RR6.out.below hb); have BB7 := Lib.hid (below_then BB6.out (Nat.le_refl _) hb); have XX7 := Lib.hid (show C3 v7 n3 (.slice p1 q1 r1) (.slice p2 q2 r2) (.slice p3 q3 r3) ∧ C3 v7 (n3 + 1) (.slice p4 q4 r4) (.slice p5 q5 r5) (.slice p6 q6 r6) ∧ C3 v7 (n3 + 1 + 1) (.slice p7 q7 r7) (.slice p8 q8 r8) (.slice p9 q9 r9) ∧ C3 v7 kk (.slice o1 m1 k1) (.slice o2 m2 k2) (.slice o3 m3 k3) from ⟨XX6.out.1.below hb, XX6.out.2.1.below hb, XX6.out.2.2.1.below hb, XX6.out.2.2.2.below hb⟩); have hS7 : v7.cell? ⟨n3, 0, none⟩ = some (.slice p1 q1 r1) ∧ v7.cell? ⟨n3, 1, none⟩ = some (.slice p2 q2 r2) ∧ v7.cell? ⟨n3, 2, none⟩ = some (.slice p3 q3 r3) ∧ v7.cell? ⟨n3 + 1, 0, none⟩ = some (.slice p4 q4 r4) ∧ v7.cell? ⟨n3 + 1, 1, none⟩ = some (.slice p5 q5 r5) ∧ v7.cell? ⟨n3 + 1, 2, none⟩ = some (.slice p6 q6 r6) ∧ v7.cell? ⟨n3 + 1 + 1, 0, none⟩ = some (.slice p7 q7 r7) ∧ v7.cell? ⟨n3 + 1 + 1, 1, none⟩ = some (.slice p8 q8 r8) ∧ v7.cell? ⟨n3 + 1 + 1, 2, none⟩ = some (.slice p9 q9 r9) ∧ v7.cell? ⟨kk, 0, none⟩ = some (.slice o1 m1 k1) ∧ v7.cell? ⟨kk, 1, none⟩ = some (.slice o2 m2 k2) ∧ v7.cell? ⟨kk, 2, none⟩ = some (.slice o3 m3 k3) := ⟨XX7.out.1.c0, XX7.out.1.c1, XX7.out.1.c2, XX7.out.2.1.c0, XX7.out.2.1.c1, XX7.out.2.1.c2, XX7.out.2.2.1.c0, XX7.out.2.2.1.c1, XX7.out.2.2.1.c2, XX7.out.2.2.2.c0, XX7.out.2.2.2.c1, XX7.out.2.2.2.c2⟩; clear hb HH6 RR6 BB6 XX6 hS6)
      | (go_simp; go_at_call 5; (with_reducible refine (of_any v9 L.reverse _ (HTc.out.below BB5.out) (RR5.out.get (by simp)) (by have := HLN.out; have := HLl.out; first | omega | (simp only [List.length_reverse]; omega) | (have h := HPO2.out.length_eq; rw [List.length_map] at h; have := HR1.out.2.len; have := HNN.out; omega)) (fun q hq => HSL.out q (List.mem_reverse.1 hq))).mono ?_); rintro e v6 ⟨aO2, bO2, dO2, cO2, rfl, hl, hr, ho, hb⟩; have HRO2 := Lib.hid (And.intro hr ho); have HH6 := Lib.hid (HasC.cons hl (HH5.out.below hb)); have RR6 := Lib.hid (RR5.out.below hb); have BB6 := Lib.hid (below_then BB5.out (Nat.le_refl _) hb); have XX6 := Lib.hid (show C3 v6 n3 (.slice p1 q1 r1) (.slice p2 q2 r2) (.slice p3 q3 r3) ∧ C3 v6 (n3 + 1) (.slice p4 q4 r4) (.slice p5 q5 r5) (.slice p6 q6 r6) ∧ C3 v6 (n3 + 1 + 1) (.slice p7 q7 r7) (.slice p8 q8 r8) (.slice p9 q9 r9) ∧ C3 v6 kk (.slice o1 m1 k1) (.slice o2 m2 k2) (.slice o3 m3 k3) from ⟨XX5.out.1.below hb, XX5.out.2.1.below hb, XX5.out.2.2.1.below hb, XX5.out.2.2.2.below hb⟩); have hS6 : v6.cell? ⟨n3, 0, none⟩ = some (.slice p1 q1 r1) ∧ v6.cell? ⟨n3, 1, none⟩ = some (.slice p2 q2 r2) ∧ v6.cell? ⟨n3, 2, none⟩ = some (.slice p3 q3 r3) ∧ v6.cell? ⟨n3 + 1, 0, none⟩ = some (.slice p4 q4 r4) ∧ v6.cell? ⟨n3 + 1, 1, none⟩ = some (.slice p5 q5 r5) ∧ v6.cell? ⟨n3 + 1, 2, none⟩ = some (.slice p6 q6 r6) ∧ v6.cell? ⟨n3 + 1 + 1, 0, none⟩ = some (.slice p7 q7 r7) ∧ v6.cell? ⟨n3 + 1 + 1, 1, none⟩ = some (.slice p8 q8 r8) ∧ v6.cell? ⟨n3 + 1 + 1, 2, none⟩ = some (.slice p9 q9 r9) ∧ v6.cell? ⟨kk, 0, none⟩ = some (.slice o1 m1 k1) ∧ v6.cell? ⟨kk, 1, none⟩ = some (.slice o2 m2 k2) ∧ v6.cell? ⟨kk, 2, none⟩ = some (.slice o3 m3 k3) := ⟨XX6.out.1.c0, XX6.out.1.c1, XX6.out.1.c2, XX6.out.2.1.c0, XX6.out.2.1.c1, XX6.out.2.1.c2, XX6.out.2.2.1.c0, XX6.out.2.2.1.c1, XX6.out.2.2.1.c2, XX6.out.2.2.2.c0, XX6.out.2.2.2.c1, XX6.out.2.2.2.c2⟩; clear hb HH5 RR5 BB5 XX5 hS5 hl hr ho)
      | (go_simp; go_at_call 8; (with_reducible refine (same_con (.slice o1 m1 k1) (.slice o2 m2 k2) (.slice o3 m3 k3) aO1 bO1 dO1 cone cO1 _ _ (A.length + (B.length + C.length)) L.length _ true ⟨fun _ => HRo.out.1.unique (HRO1.out.1.same (fun u => fits_all HLL.out u)), fun _ => rfl⟩ (HH4.out.get (by simp)) HRo.out.1 HRo.out.2 (HH4.out.get (by simp)) HRO1.out.1 HRO1.out.2 (by have := HNN.out; have := HLN.out; have := HLl.out; have := HR1.out.2.len; first | omega | (simp only [List.length_reverse]; omega) | (have h1 := HPO3.out.length_eq; have h2 := HPO4.out.length_eq; have h3 := HPO5.out.length_eq; rw [List.length_map] at h1 h2 h3; omega)) (by have := HNN.out; have := HLN.out; have := HLl.out; have := HR1.out.2.len; first | omega | (simp only [List.length_reverse]; omega) | (have h1 := HPO3.out.length_eq; have h2 := HPO4.out.length_eq; have h3 := HPO5.out.length_eq; rw [List.length_map] at h1 h2 h3; omega))).mono ?_); rintro e v5 ⟨rfl, hb⟩; have HH5 := Lib.hid (HH4.out.below hb); have RR5 := Lib.hid (RR4.out.below hb); have BB5 := Lib.hid (below_then BB4.out (Nat.le_refl _) hb); have XX5 := Lib.hid (show C3 v5 n3 (.slice p1 q1 r1) (.slice p2 q2 r2) (.slice p3 q3 r3) ∧ C3 v5 (n3 + 1) (.slice p4 q4 r4) (.slice p5 q5 r5) (.slice p6 q6 r6) ∧ C3 v5 (n3 + 1 + 1) (.slice p7 q7 r7) (.slice p8 q8 r8) (.slice p9 q9 r9) ∧ C3 v5 kk (.slice o1 m1 k1) (.slice o2 m2 k2) (.slice o3 m3 k3) from ⟨XX4.out.1.below hb, XX4.out.2.1.below hb, XX4.out.2.2.1.below hb, XX4.out.2.2.2.below hb⟩); have hS5 : v5.cell? ⟨n3, 0, none⟩ = some (.slice p1 q1 r1) ∧ v5.cell? ⟨n3, 1, none⟩ = some (.slice p2 q2 r2) ∧ v5.cell? ⟨n3, 2, none⟩ = some (.slice p3 q3 r3) ∧ v5.cell? ⟨n3 + 1, 0, none⟩ = some (.slice p4 q4 r4) ∧ v5.cell? ⟨n3 + 1, 1, none⟩ = some (.slice p5 q5 r5) ∧ v5.cell? ⟨n3 + 1, 2, none⟩ = some (.slice p6 q6 r6) ∧ v5.cell? ⟨n3 + 1 + 1, 0, none⟩ = some (.slice p7 q7 r7) ∧ v5.cell? ⟨n3 + 1 + 1, 1, none⟩ = some (.slice p8 q8 r8) ∧ v5.cell? ⟨n3 + 1 + 1, 2, none⟩ = some (.slice p9 q9 r9) ∧ v5.cell? ⟨kk, 0, none⟩ = some (.slice o1 m1 k1) ∧ v5.cell? ⟨kk, 1, none⟩ = some (.slice o2 m2 k2) ∧ v5.cell? ⟨kk, 2, none⟩ = some (.slice o3 m3 k3) := ⟨XX5.out.1.c0, XX5.out.1.c1, XX5.out.1.c2, XX5.out.2.1.c0, XX5.out.2.1.c1, XX5.out.2.1.c2, XX5.out.2.2.1.c0, XX5.out.2.2.1.c1, XX5.out.2.2.1.c2, XX5.out.2.2.2.c0, XX5.out.2.2.2.c1, XX5.out.2.2.2.c2⟩; clear hb HH4 RR4 BB4 XX4 hS4)
      | (go_simp; go_at_call 5; (with_reducible refine (of_any (.slice vo8 ln vc8) L _ (HTc.out.below BB3.out) (RR3.out.get (by simp)) (by have := HLN.out; have := HLl.out; first | omega | (simp only [List.length_reverse]; omega) | (have h := HPO1.out.length_eq; rw [List.length_map] at h; have := HR1.out.2.len; have := HNN.out; omega)) HSL.out).mono ?_); rintro e v4 ⟨aO1, bO1, dO1, cO1, rfl, hl, hr, ho, hb⟩; have HRO1 := Lib.hid (And.intro hr ho); have HH4 := Lib.hid (HasC.cons hl (HH3.out.below hb)); have RR4 := Lib.hid (RR3.out.below hb); have BB4 := Lib.hid (below_then BB3.out (Nat.le_refl _) hb); have XX4 := Lib.hid (show C3 v4 n3 (.slice p1 q1 r1) (.slice p2 q2 r2) (.slice p3 q3 r3) ∧ C3 v4 (n3 + 1) (.slice p4 q4 r4) (.slice p5 q5 r5) (.slice p6 q6 r6) ∧ C3 v4 (n3 + 1 + 1) (.slice p7 q7 r7) (.slice p8 q8 r8) (.slice p9 q9 r9) ∧ C3 v4 kk (.slice o1 m1 k1) (.slice o2 m2 k2) (.slice o3 m3 k3) from ⟨XX3.out.1.below hb, XX3.out.2.1.below hb, XX3.out.2.2.1.below hb, XX3.out.2.2.2.below hb⟩); have hS4 : v4.cell? ⟨n3, 0, none⟩ = some (.slice p1 q1 r1) ∧ v4.cell? ⟨n3, 1, none⟩ = some (.slice p2 q2 r2) ∧ v4.cell? ⟨n3, 2, none⟩ = some (.slice p3 q3 r3) ∧ v4.cell? ⟨n3 + 1, 0, none⟩ = some (.slice p4 q4 r4) ∧ v4.cell? ⟨n3 + 1, 1, none⟩ = some (.slice p5 q5 r5) ∧ v4.cell? ⟨n3 + 1, 2, none⟩ = some (.slice p6 q6 r6) ∧ v4.cell? ⟨n3 + 1 + 1, 0, none⟩ = some (.slice p7 q7 r7) ∧ v4.cell? ⟨n3 + 1 + 1, 1, none⟩ = some (.slice p8 q8 r8) ∧ v4.cell? ⟨n3 + 1 + 1, 2, none⟩ = some (.slice p9 q9 r9) ∧ v4.cell? ⟨kk, 0, none⟩ = some (.slice o1 m1 k1) ∧ v4.cell? ⟨kk, 1, none⟩ = some (.slice o2 m2 k2) ∧ v4.cell? ⟨kk, 2, none⟩ = some (.slice o3 m3 k3) := ⟨XX4.out.1.c0, XX4.out.1.c1, XX4.out.1.c2, XX4.out.2.1.c0, XX4.out.2.1.c1, XX4.out.2.1.c2, XX4.out.2.2.1.c0, XX4.out.2.2.1.c1, XX4.out.2.2.1.c2, XX4.out.2.2.2.c0, XX4.out.2.2.2.c1, XX4.out.2.2.2.c2⟩; clear hb HH3 RR3 BB3 XX3 hS3 hl hr ho)
      | (go_simp; go_at_call 8; (with_reducible refine (same_con (.slice o1 m1 k1) (.slice o2 m2 k2) (.slice o3 m3 k3) aJ2 bJ2 dJ2 cone cJ2 _ _ (A.length + (B.length + C.length)) ((C.length + B.length) + A.length) _ true ⟨fun _ => HRo.out.1.unique (HRJ2.out.1.same (fun u => or_rot)), fun _ => rfl⟩ (HH2.out.get (by simp)) HRo.out.1 HRo.out.2 (HH2.out.get (by simp)) HRJ2.out.1 HRJ2.out.2 (by have := HNN.out; have := HLN.out; have := HLl.out; have := HR1.out.2.len; first | omega | (simp only [List.length_reverse]; omega) | (have h1 := HPO3.out.length_eq; have h2 := HPO4.out.length_eq; have h3 := HPO5.out.length_eq; rw [List.length_map] at h1 h2 h3; omega)) (by have := HNN.out; have := HLN.out; have := HLl.out; have := HR1.out.2.len; first | omega | (simp only [List.length_reverse]; omega) | (have h1 := HPO3.out.length_eq; have h2 := HPO4.out.length_eq; have h3 := HPO5.out.length_eq; rw [List.length_map] at h1 h2 h3; omega))).mono ?_); rintro e v3 ⟨rfl, hb⟩; have HH3 := Lib.hid (HH2.out.below hb); have RR3 := Lib.hid (RR2.out.below hb); have BB3 := Lib.hid (below_then BB2.out (Nat.le_refl _) hb); have XX3 := Lib.hid (show C3 v3 n3 (.slice p1 q1 r1) (.slice p2 q2 r2) (.slice p3 q3 r3) ∧ C3 v3 (n3 + 1) (.slice p4 q4 r4) (.slice p5 q5 r5) (.slice p6 q6 r6) ∧ C3 v3 (n3 + 1 + 1) (.slice p7 q7 r7) (.slice p8 q8 r8) (.slice p9 q9 r9) ∧ C3 v3 kk (.slice o1 m1 k1) (.slice o2 m2 k2) (.slice o3 m3 k3) from ⟨XX2.out.1.below hb, XX2.out.2.1.below hb, XX2.out.2.2.1.below hb, XX2.out.2.2.2.below hb⟩); have hS3 : v3.cell? ⟨n3, 0, none⟩ = some (.slice p1 q1 r1) ∧ v3.cell? ⟨n3, 1, none⟩ = some (.slice p2 q2 r2) ∧ v3.cell? ⟨n3, 2, none⟩ = some (.slice p3 q3 r3) ∧ v3.cell? ⟨n3 + 1, 0, none⟩ = some (.slice p4 q4 r4) ∧ v3.cell? ⟨n3 + 1, 1, none⟩ = some (.slice p5 q5 r5) ∧ v3.cell? ⟨n3 + 1, 2, none⟩ = some (.slice p6 q6 r6) ∧ v3.cell? ⟨n3 + 1 + 1, 0, none⟩ = some (.slice p7 q7 r7) ∧ v3.cell? ⟨n3 + 1 + 1, 1, none⟩ = some (.slice p8 q8 r8) ∧ v3.cell? ⟨n3 + 1 + 1, 2, none⟩ = some (.slice p9 q9 r9) ∧ v3.cell? ⟨kk, 0, none⟩ = some (.slice o1 m1 k1) ∧ v3.cell? ⟨kk, 1, none⟩ = some (.slice o2 m2 k2) ∧ v3.cell? ⟨kk, 2, none⟩ = some (.slice o3 m3 k3) := ⟨XX3.out.1.c0, XX3.out.1.c1, XX3.out.1.c2, XX3.out.2.1.c0, XX3.out.2.1.c1, XX3.out.2.1.c2, XX3.out.2.2.1.c0, XX3.out.2.2.1.c1, XX3.out.2.2.1.c2, XX3.out.2.2.2.c0, XX3.out.2.2.2.c1, XX3.out.2.2.2.c2⟩; clear hb HH2 RR2 BB2 XX2 hS2)
      | (go_simp; go_at_call 7; (with_reducible refine (join_any aJ1 bJ1 dJ1 (.slice p1 q1 r1) (.slice p2 q2 r2) (.slice p3 q3 r3) cJ1 x _ _ (C.length + B.length) A.length _ (HTc.out.below BB1.out) (HH1.out.get (by simp)) HRJ1.out.1 HRJ1.out.2 (HH1.out.get (by simp)) HR1.out.1 HR1.out.2 (by have := HNN.out; have := HLN.out; have := HLl.out; have := HR1.out.2.len; first | omega | (simp only [List.length_reverse]; omega) | (have h1 := HPO3.out.length_eq; have h2 := HPO4.out.length_eq; have h3 := HPO5.out.length_eq; rw [List.length_map] at h1 h2 h3; omega))).mono ?_); rintro e v2 ⟨aJ2, bJ2, dJ2, cJ2, rfl, hl, hr, ho, hb⟩; have HRJ2 := Lib.hid (And.intro hr ho); have HH2 := Lib.hid (HasC.cons hl (HH1.out.below hb)); have RR2 := Lib.hid (RR1.out.below hb); have BB2 := Lib.hid (below_then BB1.out (Nat.le_refl _) hb); have XX2 := Lib.hid (show C3 v2 n3 (.slice p1 q1 r1) (.slice p2 q2 r2) (.slice p3 q3 r3) ∧ C3 v2 (n3 + 1) (.slice p4 q4 r4) (.slice p5 q5 r5) (.slice p6 q6 r6) ∧ C3 v2 (n3 + 1 + 1) (.slice p7 q7 r7) (.slice p8 q8 r8) (.slice p9 q9 r9) ∧ C3 v2 kk (.slice o1 m1 k1) (.slice o2 m2 k2) (.slice o3 m3 k3) from ⟨XX1.out.1.below hb, XX1.out.2.1.below hb, XX1.out.2.2.1.below hb, XX1.out.2.2.2.below hb⟩); have hS2 : v2.cell? ⟨n3, 0, none⟩ = some (.slice p1 q1 r1) ∧ v2.cell? ⟨n3, 1, none⟩ = some (.slice p2 q2 r2) ∧ v2.cell? ⟨n3, 2, none⟩ = some (.slice p3 q3 r3) ∧ v2.cell? ⟨n3 + 1, 0, none⟩ = some (.slice p4 q4 r4) ∧ v2.cell? ⟨n3 + 1, 1, none⟩ = some (.slice p5 q5 r5) ∧ v2.cell? ⟨n3 + 1, 2, none⟩ = some (.slice p6 q6 r6) ∧ v2.cell? ⟨n3 + 1 + 1, 0, none⟩ = some (.slice p7 q7 r7) ∧ v2.cell? ⟨n3 + 1 + 1, 1, none⟩ = some (.slice p8 q8 r8) ∧ v2.cell? ⟨n3 + 1 + 1, 2, none⟩ = some (.slice p9 q9 r9) ∧ v2.cell? ⟨kk, 0, none⟩ = some (.slice o1 m1 k1) ∧ v2.cell? ⟨kk, 1, none⟩ = some (.slice o2 m2 k2) ∧ v2.cell? ⟨kk, 2, none⟩ = some (.slice o3 m3 k3) := ⟨XX2.out.1.c0, XX2.out.1.c1, XX2.out.1.c2, XX2.out.2.1.c0, XX2.out.2.1.c1, XX2.out.2.1.c2, XX2.out.2.2.1.c0, XX2.out.2.2.1.c1, XX2.out.2.2.1.c2, XX2.out.2.2.2.c0, XX2.out.2.2.2.c1, XX2.out.2.2.2.c2⟩; clear hb HH1 RR1 BB1 XX1 hS1 hl hr ho)
      | (go_simp; go_at_call 7; (with_reducible refine (join_any (.slice p7 q7 r7) (.slice p8 q8 r8) (.slice p9 q9 r9) (.slice p4 q4 r4) (.slice p5 q5 r5) (.slice p6 q6 r6) z y _ _ C.length B.length _ (HTc.out.below BB0.out) (HH0.out.get (by simp)) HR3.out.1 HR3.out.2 (HH0.out.get (by simp)) HR2.out.1 HR2.out.2 (by have := HNN.out; have := HLN.out; have := HLl.out; have := HR1.out.2.len; first | omega | (simp only [List.length_reverse]; omega) | (have h1 := HPO3.out.length_eq; have h2 := HPO4.out.length_eq; have h3 := HPO5.out.length_eq; rw [List.length_map] at h1 h2 h3; omega))).mono ?_); rintro e v1 ⟨aJ1, bJ1, dJ1, cJ1, rfl, hl, hr, ho, hb⟩; have HRJ1 := Lib.hid (And.intro hr ho); have HH1 := Lib.hid (HasC.cons hl (HH0.out.below hb)); have RR1 := Lib.hid (RR0.out.below hb); have BB1 := Lib.hid (below_then BB0.out (Nat.le_refl _) hb); have XX1 := Lib.hid (show C3 v1 n3 (.slice p1 q1 r1) (.slice p2 q2 r2) (.slice p3 q3 r3) ∧ C3 v1 (n3 + 1) (.slice p4 q4 r4) (.slice p5 q5 r5) (.slice p6 q6 r6) ∧ C3 v1 (n3 + 1 + 1) (.slice p7 q7 r7) (.slice p8 q8 r8) (.slice p9 q9 r9) ∧ C3 v1 kk (.slice o1 m1 k1) (.slice o2 m2 k2) (.slice o3 m3 k3) from ⟨XX0.out.1.below hb, XX0.out.2.1.below hb, XX0.out.2.2.1.below hb, XX0.out.2.2.2.below hb⟩); have hS1 : v1.cell? ⟨n3, 0, none⟩ = some (.slice p1 q1 r1) ∧ v1.cell? ⟨n3, 1, none⟩ = some (.slice p2 q2 r2) ∧ v1.cell? ⟨n3, 2, none⟩ = some (.slice p3 q3 r3) ∧ v1.cell? ⟨n3 + 1, 0, none⟩ = some (.slice p4 q4 r4) ∧ v1.cell? ⟨n3 + 1, 1, none⟩ = some (.slice p5 q5 r5) ∧ v1.cell? ⟨n3 + 1, 2, none⟩ = some (.slice p6 q6 r6) ∧ v1.cell? ⟨n3 + 1 + 1, 0, none⟩ = some (.slice p7 q7 r7) ∧ v1.cell? ⟨n3 + 1 + 1, 1, none⟩ = some (.slice p8 q8 r8) ∧ v1.cell? ⟨n3 + 1 + 1, 2, none⟩ = some (.slice p9 q9 r9) ∧ v1.cell? ⟨kk, 0, none⟩ = some (.slice o1 m1 k1) ∧ v1.cell? ⟨kk, 1, none⟩ = some (.slice o2 m2 k2) ∧ v1.cell? ⟨kk, 2, none⟩ = some (.slice o3 m3 k3) := ⟨XX1.out.1.c0, XX1.out.1.c1, XX1.out.1.c2, XX1.out.2.1.c0, XX1.out.2.1.c1, XX1.out.2.1.c2, XX1.out.2.2.1.c0, XX1.out.2.2.1.c1, XX1.out.2.2.1.c2, XX1.out.2.2.2.c0, XX1.out.2.2.2.c1, XX1.out.2.2.2.c2⟩; clear hb HH0 RR0 BB0 XX0 hS0 hl hr ho))
    all_goals
      go_wp2_with fail
      go_ret
      exact ⟨rfl, below_then BBw.out (Nat.le_refl _) BB18.out⟩
end Go.Proofs.YtgcfhlleaekgfaaDoor.Mut
