/- What each of two contents lacks of the other one: in plain Lean; whether each mutation has a key and a stamp of its own; diffs.Sync (layer 36). PRINTED by wip/gensync.py. · The walk of the law DiffsSync (layer 36). PRINTED by wip/gensynclaw.py. -/
import Derived.Test.YtmfhmcegmeinnaaGreatDoorEntPick
import Derived.Test.YtmfhmcegmeinnaaGreatDoorEntLaw
import Derived.Test.YtmfhmcegmeinnaaGreatDoorEntPlain
import Derived.Test.YtmfhmcegmeinnaaGreatDoorRefCompare
import Derived.Test.YtmfhmcegmeinnaaGreatDoorSup
import Derived.Test.YtmfhmcegmeinnaaGreatDoorEntTop
import Derived.Test.YtmfhmcegmeinnaaGreatDoorSpareAny
import Derived.Test.YtmfhmcegmeinnaaGreatDoorMutCopies
set_option linter.unusedSimpArgs false
set_option linter.unusedVariables false
namespace Go.Proofs.YtmfhmcegmeinnaaGreatDoor.Mut
open Go.RowKit Go.Sort Go.Proofs.YtmfhmcegmeinnaaGreatDoor.Ord Go.Proofs.YtmfhmcegmeinnaaGreatDoor.RegInv
set_option linter.unusedSectionVars false
variable [Inhabited Lim]

/-- What one content lacks of another one, by keys and stamps alone. -/
def lackR (x y : Con) : List Diffs.Ent := Diffs.lessF (Diffs.rowF ((allF y).map Diffs.entOf)) (Diffs.rowF ((allF x).map Diffs.entOf)) false
def lackF (x y : Con) : List Mu := (allF y).filter fun m => inR (lackR x y) m
theorem hasE_mem {l : List Diffs.Ent} {e : Diffs.Ent} : Diffs.hasE l e = true ↔ e ∈ l := by
  unfold Diffs.hasE
  rw [List.any_eq_true]
  exact ⟨fun ⟨z, h1, h2⟩ => by rw [(Diffs.eqE_iff e z).1 h2]; exact h1, fun h => ⟨e, h, (Diffs.eqE_iff e e).2 rfl⟩⟩
theorem lackR_srt (x y : Con) : Diffs.Srt (lackR x y) := (Diffs.rowF_srt _).sublist List.filter_sublist
theorem lackR_len (x y : Con) : (lackR x y).length ≤ (allF y).length := by
  unfold lackR Diffs.lessF
  refine Nat.le_trans (List.length_filter_le _ _) ?_
  have h := Diffs.rowF_len ((allF y).map Diffs.entOf)
  rwa [List.length_map] at h
theorem lackF_len (x y : Con) : (lackF x y).length ≤ (allF y).length := List.length_filter_le _ _
theorem lack_all {x y : Con} (h : ∀ a ∈ x.all, ∀ b ∈ y.all, a.key = b.key → a.at_ = b.at_ → a = b) (m : Mu) : m ∈ x.all ++ lackF x y ↔ m ∈ x.all ++ y.all := by
  rw [List.mem_append, List.mem_append]
  constructor
  · rintro (g | g)
    · exact Or.inl g
    · exact Or.inr (mem_allF.1 (List.mem_filter.1 g).1)
  · rintro (g | g)
    · exact Or.inl g
    · by_cases hx : Diffs.entOf m ∈ (allF x).map Diffs.entOf
      · left
        obtain ⟨m', h1, h2⟩ := List.mem_map.1 hx
        have h3 := mem_allF.1 h1
        have hk : m'.key = m.key := by have := congrArg Diffs.Ent.k h2; exact this
        have hp : m'.at_.p = m.at_.p := by have := congrArg Diffs.Ent.p h2; exact this
        have hl : m'.at_.l = m.at_.l := by have := congrArg Diffs.Ent.l h2; exact this
        have hw : m'.at_.w = m.at_.w := by have := congrArg Diffs.Ent.h h2; exact this
        have hs : m'.at_ = m.at_ := by
          cases e1 : m'.at_
          cases e2 : m.at_
          rw [e1, e2] at hp hl hw
          simp only [] at hp hl hw
          rw [hp, hl, hw]
        rw [← h m' h3 m g hk hs]
        exact h3
      · right
        refine List.mem_filter.2 ⟨mem_allF.2 g, ?_⟩
        unfold inR
        rw [hasE_mem]
        unfold lackR Diffs.lessF
        refine List.mem_filter.2 ⟨(Diffs.rowF_mem _ _).2 (List.mem_map.2 ⟨m, mem_allF.2 g, rfl⟩), ?_⟩
        have h0 : Diffs.hasE (Diffs.rowF ((allF x).map Diffs.entOf)) (Diffs.entOf m) = false := by
          cases e : Diffs.hasE (Diffs.rowF ((allF x).map Diffs.entOf)) (Diffs.entOf m)
          · rfl
          · exact absurd ((Diffs.rowF_mem _ _).1 (hasE_mem.1 e)) hx
        rw [h0]
        rfl
/-- With what it lacks of another one a content has all that both have. -/
theorem lack_join {x y : Con} (h : ∀ a ∈ x.all, ∀ b ∈ y.all, a.key = b.key → a.at_ = b.at_ → a = b) : joinC x (leftOf (lackF x y)) = joinC x y := by
  unfold joinC
  rw [leftOf_swallow2]
  refine leftOf_congr fun m => ?_
  unfold Fits
  rw [lack_all h]

/-- No two of one key and one stamp that differ. -/
def OwnAt (L : List Ro) (i k : Nat) : Prop := ∀ a b, L[i]? = some a → L[k]? = some b → a.1.key = b.1.key → a.1.at_ = b.1.at_ → muC a.1 b.1 = 0
def OwnQ (L : List Ro) : Prop := ∀ i < L.length, ∀ k < i, OwnAt L i k
theorem own_two {A B : List Ro} (h : OwnQ (A ++ B)) : ∀ a ∈ A.map (·.1), ∀ b ∈ B.map (·.1), a.key = b.key → a.at_ = b.at_ → a = b := by
  intro a ha b hb hk hs
  obtain ⟨x, hx, rfl⟩ := List.mem_map.1 ha
  obtain ⟨y, hy, rfl⟩ := List.mem_map.1 hb
  obtain ⟨i, hi⟩ := List.mem_iff_getElem?.1 hx
  obtain ⟨j, hj⟩ := List.mem_iff_getElem?.1 hy
  have hiA : i < A.length := (List.getElem?_eq_some_iff.1 hi).1
  have hjB : j < B.length := (List.getElem?_eq_some_iff.1 hj).1
  have g := h (A.length + j) (by rw [List.length_append]; omega) i (by omega) y x (by rw [List.getElem?_append_right (by omega)]; simpa using hj) (by rw [List.getElem?_append_left hiA]; exact hi) hk.symm hs.symm
  exact ((muO.zero _ _).1 g).symm
theorem left_in {l : List Mu} {m : Mu} (h : m ∈ (leftOf l).all) : m ∈ l := ((leftOf_both l).1.in_all h).1

theorem own_step {R : List Ro} {i k : Nat} {x y : Ro} {q1 q2 : Bool} {Z : Int} (hx : R[i]? = some x) (hy : R[k]? = some y) (h1 : (x.1.key.toList == y.1.key.toList) = q1) (h2 : eqT x.1.at_ y.1.at_ = q2) (hz : Z = muC x.1 y.1) (hb : ¬ (q1 = true ∧ q2 = true ∧ Z ≠ 0))
    (h : ∀ k' < k, OwnAt R i k') : ∀ k' < k + 1, OwnAt R i k' := by
  intro k' hk
  by_cases e : k' = k
  · subst e
    intro a b ha hb' e1 e2
    rw [hx] at ha
    rw [hy] at hb'
    cases ha
    cases hb'
    refine Classical.byContradiction fun hne => hb ⟨?_, ?_, by rw [hz]; exact hne⟩
    · rw [← h1, e1]; simp
    · rw [← h2, e2]; exact (eqT_iff _ _).2 rfl
  · exact h k' (by omega)

set_option maxHeartbeats 8000000 in
set_option maxRecDepth 100000 in
theorem own_any (v : Value) (R : List Ro) (w : World) (hv : MRow w v R) (hn : R.length ≤ 1000) (hs : ∀ x ∈ R, Small x.1) :
    Calls Tryz.prog 38 #[v] w (fun e w' => ∃ q, e = .returned (.bool q) ∧ (q = true → OwnQ R) ∧ RowKit.Below w.heap.size w w') := by
  obtain ⟨ao, cap, rfl, -, -⟩ := hv.form
  obtain ⟨n, hN⟩ : ∃ n, n = R.length := ⟨_, rfl⟩
  rw [← hN] at hv hn ⊢
  have HV := Lib.hid hv
  have HN := Lib.hid hN
  have HS := Lib.hid hs
  clear hv hN hs
  go_enter Tryz.func38, Tryz.ntmps38
  go_wp2_with fail
  go_loopw [3] (fun iv wr => ∃ i : Nat, i ≤ n ∧ iv = .int .i64 i ∧ Hid (∀ i' < i, ∀ k < i', OwnAt R i' k) ∧ Hid (RowKit.Below w.heap.size w wr)) (fun iv _ => n - (intOf iv).toNat)
  case atStart => exact ⟨0, by omega, rfl, Lib.hid (fun i' h => absurd h (Nat.not_lt_zero _)), Lib.hid (Below.refl _ _)⟩
  case round =>
    obtain ⟨i, hi, rfl, hok, hbl⟩ := hrel
    obtain ⟨wo, hwo⟩ : ∃ W, W = wr := ⟨_, rfl⟩
    subst hwo
    by_cases hlt : i < n
    · have hil : (i : Int) < (n : Int) := by omega
      have hi0 : (0 : Int) ≤ (i : Int) := by omega
      obtain ⟨x, hx⟩ : ∃ x, R[i]? = some x := ⟨_, List.getElem?_eq_getElem (by have := HN.out; omega)⟩
      have HX := Lib.hid hx
      clear hx
      go_wp2_with fail
      go_loopw [4] (fun kv wr => ∃ k : Nat, k ≤ i ∧ kv = .int .i64 k ∧ Hid (∀ k' < k, OwnAt R i k') ∧ Hid (RowKit.Below wo.heap.size wo wr)) (fun kv _ => i - (intOf kv).toNat)
      case atStart => exact ⟨0, by omega, rfl, Lib.hid (fun k' h => absurd h (Nat.not_lt_zero _)), Lib.hid (Below.refl _ _)⟩
      case round =>
        obtain ⟨k, hk, rfl, hok2, hbl2⟩ := hrel
        by_cases hlt2 : k < i
        · obtain ⟨y, hy⟩ : ∃ y, R[k]? = some y := ⟨_, List.getElem?_eq_getElem (by have := HN.out; omega)⟩
          have HB := Lib.hid (below_then hbl.out (Nat.le_refl _) hbl2.out)
          have hmr := HV.out.below HB.out
          obtain ⟨xb, xoff, hao, hat⟩ := hmr.at_ HX.out
          cases hao
          obtain ⟨yb, yoff, hao2, hat2⟩ := hmr.at_ hy
          cases hao2
          have HCM := Lib.hid (fun W (h : RowKit.Below wr.heap.size wr W) => refcompare_any x y W ((hmr.over x (List.mem_of_getElem? HX.out)).below h) ((hmr.over y (List.mem_of_getElem? hy)).below h) (HS.out x (List.mem_of_getElem? HX.out)).over (HS.out y (List.mem_of_getElem? hy)).over)
          obtain ⟨Z, hZ⟩ : ∃ c, c = muC x.1 y.1 := ⟨_, rfl⟩
          rw [← hZ] at HCM
          have HZ := Lib.hid hZ
          have HY := Lib.hid hy
          obtain ⟨hx0, a0, a1, a2, a3, a4, a5, a6, a7, a8, a9⟩ := hat
          obtain ⟨hy0, b0, b1, b2, b3, b4, b5, b6, b7, b8, b9⟩ := hat2
          have i0 : (0 : Int) ≤ (k : Int) := by omega
          have i1 : (k : Int) < (n : Int) := by omega
          have i2 : (k : Int) < (i : Int) := by omega
          clear hmr hy hZ
          cases hq1 : (x.1.key.toList == y.1.key.toList)
          all_goals
            cases hq2 : eqT x.1.at_ y.1.at_
            all_goals
              have hn2 := eqlT_run _ _ _ hq2
              have hg2 := guardT_run .eql
              have HQ1 := Lib.hid hq1
              have HQ2 := Lib.hid hq2
              clear hq2
              by_cases hz : Z = 0
              all_goals
                have hzz : (Z != 0) = !decide (Z = 0) := by cases hd : decide (Z = 0) <;> simp_all
                go_wp2_with fail
                refine wp_region_calm (by kernel_rfl) (by kernel_rfl) ?_
                repeat (go_big_quiet_step (first | (go_at_call 81; exact calm (HCM.out _ (BW.below _)))))
                refine wpQuiet_nil ?_
                rintro _ ⟨z, rfl⟩
                obtain ⟨W3, hW3⟩ : ∃ W3, W3 = z.at := ⟨_, rfl⟩
                have hzb := z.below
                rw [← hW3] at hzb ⊢
                have HF := Lib.hid (below_then hbl2.out (Nat.le_refl _) hzb)
                clear hW3 z hzb a0 a1 a2 a3 a4 a5 a6 a7 a8 a9 b0 b1 b2 b3 b4 b5 b6 b7 b8 b9 hn2 hg2
                go_wp2_with fail
                first
                | (go_ret
                   exact ⟨false, rfl, fun h => Bool.noConfusion h, below_then hbl.out (Nat.le_refl _) HF.out⟩)
                | (go_roundw
                   case rel => exact ⟨k + 1, by omega, by go_num, Lib.hid (own_step HX.out HY.out HQ1.out HQ2.out HZ.out (by first | (simp; done) | exact fun h => h.2.2 hz) hok2.out), HF⟩
                   case measure => simp [intOf]; omega)
        · obtain rfl : k = i := by omega
          go_wp2_with fail
          go_roundw
          case rel =>
            refine ⟨k + 1, by omega, by go_num, Lib.hid (fun i' h k' hk' => ?_), Lib.hid (below_then hbl.out (Nat.le_refl _) hbl2.out)⟩
            by_cases e : i' = k
            · subst e; exact hok2.out k' hk'
            · exact hok.out i' (by omega) k' hk'
          case measure => simp [intOf]; omega
    · obtain rfl : i = n := by omega
      go_wp2_with fail
      go_ret
      exact ⟨true, rfl, fun _ => by rw [HN.out] at hok; exact hok.out, hbl.out⟩

set_option maxHeartbeats 8000000 in
set_option maxRecDepth 100000 in
theorem c_sync {x y : Con} {nx ny : Nat} {v v' : Value} {w : World} (hv : IsC x v w) (hx : Good x nx) (hv' : IsC y v' w) (hy : Good y ny) (h1 : nx ≤ 500) (h2 : ny ≤ 500) :
    Calls Tryz.prog 39 #[v, v'] w (fun e w' => ∃ r1 r2, e = .returned (.tuple #[r1, r2]) ∧ Reads w' r1 (lackF x y) ∧ Reads w' r2 (lackF y x) ∧ RowKit.Below w.heap.size w w') := by
  obtain ⟨p1, q1, r1, p2, q2, r2, p3, q3, r3, rfl, hl⟩ := hv.form
  obtain ⟨s1, t1, z1, s2, t2, z2, s3, t3, z3, rfl, hl'⟩ := hv'.form
  obtain ⟨W1, hW1⟩ : ∃ W, W = w.alloc (.cells #[.slice p1 q1 r1, .slice p2 q2 r2, .slice p3 q3 r3] 28) := ⟨_, rfl⟩
  obtain ⟨W2, hW2⟩ : ∃ W, W = W1.alloc (.cells #[.slice s1 t1 z1, .slice s2 t2 z2, .slice s3 t3 z3] 28) := ⟨_, rfl⟩
  have hb1 : RowKit.Below w.heap.size w W1 := by rw [hW1]; exact (Below.refl _ _).alloc (Nat.le_refl _) _
  have hb2 : RowKit.Below W1.heap.size W1 W2 := by rw [hW2]; exact (Below.refl _ _).alloc (Nat.le_refl _) _
  have hp1 : C3 W1 w.heap.size (.slice p1 q1 r1) (.slice p2 q2 r2) (.slice p3 q3 r3) := by rw [hW1]; exact C3.new _ _ _ _
  have hp2 : C3 W2 W1.heap.size (.slice s1 t1 z1) (.slice s2 t2 z2) (.slice s3 t3 z3) := by rw [hW2]; exact C3.new _ _ _ _
  obtain ⟨k2, hk2⟩ : ∃ k, k = w.heap.size := ⟨_, rfl⟩
  have hk3 : k2 + 1 = W1.heap.size := by rw [hW1, hk2]; simp
  rw [← hk2] at hp1
  rw [← hk3] at hp2
  have HP2 := Lib.hid (hp1.below hb2)
  have HP3 := Lib.hid hp2
  have HBB := Lib.hid (below_then hb1 (Nat.le_refl _) hb2)
  have HX := Lib.hid (hl.below HBB.out)
  have HY := Lib.hid (hl'.below HBB.out)
  have HW1 := Lib.hid hW1
  have HW2 := Lib.hid hW2
  have HK2 := Lib.hid hk2
  clear hW1 hW2 hb1 hb2 hp1 hp2 hl hl' hk2 hk3 hv hv'
  go_enter Tryz.func39, Tryz.ntmps39
  go_upto_region 1 with fail
  rw [← HW1.out, ← HW2.out, ← HK2.out]
  clear HW1 HW2
  refine wp_region_told [] 11 [false, false, false, false, false, false, true, true, false, true, true, true, true, true, true, true, true, true, false, false, false, false, false, false]
    [sLit (.agg #[.slice p1 q1 r1, .slice p2 q2 r2, .slice p3 q3 r3]),
    sOne (fun v W => Diffs.ERow W v (Diffs.rowF ((allF x).map Diffs.entOf))) (fun _ _ _ h hb => Lst.below h hb),
    sLit (.agg #[.slice s1 t1 z1, .slice s2 t2 z2, .slice s3 t3 z3]),
    sOne (fun v W => Diffs.ERow W v (Diffs.rowF ((allF y).map Diffs.entOf))) (fun _ _ _ h hb => Lst.below h hb),
    sOne (fun v W => ∃ u1 u2 u3, v = .tuple #[u1, u2, u3] ∧ Diffs.ERow W u1 (lackR y x) ∧ Diffs.ERow W u2 (lackR x y)) (fun _ _ _ h hb => by obtain ⟨u1, u2, u3, e, g1, g2⟩ := h; exact ⟨u1, u2, u3, e, Lst.below g1 hb, Lst.below g2 hb⟩),
    sOne (fun v W => ∃ u1 u2 u3, v = .tuple #[u1, u2, u3] ∧ Diffs.ERow W u1 (lackR y x) ∧ Diffs.ERow W u2 (lackR x y)) (fun _ _ _ h hb => by obtain ⟨u1, u2, u3, e, g1, g2⟩ := h; exact ⟨u1, u2, u3, e, Lst.below g1 hb, Lst.below g2 hb⟩),
    sOne (fun v W => Diffs.ERow W v (lackR y x)) (fun _ _ _ h hb => Lst.below h hb),
    sOne (fun v W => Diffs.ERow W v (lackR x y)) (fun _ _ _ h hb => Lst.below h hb),
    sOne (fun _ _ => True) (fun _ _ _ _ _ => trivial),
    sOne (fun v W => Diffs.ERow W v (lackR y x)) (fun _ _ _ h hb => Lst.below h hb),
    sOne (fun v W => Diffs.ERow W v (lackR x y)) (fun _ _ _ h hb => Lst.below h hb)] (by kernel_rfl) (by kernel_rfl) (by kernel_rfl) (fun F hF => ?_)
  simp only [over, overL, Nat.reduceAdd] at hF
  obtain rfl := funext hF
  clear hF
  refine ⟨⟨?_, ?_, ?_, ?_, ?_, ?_, ?_, ?_, ?_, ?_, ?_, trivial⟩, ?_⟩
  · intro V W hb hd K hK _
    clear hd
    obtain ⟨-, m0, m1, m2, -⟩ := (HP2.out.below hb)
    go_wp2_with fail
    refine hK _ _ ?_ ?_ ?_ ?_
    · rfl
    · exact Below.refl _ _
    · exact rfl
    · trivial
  · intro V W hb hd K hK _
    have h0 : (V 10) = .agg #[.slice p1 q1 r1, .slice p2 q2 r2, .slice p3 q3 r3] := hd 0 (by kernel_rfl)
    clear hd
    go_wp2_with fail
    refine (Diffs.manifest_any (HX.out.below hb).is hx (by omega)).mono ?_
    rintro e w1 ⟨v1, rfl, hv1, hb1⟩
    go_wp2_with fail
    refine hK _ _ ?_ ?_ ?_ ?_
    · rfl
    · exact hb1
    · exact hv1
    · trivial
  · intro V W hb hd K hK _
    clear hd
    obtain ⟨-, m0, m1, m2, -⟩ := (HP3.out.below hb)
    go_wp2_with fail
    refine hK _ _ ?_ ?_ ?_ ?_
    · rfl
    · exact Below.refl _ _
    · exact rfl
    · trivial
  · intro V W hb hd K hK _
    have h2 : (V 12) = .agg #[.slice s1 t1 z1, .slice s2 t2 z2, .slice s3 t3 z3] := hd 2 (by kernel_rfl)
    clear hd
    go_wp2_with fail
    refine (Diffs.manifest_any (HY.out.below hb).is hy (by omega)).mono ?_
    rintro e w1 ⟨v1, rfl, hv1, hb1⟩
    go_wp2_with fail
    refine hK _ _ ?_ ?_ ?_ ?_
    · rfl
    · exact hb1
    · exact hv1
    · trivial
  · intro V W hb hd K hK _
    have h1 : Diffs.ERow W (V 11) (Diffs.rowF ((allF x).map Diffs.entOf)) := hd 1 (by kernel_rfl)
    have h3 : Diffs.ERow W (V 13) (Diffs.rowF ((allF y).map Diffs.entOf)) := hd 3 (by kernel_rfl)
    clear hd
    obtain ⟨ao, ac, ea, -, -⟩ := Lst.form h1
    obtain ⟨bo, bc, eb, -, -⟩ := Lst.form h3
    rw [ea] at h1
    rw [eb] at h3
    have hlx := Diffs.rowF_len ((allF x).map Diffs.entOf)
    have hly := Diffs.rowF_len ((allF y).map Diffs.entOf)
    rw [List.length_map] at hlx hly
    have h5 := len_allF x
    have h6 := len_allF y
    have h7 := hx.okc.len
    have h8 := hy.okc.len
    have hD := Diffs.diff_any ao bo ac bc _ _ W h1 h3 (by omega) (by omega)
    rw [Diffs.walk_rows] at hD
    go_wp2_with fail
    refine (hD).mono ?_
    rintro e w1 ⟨v1, v2, v3, rfl, g1, g2, g3, hb1⟩
    go_wp2_with fail
    refine hK _ _ ?_ ?_ ?_ ?_
    · rfl
    · exact hb1
    · exact ⟨v1, v2, v3, rfl, g1, g2⟩
    · trivial
  · intro V W hb hd K hK _
    have h4 : ∃ u1 u2 u3, (V 14) = .tuple #[u1, u2, u3] ∧ Diffs.ERow W u1 (lackR y x) ∧ Diffs.ERow W u2 (lackR x y) := hd 4 (by kernel_rfl)
    clear hd
    go_wp2_with fail
    refine hK _ _ ?_ ?_ ?_ ?_
    · rfl
    · exact Below.refl _ _
    · exact h4
    · trivial
  · intro V W hb hd K hK _
    have h5 : ∃ u1 u2 u3, (V 9) = .tuple #[u1, u2, u3] ∧ Diffs.ERow W u1 (lackR y x) ∧ Diffs.ERow W u2 (lackR x y) := hd 5 (by kernel_rfl)
    clear hd
    obtain ⟨u1, u2, u3, e5, g1, g2⟩ := h5
    go_wp2_with fail
    refine hK _ _ ?_ ?_ ?_ ?_
    · rfl
    · exact Below.refl _ _
    · exact g1
    · trivial
  · intro V W hb hd K hK _
    have h5 : ∃ u1 u2 u3, (V 9) = .tuple #[u1, u2, u3] ∧ Diffs.ERow W u1 (lackR y x) ∧ Diffs.ERow W u2 (lackR x y) := hd 5 (by kernel_rfl)
    clear hd
    obtain ⟨u1, u2, u3, e5, g1, g2⟩ := h5
    go_wp2_with fail
    refine hK _ _ ?_ ?_ ?_ ?_
    · rfl
    · exact Below.refl _ _
    · exact g2
    · trivial
  · intro V W hb hd K hK _
    have h5 : ∃ u1 u2 u3, (V 9) = .tuple #[u1, u2, u3] ∧ Diffs.ERow W u1 (lackR y x) ∧ Diffs.ERow W u2 (lackR x y) := hd 5 (by kernel_rfl)
    clear hd
    obtain ⟨u1, u2, u3, e5, g1, g2⟩ := h5
    go_wp2_with fail
    refine hK _ _ ?_ ?_ ?_ ?_
    · rfl
    · exact Below.refl _ _
    · exact trivial
    · trivial
  · intro V W hb hd K hK _
    have h6 : Diffs.ERow W (V 15) (lackR y x) := hd 6 (by kernel_rfl)
    clear hd
    go_wp2_with fail
    refine hK _ _ ?_ ?_ ?_ ?_
    · rfl
    · exact Below.refl _ _
    · exact h6
    · trivial
  · intro V W hb hd K hK _
    have h7 : Diffs.ERow W (V 16) (lackR x y) := hd 7 (by kernel_rfl)
    clear hd
    go_wp2_with fail
    refine hK _ _ ?_ ?_ ?_ ?_
    · rfl
    · exact Below.refl _ _
    · exact h7
    · trivial
  · intro V W hb hd hap
    have h9 : Diffs.ERow W (V 6) (lackR y x) := hd 9 (by decide)
    have h10 : Diffs.ERow W (V 7) (lackR x y) := hd 10 (by decide)
    clear hd hap
    simp only [List.drop_succ_cons, List.drop_zero]
    have HG1 := Lib.hid h9
    have HG2 := Lib.hid h10
    have HB1 := Lib.hid hb
    clear h9 h10 hb
    go_upto_region 2 with fail
    generalize V 6 = l6 at HG1 ⊢
    generalize V 7 = l7 at HG2 ⊢
    obtain ⟨W5, hW5⟩ : ∃ W', W' = W := ⟨_, rfl⟩
    subst hW5
    have HX5 := Lib.hid (HX.out.below HB1.out)
    have HY5 := Lib.hid (HY.out.below HB1.out)
    have HP2a := Lib.hid (HP2.out.below HB1.out)
    have HP3a := Lib.hid (HP3.out.below HB1.out)
    have HB5 := Lib.hid (below_then HBB.out (Nat.le_refl _) HB1.out)
    have hly : (lackR x y).length ≤ 500 := by have h1 := lackR_len x y; have h6 := len_allF y; have h8 := hy.okc.len; omega
    have hlx : (lackR y x).length ≤ 500 := by have h1 := lackR_len y x; have h6 := len_allF x; have h8 := hx.okc.len; omega
    clear HX HY HP2 HP3 HBB HB1
    refine wp_region_told [] 7 [false, false, false, false, true, false, false, false, false, false, false, false, false, false, false, false, false, false, true, true, true, true, true, true]
      [sLit (.agg #[.slice s1 t1 z1, .slice s2 t2 z2, .slice s3 t3 z3]),
    sOne (fun v W => Diffs.ERow W v (lackR x y)) (fun _ _ _ h hb => Lst.below h hb),
    sOne (fun v W => Reads W v (lackF x y)) (fun _ _ _ h hb => h.below hb),
    sLit (.agg #[.slice p1 q1 r1, .slice p2 q2 r2, .slice p3 q3 r3]),
    sOne (fun v W => Diffs.ERow W v (lackR y x)) (fun _ _ _ h hb => Lst.below h hb),
    sOne (fun v W => Reads W v (lackF y x)) (fun _ _ _ h hb => h.below hb),
    sOne (fun v W => Reads W v (lackF x y)) (fun _ _ _ h hb => h.below hb)] (by kernel_rfl) (by kernel_rfl) (by kernel_rfl) (fun F hF => ?_)
    simp only [over, overL, Nat.reduceAdd] at hF
    obtain rfl := funext hF
    clear hF
    refine ⟨⟨?_, ?_, ?_, ?_, ?_, ?_, ?_, trivial⟩, ?_⟩
    · intro V W hb hd K hK _
      clear hd
      obtain ⟨-, m0, m1, m2, -⟩ := (HP3a.out.below hb)
      go_wp2_with fail
      refine hK _ _ ?_ ?_ ?_ ?_
      · rfl
      · exact Below.refl _ _
      · exact rfl
      · trivial
    · intro V W hb hd K hK _
      clear hd
      go_wp2_with fail
      refine hK _ _ ?_ ?_ ?_ ?_
      · rfl
      · exact Below.refl _ _
      · exact Lst.below HG2.out hb
      · trivial
    · intro V W hb hd K hK _
      have h0 : (V 18) = .agg #[.slice s1 t1 z1, .slice s2 t2 z2, .slice s3 t3 z3] := hd 0 (by kernel_rfl)
      have h1 : Diffs.ERow W (V 19) (lackR x y) := hd 1 (by kernel_rfl)
      clear hd
      go_wp2_with fail
      refine ((show Calls _ _ _ W (RetR (lackF x y) W) from c_pick (HY5.out.below hb).is hy (by omega) h1 (lackR_srt x y) (by omega))).mono ?_
      rintro e w1 ⟨v1, rfl, hv1, hb1⟩
      go_wp2_with fail
      refine hK _ _ ?_ ?_ ?_ ?_
      · rfl
      · exact hb1
      · exact hv1
      · trivial
    · intro V W hb hd K hK _
      clear hd
      obtain ⟨-, m0, m1, m2, -⟩ := (HP2a.out.below hb)
      go_wp2_with fail
      refine hK _ _ ?_ ?_ ?_ ?_
      · rfl
      · exact Below.refl _ _
      · exact rfl
      · trivial
    · intro V W hb hd K hK _
      clear hd
      go_wp2_with fail
      refine hK _ _ ?_ ?_ ?_ ?_
      · rfl
      · exact Below.refl _ _
      · exact Lst.below HG1.out hb
      · trivial
    · intro V W hb hd K hK _
      have h3 : (V 21) = .agg #[.slice p1 q1 r1, .slice p2 q2 r2, .slice p3 q3 r3] := hd 3 (by kernel_rfl)
      have h4 : Diffs.ERow W (V 22) (lackR y x) := hd 4 (by kernel_rfl)
      clear hd
      go_wp2_with fail
      refine ((show Calls _ _ _ W (RetR (lackF y x) W) from c_pick (HX5.out.below hb).is hx (by omega) h4 (lackR_srt y x) (by omega))).mono ?_
      rintro e w1 ⟨v1, rfl, hv1, hb1⟩
      go_wp2_with fail
      refine hK _ _ ?_ ?_ ?_ ?_
      · rfl
      · exact hb1
      · exact hv1
      · trivial
    · intro V W hb hd K hK _
      have h2 : Reads W (V 20) (lackF x y) := hd 2 (by kernel_rfl)
      clear hd
      go_wp2_with fail
      refine hK _ _ ?_ ?_ ?_ ?_
      · rfl
      · exact Below.refl _ _
      · exact h2
      · trivial
    · intro V W hb hd hap
      have h5 : Reads W (V 23) (lackF y x) := hd 5 (by decide)
      have h6 : Reads W (V 4) (lackF x y) := hd 6 (by decide)
      clear hd hap
      simp only [List.drop_succ_cons, List.drop_zero]
      have HR1 := Lib.hid h6
      have HR2 := Lib.hid h5
      have HB6 := Lib.hid (below_then HB5.out (Nat.le_refl _) hb)
      clear h5 h6 hb
      go_wp2_with fail
      refine bodyPost_ret (v := .tuple #[V 4, V 23]) (by simp [results, Tryz.f39, go_sem]) rfl ?_
      exact ⟨_, _, rfl, HR1.out, HR2.out, HB6.out⟩
end Go.Proofs.YtmfhmcegmeinnaaGreatDoor.Mut

namespace Go.Proofs.YtmfhmcegmeinnaaGreatDoor.Mut
open Go.RowKit Go.Sort Go.Proofs.YtmfhmcegmeinnaaGreatDoor.Ord Go.Proofs.YtmfhmcegmeinnaaGreatDoor.RegInv Go.Proofs.YtmfhmcegmeinnaaGreatDoor.Spare
set_option linter.unusedSectionVars false
variable [Inhabited Lim]

set_option maxHeartbeats 16000000 in
set_option maxRecDepth 100000 in
theorem dsync_any (v1 v2 : Value) (A B : List Ro) (w : World) (hT : Tabs w) (hA : MRow w v1 A) (zA : ∀ x ∈ A, x.1.key.size ≤ maxLen ∧ x.1.fin.size ≤ maxLen ∧ x.1.val.size ≤ maxLen) (hB : MRow w v2 B) (zB : ∀ x ∈ B, x.1.key.size ≤ maxLen ∧ x.1.fin.size ≤ maxLen ∧ x.1.val.size ≤ maxLen) :
    Calls Tryz.prog 7 #[v1, v2] w (RetB true w) := by
  have HGa := Lib.hid (fun (W : World) (hW : RowKit.Below w.heap.size w W) => great_any v1 A 25 W (hA.below hW) (by decide) zA)
  have HGb := Lib.hid (fun (W : World) (hW : RowKit.Below w.heap.size w W) => great_any v2 B 25 W (hB.below hW) (by decide) zB)
  obtain ⟨ga, hga⟩ : ∃ q, q = greatF (A.map (·.1)) 25 := ⟨_, rfl⟩
  obtain ⟨gb, hgb⟩ : ∃ q, q = greatF (B.map (·.1)) 25 := ⟨_, rfl⟩
  rw [← hga] at HGa
  rw [← hgb] at HGb
  obtain ⟨la, hla⟩ : ∃ l, l = A.map (·.1) := ⟨_, rfl⟩
  obtain ⟨lb, hlb⟩ : ∃ l, l = B.map (·.1) := ⟨_, rfl⟩
  rw [← hla] at hga
  rw [← hlb] at hgb
  obtain ⟨ao, ac, rfl, -, -⟩ := hA.form
  obtain ⟨bo, bc, rfl, -, -⟩ := hB.form
  obtain ⟨na, hna⟩ : ∃ k, k = A.length := ⟨_, rfl⟩
  obtain ⟨nb, hnb⟩ : ∃ k, k = B.length := ⟨_, rfl⟩
  rw [← hna] at HGa hA ⊢
  rw [← hnb] at HGb hB ⊢
  have HVA := Lib.hid hA
  have HVB := Lib.hid hB
  have HNA := Lib.hid hna
  have HNB := Lib.hid hnb
  have HLA := Lib.hid hla
  have HLB := Lib.hid hlb
  have HT := Lib.hid hT
  have HGG := Lib.hid (And.intro hga hgb)
  clear hT hA hB zA zB hga hgb hna hnb hla hlb
  obtain ⟨x, hx⟩ : ∃ x, x = leftOf la := ⟨_, rfl⟩
  obtain ⟨y, hy⟩ : ∃ y, y = leftOf lb := ⟨_, rfl⟩
  have HXY := Lib.hid (And.intro hx hy)
  clear hx hy
  have HB0 := Lib.hid (Below.refl w.heap.size w)
  go_enter Tryz.func7, Tryz.ntmps7
  go_wp2_with fail
  refine (HGa.out _ HB0.out).mono ?_
  rintro e w1 ⟨rfl, rfl⟩
  cases ga
  case true =>
    go_wp2_with fail
    go_ret
    exact ⟨rfl, HB0.out⟩
  go_wp2_with fail
  refine (HGb.out _ HB0.out).mono ?_
  rintro e w1 ⟨rfl, rfl⟩
  cases gb
  case true =>
    go_wp2_with fail
    go_ret
    exact ⟨rfl, HB0.out⟩
  obtain ⟨lA, sA⟩ := great_small HGG.out.1.symm
  obtain ⟨lB, sB⟩ := great_small HGG.out.2.symm
  have hna25 : na ≤ 25 := by have h := lA; rw [HLA.out, List.length_map, ← HNA.out] at h; exact h
  have hnb25 : nb ≤ 25 := by have h := lB; rw [HLB.out, List.length_map, ← HNB.out] at h; exact h
  have HSA := Lib.hid (show ∀ z ∈ A ++ B, Small z.1 from fun z hz => by
    rcases List.mem_append.1 hz with g | g
    · exact sA _ (by rw [HLA.out]; exact List.mem_map.2 ⟨z, g, rfl⟩)
    · exact sB _ (by rw [HLB.out]; exact List.mem_map.2 ⟨z, g, rfl⟩))
  have HO := Lib.hid (show (∀ W, RowKit.Below w.heap.size w W → Calls Tryz.prog 10 #[.slice ao na ac] W (RetC x W)) ∧ ∀ W, RowKit.Below w.heap.size w W → Calls Tryz.prog 10 #[.slice bo nb bc] W (RetC y W) from by
    rw [HXY.out.1, HXY.out.2]
    exact ⟨fun W h => c_of (HT.out.below h) ⟨A, HLA.out.symm, HVA.out.below h⟩ (by omega) sA, fun W h => c_of (HT.out.below h) ⟨B, HLB.out.symm, HVB.out.below h⟩ (by omega) sB⟩)
  have HG := Lib.hid (show Good x 25 ∧ Good y 25 from by rw [HXY.out.1, HXY.out.2]; exact ⟨(leftOf_good la).more lA, (leftOf_good lb).more lB⟩)
  clear lA lB sA sB HGG HGa HGb
  obtain ⟨b0, hb0⟩ : ∃ b, b = w.heap.size := ⟨_, rfl⟩
  have HBS := Lib.hid hb0
  clear hb0
  obtain ⟨i0, hi, hz0, hz1, hz2⟩ := info_parts info_M
  have HI := Lib.hid (And.intro hi (And.intro hz0 (And.intro hz1 hz2)))
  clear hi hz0 hz1 hz2
  go_wp2_with (at_builtin; refine wpList_append_spareAnyG rfl (.tmp 17) (.tmp 18) 22 rfl b0 51 i0 zeroM zM 120 Tryz.underlying22 HI.out.1 HI.out.2.1 rfl HI.out.2.2.1 HI.out.2.2.2 (by decide) _ 0 [] rfl (spare_lit w b0 51 zM (by decide) (by have := HBS.out; omega)) ao na ac (A.flatMap enM) rfl ?qa ?qb ?qc (by unfold maxLen; omega) (by omega) ?qd ?_; (case qa => (rw [flatMap_len enM_len, ← HNA.out]; rfl)); (case qb => exact lst_src enM_len (by decide) (HVA.out.below ((Below.refl _ _).alloc (Nat.le_refl _) _)).row); (case qc => exact flatM_one HVA.out.forms); (case qd => (have := HBS.out; simp; omega)))
  intro v5 w5 hsp hgw hkp hloc
  have HSP5 := Lib.hid (show Spare w5 b0 51 zM v5 na (A.flatMap enM) from by first | exact hsp | simpa using hsp)
  have HB5 := Lib.hid (show RowKit.Below w.heap.size w w5 from ((Below.refl w.heap.size w).alloc (Nat.le_refl _) _).grown hgw (by simp) (fun k hk => by have h := ((spare_lit w b0 51 zM (by decide) (by have := HBS.out; omega)).own.lt k hk).1; have := HBS.out; omega))
  have hw5 : b0 ≤ w5.heap.size := by have h := HB5.out.size; have := HBS.out; omega
  clear hsp hgw hkp hloc
  have HVB5 := Lib.hid (HVB.out.below HB5.out)
  go_wp2_with (at_builtin; refine wpList_append_spareAnyG rfl (.tmp 19) (.tmp 20) 22 rfl b0 51 i0 zeroM zM 120 Tryz.underlying22 HI.out.1 HI.out.2.1 rfl HI.out.2.2.1 HI.out.2.2.2 (by decide) v5 na (A.flatMap enM) rfl HSP5.out bo nb bc (B.flatMap enM) rfl ?qa ?qb ?qc (by unfold maxLen; omega) (by omega) hw5 ?_; (case qa => (rw [flatMap_len enM_len, ← HNB.out]; rfl)); (case qb => exact lst_src enM_len (by decide) HVB5.out.row); (case qc => exact flatM_one HVB5.out.forms))
  intro v6 w6 hsp hgw hkp hloc
  have HB6 := Lib.hid (show RowKit.Below w.heap.size w w6 from HB5.out.grown hgw HB5.out.size (fun k hk => by have h := (HSP5.out.own.lt k hk).1; have := HBS.out; omega))
  have HR6 := Lib.hid (show MRow w6 v6 (A ++ B) from ⟨Lst.owned enM_len (by decide) (show na + nb = (A ++ B).length by rw [List.length_append, HNA.out, HNB.out]) (by rw [List.flatMap_append]; exact hsp.own), fun z hz => by
    rcases List.mem_append.1 hz with g | g
    · exact (HVA.out.over z g).below HB6.out
    · exact (HVB.out.over z g).below HB6.out⟩)
  clear hsp hgw hkp hloc HVB5 HSP5 hw5
  go_wp2_with fail
  refine (own_any v6 (A ++ B) w6 HR6.out (by rw [List.length_append]; have := HNA.out; have := HNB.out; omega) HSA.out).mono ?_
  rintro e w7 ⟨q, rfl, hown, hb⟩
  have HB7 := Lib.hid (below_then HB6.out (Nat.le_refl _) hb)
  clear hb HR6 HB5 HB6
  cases q
  case false =>
    go_wp2_with fail
    go_ret
    exact ⟨rfl, HB7.out⟩
  have HOW := Lib.hid (hown rfl)
  clear hown
  have HOP := Lib.hid (show ∀ a ∈ x.all, ∀ b ∈ y.all, a.key = b.key → a.at_ = b.at_ → a = b from fun a ha b hb => own_two HOW.out a (by rw [← HLA.out]; rw [HXY.out.1] at ha; exact left_in ha) b (by rw [← HLB.out]; rw [HXY.out.2] at hb; exact left_in hb))
  have HQ1 := Lib.hid (lack_join HOP.out)
  have HQ2 := Lib.hid (show joinC y (leftOf (lackF y x)) = joinC x y from by rw [lack_join (fun a ha b hb e1 e2 => (HOP.out b hb a ha e1.symm e2.symm).symm)]; unfold joinC; exact leftOf_comm _ _)
  clear HOW
  go_wp2_with fail
  refine (HO.out.1 _ HB7.out).mono ?_
  rintro e w8 ⟨vv, rfl, hl, hb⟩
  obtain ⟨p1, q1, r1, p2, q2, r2, p3, q3, r3, rfl, hl1⟩ := hl.form
  have HLx0 := Lib.hid hl1
  have HB8 := Lib.hid (below_then HB7.out (Nat.le_refl _) hb)
  clear hl hb hl1
  go_wp2_with fail
  refine (HO.out.2 _ HB8.out).mono ?_
  rintro e w2 ⟨vv, rfl, hl, hb⟩
  obtain ⟨p4, q4, r4, p5, q5, r5, p6, q6, r6, rfl, hl1⟩ := hl.form
  have HLy0 := Lib.hid hl1
  have HLx1 := Lib.hid (HLx0.out.below hb)
  have HB2 := Lib.hid (below_then HB8.out (Nat.le_refl _) hb)
  clear hl hb hl1 HLx0
  go_upto_region 4 with fail
  obtain ⟨W3, hW⟩ : ∃ W, W = ((w2.alloc (.cells #[.slice p1 q1 r1, .slice p2 q2 r2, .slice p3 q3 r3] 28)).alloc (.cells #[.slice p4 q4 r4, .slice p5 q5 r5, .slice p6 q6 r6] 28)) := ⟨_, rfl⟩
  rw [← hW]
  have hb3 : RowKit.Below w2.heap.size w2 W3 := by rw [hW]; exact ((Below.refl _ _).alloc (Nat.le_refl _) _).alloc (by simp) _
  have x3 : C3 W3 w2.heap.size (.slice p1 q1 r1) (.slice p2 q2 r2) (.slice p3 q3 r3) := by
    rw [hW]
    exact (C3.new w2 _ _ _).below ((Below.refl _ _).alloc (Nat.le_refl _) _)
  have y3 : C3 W3 (w2.heap.size + 1) (.slice p4 q4 r4) (.slice p5 q5 r5) (.slice p6 q6 r6) := by
    rw [hW]
    have := C3.new (w2.alloc (.cells #[.slice p1 q1 r1, .slice p2 q2 r2, .slice p3 q3 r3] 28)) (.slice p4 q4 r4) (.slice p5 q5 r5) (.slice p6 q6 r6)
    rwa [World.size_alloc] at this
  have HLx := Lib.hid (HLx1.out.below hb3)
  have HLy := Lib.hid (HLy0.out.below hb3)
  have HB3 := Lib.hid (below_then HB2.out (Nat.le_refl _) hb3)
  obtain ⟨n2, hn⟩ : ∃ n, n = w2.heap.size := ⟨_, rfl⟩
  rw [← hn] at x3 y3 ⊢
  have HCx := Lib.hid x3
  have HCy := Lib.hid y3
  clear hW hb3 x3 y3 hn HLx1 HLy0 HB7 HB8 HB2
  obtain ⟨-, s0, s1, s2, -⟩ := HCx.out
  obtain ⟨-, t0, t1, t2, -⟩ := HCy.out
  go_wp2_with fail
  refine (c_sync (nx := 25) (ny := 25) HLx.out.is HG.out.1 HLy.out.is HG.out.2 (by decide) (by decide)).mono ?_
  rintro e W4 ⟨f1, f2, rfl, hf1, hf2, hb⟩
  have HF1 := Lib.hid hf1
  have HF2 := Lib.hid hf2
  have HLx4 := Lib.hid (HLx.out.below hb)
  have HLy4 := Lib.hid (HLy.out.below hb)
  have HCx4 := Lib.hid (HCx.out.below hb)
  have HCy4 := Lib.hid (HCy.out.below hb)
  have HB4 := Lib.hid (below_then HB3.out (Nat.le_refl _) hb)
  clear hf1 hf2 hb s0 s1 s2 t0 t1 t2 HLx HLy HCx HCy HB3
  obtain ⟨-, s0, s1, s2, -⟩ := HCx4.out
  obtain ⟨-, t0, t1, t2, -⟩ := HCy4.out
  go_wp2_with fail
  refine (c_join (n := 25) (n' := 25) (HT.out.below HB4.out) HLx4.out.is HG.out.1 HLy4.out.is HG.out.2 (by decide)).mono ?_
  rintro e w5 ⟨vv, rfl, hl, hb⟩
  obtain ⟨p7, q7, r7, p8, q8, r8, p9, q9, r9, rfl, hl1⟩ := hl.form
  have HLz0 := Lib.hid hl1
  have HB5 := Lib.hid (below_then HB4.out (Nat.le_refl _) hb)
  have HB45 := Lib.hid hb
  clear hl hb hl1 s0 s1 s2 t0 t1 t2
  go_upto_region 6 with fail
  obtain ⟨W6, hW⟩ : ∃ W, W = w5.alloc (.cells #[.slice p7 q7 r7, .slice p8 q8 r8, .slice p9 q9 r9] 28) := ⟨_, rfl⟩
  rw [← hW]
  have hb6 : RowKit.Below w5.heap.size w5 W6 := by rw [hW]; exact (Below.refl _ _).alloc (Nat.le_refl _) _
  have z3 : C3 W6 w5.heap.size (.slice p7 q7 r7) (.slice p8 q8 r8) (.slice p9 q9 r9) := by rw [hW]; exact C3.new _ _ _ _
  have hb46 := below_then HB45.out (Nat.le_refl _) hb6
  have HLz := Lib.hid (HLz0.out.below hb6)
  have HLx := Lib.hid (HLx4.out.below hb46)
  have HLy := Lib.hid (HLy4.out.below hb46)
  have HCx := Lib.hid (HCx4.out.below hb46)
  have HCy := Lib.hid (HCy4.out.below hb46)
  have HR1 := Lib.hid (HF1.out.below hb46)
  have HR2 := Lib.hid (HF2.out.below hb46)
  have HB6 := Lib.hid (below_then HB4.out (Nat.le_refl _) hb46)
  have HT6 := Lib.hid (HT.out.below HB6.out)
  obtain ⟨n9, hn⟩ : ∃ n, n = w5.heap.size := ⟨_, rfl⟩
  rw [← hn] at z3 ⊢
  have HCz := Lib.hid z3
  have HGz := Lib.hid (show Good (joinC x y) 50 from joinC_good HG.out.1 HG.out.2)
  have HL1 := Lib.hid (show (lackF x y).length ≤ 25 ∧ ∀ m ∈ lackF x y, Small m from ⟨by have h1 := lackF_len x y; have h2 := len_allF y; have h3 := HG.out.2.okc.len; omega, fun m hm => small_right (HG.out.2.okc.right _ (mem_allF.1 (List.mem_filter.1 hm).1))⟩)
  have HL2 := Lib.hid (show (lackF y x).length ≤ 25 ∧ ∀ m ∈ lackF y x, Small m from ⟨by have h1 := lackF_len y x; have h2 := len_allF x; have h3 := HG.out.1.okc.len; omega, fun m hm => small_right (HG.out.1.okc.right _ (mem_allF.1 (List.mem_filter.1 hm).1))⟩)
  have HG1 := Lib.hid (show Good (leftOf (lackF x y)) 25 ∧ Good (leftOf (lackF y x)) 25 from ⟨(leftOf_good _).more HL1.out.1, (leftOf_good _).more HL2.out.1⟩)
  clear hW hb6 z3 hb46 hn HLz0 HLx4 HLy4 HCx4 HCy4 HF1 HF2 HB4 HB5 HB45
  refine wp_region_told [] 17 [false, false, false, false, false, false, false, false, false, false, false, false, false, false, false, false, false, false, false, false, false, false, false, false, false, false, false, false, false, false, false, false, false, false, false, false, false, false, true, true, true, true, true, true, true, true, true, true, true, true, true, true, true, true, true]
    [sLit (.agg #[.slice p1 q1 r1, .slice p2 q2 r2, .slice p3 q3 r3]),
    sLit (f1),
    sOne (fun v W => IsC (leftOf (lackF x y)) v W) (fun _ _ _ h hb => h.below hb),
    sOne (fun v W => IsC (joinC x (leftOf (lackF x y))) v W) (fun _ _ _ h hb => h.below hb),
    sLit (.agg #[.slice p7 q7 r7, .slice p8 q8 r8, .slice p9 q9 r9]),
    sLit (.bool true),
    sLit (.bool true),
    sLit (.agg #[.slice p4 q4 r4, .slice p5 q5 r5, .slice p6 q6 r6]),
    sLit (f2),
    sOne (fun v W => IsC (leftOf (lackF y x)) v W) (fun _ _ _ h hb => h.below hb),
    sOne (fun v W => IsC (joinC y (leftOf (lackF y x))) v W) (fun _ _ _ h hb => h.below hb),
    sLit (.agg #[.slice p7 q7 r7, .slice p8 q8 r8, .slice p9 q9 r9]),
    sLit (.bool true),
    sLit (.bool true),
    sLit (.bool true),
    sLit (.bool true),
    sLit (.bool true)] (by kernel_rfl) (by kernel_rfl) (by kernel_rfl) (fun F hF => ?_)
  simp only [over, overL, Nat.reduceAdd] at hF
  obtain rfl := funext hF
  clear hF
  refine ⟨⟨?_, ?_, ?_, ?_, ?_, ?_, ?_, ?_, ?_, ?_, ?_, ?_, ?_, ?_, ?_, ?_, ?_, trivial⟩, ?_⟩
  · intro V W hb hd K hK _
    clear hd
    obtain ⟨-, m0, m1, m2, -⟩ := (HCx.out.below hb)
    go_wp2_with fail
    refine hK _ _ ?_ ?_ ?_ ?_
    · rfl
    · exact Below.refl _ _
    · exact rfl
    · trivial
  · intro V W hb hd K hK _
    clear hd
    go_wp2_with fail
    refine hK _ _ ?_ ?_ ?_ ?_
    · rfl
    · exact Below.refl _ _
    · exact rfl
    · trivial
  · intro V W hb hd K hK _
    have h1 : (V 39) = f1 := hd 1 (by kernel_rfl)
    clear hd
    go_wp2_with fail
    refine (c_of (HT6.out.below hb) (HR1.out.below hb) (by have := HL1.out.1; omega) HL1.out.2).mono ?_
    rintro e w1 ⟨v1, rfl, hv1, hb1⟩
    go_wp2_with fail
    refine hK _ _ ?_ ?_ ?_ ?_
    · rfl
    · exact hb1
    · exact hv1
    · trivial
  · intro V W hb hd K hK _
    have h0 : (V 38) = .agg #[.slice p1 q1 r1, .slice p2 q2 r2, .slice p3 q3 r3] := hd 0 (by kernel_rfl)
    have h2 : IsC (leftOf (lackF x y)) (V 40) W := hd 2 (by kernel_rfl)
    clear hd
    go_wp2_with fail
    refine (c_join (n := 25) (n' := 25) (HT6.out.below hb) (HLx.out.below hb).is HG.out.1 h2 HG1.out.1 (by decide)).mono ?_
    rintro e w1 ⟨v1, rfl, hv1, hb1⟩
    go_wp2_with fail
    refine hK _ _ ?_ ?_ ?_ ?_
    · rfl
    · exact hb1
    · exact hv1
    · trivial
  · intro V W hb hd K hK _
    clear hd
    obtain ⟨-, m0, m1, m2, -⟩ := (HCz.out.below hb)
    go_wp2_with fail
    refine hK _ _ ?_ ?_ ?_ ?_
    · rfl
    · exact Below.refl _ _
    · exact rfl
    · trivial
  · intro V W hb hd K hK _
    have h3 : IsC (joinC x (leftOf (lackF x y))) (V 41) W := hd 3 (by kernel_rfl)
    have h4 : (V 42) = .agg #[.slice p7 q7 r7, .slice p8 q8 r8, .slice p9 q9 r9] := hd 4 (by kernel_rfl)
    clear hd
    go_wp2_with fail
    refine (c_same (n := 50) (n' := 50) true ⟨fun _ => HQ1.out, fun _ => rfl⟩ h3 (joinC_good HG.out.1 HG1.out.1) (HLz.out.below hb).is HGz.out (by decide) (by decide)).mono ?_
    rintro e w1 ⟨rfl, hb1⟩
    go_wp2_with fail
    refine hK _ _ ?_ ?_ ?_ ?_
    · rfl
    · exact hb1
    · exact rfl
    · trivial
  · intro V W hb hd K hK _
    have h5 : (V 43) = .bool true := hd 5 (by kernel_rfl)
    clear hd
    go_wp2_with fail
    refine hK _ _ ?_ ?_ ?_ ?_
    · rfl
    · exact Below.refl _ _
    · exact rfl
    · trivial
  · intro V W hb hd K hK _
    have h6 : (V 44) = .bool true := hd 6 (by kernel_rfl)
    clear hd
    obtain ⟨-, m0, m1, m2, -⟩ := (HCy.out.below hb)
    go_wp2_with fail
    refine hK _ _ ?_ ?_ ?_ ?_
    · rfl
    · exact Below.refl _ _
    · exact rfl
    · trivial
  · intro V W hb hd K hK _
    have h6 : (V 44) = .bool true := hd 6 (by kernel_rfl)
    clear hd
    go_wp2_with fail
    refine hK _ _ ?_ ?_ ?_ ?_
    · rfl
    · exact Below.refl _ _
    · exact rfl
    · trivial
  · intro V W hb hd K hK _
    have h6 : (V 44) = .bool true := hd 6 (by kernel_rfl)
    have h8 : (V 46) = f2 := hd 8 (by kernel_rfl)
    clear hd
    go_wp2_with fail
    refine (c_of (HT6.out.below hb) (HR2.out.below hb) (by have := HL2.out.1; omega) HL2.out.2).mono ?_
    rintro e w1 ⟨v1, rfl, hv1, hb1⟩
    go_wp2_with fail
    refine hK _ _ ?_ ?_ ?_ ?_
    · rfl
    · exact hb1
    · exact hv1
    · trivial
  · intro V W hb hd K hK _
    have h6 : (V 44) = .bool true := hd 6 (by kernel_rfl)
    have h7 : (V 45) = .agg #[.slice p4 q4 r4, .slice p5 q5 r5, .slice p6 q6 r6] := hd 7 (by kernel_rfl)
    have h9 : IsC (leftOf (lackF y x)) (V 47) W := hd 9 (by kernel_rfl)
    clear hd
    go_wp2_with fail
    refine (c_join (n := 25) (n' := 25) (HT6.out.below hb) (HLy.out.below hb).is HG.out.2 h9 HG1.out.2 (by decide)).mono ?_
    rintro e w1 ⟨v1, rfl, hv1, hb1⟩
    go_wp2_with fail
    refine hK _ _ ?_ ?_ ?_ ?_
    · rfl
    · exact hb1
    · exact hv1
    · trivial
  · intro V W hb hd K hK _
    have h6 : (V 44) = .bool true := hd 6 (by kernel_rfl)
    clear hd
    obtain ⟨-, m0, m1, m2, -⟩ := (HCz.out.below hb)
    go_wp2_with fail
    refine hK _ _ ?_ ?_ ?_ ?_
    · rfl
    · exact Below.refl _ _
    · exact rfl
    · trivial
  · intro V W hb hd K hK _
    have h6 : (V 44) = .bool true := hd 6 (by kernel_rfl)
    have h10 : IsC (joinC y (leftOf (lackF y x))) (V 48) W := hd 10 (by kernel_rfl)
    have h11 : (V 49) = .agg #[.slice p7 q7 r7, .slice p8 q8 r8, .slice p9 q9 r9] := hd 11 (by kernel_rfl)
    clear hd
    go_wp2_with fail
    refine (c_same (n := 50) (n' := 50) true ⟨fun _ => HQ2.out, fun _ => rfl⟩ h10 (joinC_good HG.out.2 HG1.out.2) (HLz.out.below hb).is HGz.out (by decide) (by decide)).mono ?_
    rintro e w1 ⟨rfl, hb1⟩
    go_wp2_with fail
    refine hK _ _ ?_ ?_ ?_ ?_
    · rfl
    · exact hb1
    · exact rfl
    · trivial
  · intro V W hb hd K hK _
    have h6 : (V 44) = .bool true := hd 6 (by kernel_rfl)
    have h12 : (V 50) = .bool true := hd 12 (by kernel_rfl)
    clear hd
    go_wp2_with fail
    refine hK _ _ ?_ ?_ ?_ ?_
    · rfl
    · exact Below.refl _ _
    · exact rfl
    · trivial
  · intro V W hb hd K hK _
    have h13 : (V 51) = .bool true := hd 13 (by kernel_rfl)
    clear hd
    go_wp2_with fail
    refine hK _ _ ?_ ?_ ?_ ?_
    · rfl
    · exact Below.refl _ _
    · exact rfl
    · trivial
  · intro V W hb hd K hK _
    have h14 : (V 52) = .bool true := hd 14 (by kernel_rfl)
    clear hd
    go_wp2_with fail
    refine (Diffs.alive_any W).mono ?_
    rintro e w1 ⟨rfl, hb1⟩
    go_wp2_with fail
    refine hK _ _ ?_ ?_ ?_ ?_
    · rfl
    · exact hb1
    · exact rfl
    · trivial
  · intro V W hb hd K hK _
    have h14 : (V 52) = .bool true := hd 14 (by kernel_rfl)
    have h15 : (V 53) = .bool true := hd 15 (by kernel_rfl)
    clear hd
    go_wp2_with fail
    refine hK _ _ ?_ ?_ ?_ ?_
    · rfl
    · exact Below.refl _ _
    · exact rfl
    · trivial
  · intro V W hb hd hap
    have h16 : (V 54) = .bool true := hd 16 (by decide)
    clear hd hap
    simp only [List.drop_succ_cons, List.drop_zero]
    have HBz := Lib.hid (below_then HB6.out (Nat.le_refl _) hb)
    clear hb
    go_wp2_with fail
    go_ret
    exact ⟨rfl, HBz.out⟩
end Go.Proofs.YtmfhmcegmeinnaaGreatDoor.Mut
