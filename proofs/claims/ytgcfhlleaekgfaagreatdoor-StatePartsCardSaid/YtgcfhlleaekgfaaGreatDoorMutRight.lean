/- The walk of mut.Right (layer 7). PRINTED by wip/genmutright.py. -/
import Derived.Test.YtgcfhlleaekgfaaGreatDoorMutOver
import Derived.Test.YtgcfhlleaekgfaaGreatDoorMutSmall
namespace Go.Proofs.YtgcfhlleaekgfaaGreatDoor.Mut
open Go.RowKit Go.Sort Go.Proofs.YtgcfhlleaekgfaaGreatDoor.Ord

/-- May there be such a mutation? Of what its parts are. -/
def rightG (a b c d ve f fe q : Bool) (ex k t : Int) (n : Nat) : Bool :=
  a && (b && (c && (!(decide (ex < 0) || (decide (1099511627776 < ex) || (decide (0 < ex) && (!decide (k = 1) || !decide (t = 1))))) && (!((!decide (k = 1) && !ve) || !d) && (!((!decide (k = 3) && !fe) || (decide (k = 3) && (!f || !q))) &&
    (if t = 1 then decide (n = 0) && (decide (1 ≤ k) && decide (k ≤ 3)) else if t = 2 then decide (k = 1) || decide (k = 2) else false))))))
def rightF (m : Mu) : Bool := rightG (stR m.at_) (keyF m.key) (overF m.over m.at_) (valF m.val) m.val.toList.isEmpty (keyF m.fin) m.fin.toList.isEmpty (lessS m.key m.fin) m.expiry m.kind m.table m.over.length
theorem fit_of {m : Mu} (h : rightF m = true) : Fit m := by
  unfold rightF rightG at h
  simp only [Bool.and_eq_true, Bool.not_eq_true', Bool.or_eq_false_iff, Bool.and_eq_false_iff, decide_eq_false_iff_not, decide_eq_true_eq, Bool.not_eq_false'] at h
  obtain ⟨-, -, -, ⟨h1, h2, h3⟩, ⟨h4, -⟩, -, h6⟩ := h
  constructor
  · by_cases t1 : m.table = 1
    · exact Or.inl t1
    · rw [if_neg t1] at h6
      by_cases t2 : m.table = 2
      · exact Or.inr t2
      · rw [if_neg t2] at h6; cases h6
  · intro hk
    have t1 : m.table = 1 := by
      by_cases t1 : m.table = 1
      · exact t1
      · rw [if_neg t1] at h6
        by_cases t2 : m.table = 2
        · rw [if_pos t2, hk] at h6; simp at h6
        · rw [if_neg t2] at h6; cases h6
    rw [if_pos t1] at h6
    simp only [Bool.and_eq_true, decide_eq_true_eq] at h6
    refine ⟨t1, ?_, ?_, List.length_eq_zero_iff.1 h6.1⟩
    · rcases h4 with h4 | h4
      · rw [hk] at h4; omega
      · rw [← decide_eq_emptyBytes] at h4
        exact of_decide_eq_true h4
    · rcases h3 with h3 | h3
      · omega
      · rw [hk] at h3; simp at h3

structure A0 (w : World) (b : Nat) (x : Ro) : Prop where
  lt : b < w.heap.size
  c0 : w.cell? ⟨b, 0, none⟩ = some (.int .i64 x.1.table)
  c1 : w.cell? ⟨b, 1, none⟩ = some (.int .i64 x.1.kind)
  c2 : w.cell? ⟨b, 2, none⟩ = some (.string x.1.key)
  c3 : w.cell? ⟨b, 3, none⟩ = some (.string x.1.fin)
  c4 : w.cell? ⟨b, 4, none⟩ = some (.string x.1.val)
  c5 : w.cell? ⟨b, 5, none⟩ = some (.int .i64 x.1.expiry)
  c6 : w.cell? ⟨b, 6, none⟩ = some (.int .i64 x.1.at_.p)
  c7 : w.cell? ⟨b, 7, none⟩ = some (.int .i64 x.1.at_.l)
  c8 : w.cell? ⟨b, 8, none⟩ = some (.int .i64 x.1.at_.w)
  c9 : w.cell? ⟨b, 9, none⟩ = some x.2
theorem A0.of {w : World} {b : Nat} {x : Ro} (h : At w b 0 x) : A0 w b x := by
  obtain ⟨h0, h1, h2, h3, h4, h5, h6, h7, h8, h9, h10⟩ := h
  simp only [Nat.zero_add] at *
  exact ⟨h0, h1, h2, h3, h4, h5, h6, h7, h8, h9, h10⟩
theorem A0.below {w w' : World} {b : Nat} {x : Ro} (h : A0 w b x) (hb : RowKit.Below w.heap.size w w') : A0 w' b x := by
  have e : ∀ k, w'.cell? ⟨b, k, none⟩ = w.cell? ⟨b, k, none⟩ := fun k => hb.cell (p := ⟨b, k, none⟩) h.lt
  obtain ⟨h0, h1, h2, h3, h4, h5, h6, h7, h8, h9, h10⟩ := h
  exact ⟨Nat.lt_of_lt_of_le h0 hb.size, (e _).trans h1, (e _).trans h2, (e _).trans h3, (e _).trans h4, (e _).trans h5, (e _).trans h6, (e _).trans h7, (e _).trans h8, (e _).trans h9, (e _).trans h10⟩

set_option maxHeartbeats 16000000 in
set_option maxRecDepth 100000 in
theorem right_any (x : Ro) (w : World) (hT : Tabs w) (hx : Over w x) (h1 : x.1.over.length ≤ 1000000) (hk : x.1.key.size ≤ 1000000) (hf : x.1.fin.size ≤ 1000000) (hv : x.1.val.size ≤ 1000000) :
    Calls Tryz.prog 44 #[vM x] w fun e w' => e = .returned (.bool (rightF x.1)) ∧ RowKit.Below w.heap.size w w' := by
  have HS := Lib.hid (fun (W : World) => stright_any x.1.at_ W)
  have HK := Lib.hid (fun (W : World) (h : RowKit.Below w.heap.size w W) => key_any x.1.key W (hT.below h) hk)
  have HF := Lib.hid (fun (W : World) (h : RowKit.Below w.heap.size w W) => key_any x.1.fin W (hT.below h) hf)
  have HV := Lib.hid (fun (W : World) (h : RowKit.Below w.heap.size w W) => val_any x.1.val W (hT.below h) hv)
  have HO := Lib.hid (fun (W : World) (h : RowKit.Below w.heap.size w W) => over_any x.2 x.1.over x.1.at_ W (hx.below h) h1)
  have hA0 := A0.of (At.new w 29 x)
  have hB0 : RowKit.Below w.heap.size w (w.alloc (.cells (enM x).toArray 29)) := (Below.refl _ _).alloc (Nat.le_refl _) _
  have hLE : (Op.bytesLess x.1.fin.toList x.1.key.toList || x.1.fin.toList == x.1.key.toList) = !lessS x.1.key x.1.fin := le_or _ _
  have hR : rightF x.1 = rightG (stR x.1.at_) (keyF x.1.key) (overF x.1.over x.1.at_) (valF x.1.val) x.1.val.toList.isEmpty (keyF x.1.fin) x.1.fin.toList.isEmpty (lessS x.1.key x.1.fin) x.1.expiry x.1.kind x.1.table x.1.over.length := rfl
  rw [hR]
  clear hR
  obtain ⟨ao, cap, e1, -, -⟩ := Over.form hx
  obtain ⟨⟨tb, k, key, fin, val, ex, ⟨p, l, h⟩, ov⟩, av⟩ := x
  simp only [] at *
  subst e1
  obtain ⟨a, ha⟩ : ∃ a, a = stR ⟨p, l, h⟩ := ⟨_, rfl⟩
  obtain ⟨b, hb⟩ : ∃ a, a = keyF key := ⟨_, rfl⟩
  obtain ⟨c, hc⟩ : ∃ a, a = overF ov ⟨p, l, h⟩ := ⟨_, rfl⟩
  obtain ⟨d, hd⟩ : ∃ a, a = valF val := ⟨_, rfl⟩
  obtain ⟨f, hff⟩ : ∃ a, a = keyF fin := ⟨_, rfl⟩
  obtain ⟨q, hq⟩ : ∃ a, a = lessS key fin := ⟨_, rfl⟩
  obtain ⟨ve, hve⟩ : ∃ a, a = val.toList.isEmpty := ⟨_, rfl⟩
  obtain ⟨fe, hfe⟩ : ∃ a, a = fin.toList.isEmpty := ⟨_, rfl⟩
  rw [← ha] at HS; rw [← hb] at HK; rw [← hc] at HO; rw [← hd] at HV; rw [← hff] at HF; rw [← hq] at hLE
  rw [← ha, ← hb, ← hc, ← hd, ← hff, ← hq, ← hve, ← hfe]
  unfold vM
  simp only []
  generalize ov.length = n at *
  have HA0 := Lib.hid hA0
  have HB0 := Lib.hid hB0
  have HLE := Lib.hid hLE
  have HVE := Lib.hid hve
  have HFE := Lib.hid hfe
  clear ha hb hc hd hff hq hve hfe hA0 hB0 hLE hT hx h1 hk hf hv
  go_enter Tryz.func44, Tryz.ntmps44
  go_wp2_with fail
  refine (HS.out _).mono ?_
  rintro e w1 ⟨rfl, hb⟩
  have HA1 := Lib.hid (HA0.out.below hb.below)
  have HB1 := Lib.hid (below_then HB0.out (Nat.le_refl _) hb.below)
  clear hb
  obtain ⟨-, z0, z1, z2, z3, z4, z5, z6, z7, z8, z9⟩ := HA1.out
  simp only [] at z0 z1 z2 z3 z4 z5 z6 z7 z8 z9
  cases a
  · skip
    go_wp2_with fail
    go_ret
    exact ⟨ret_bool (by simp [rightG] <;> omega), HB1.out⟩
  go_wp2_with fail
  clear z0 z1 z2 z3 z4 z5 z6 z7 z8 z9
  refine (HK.out _ HB1.out).mono ?_
  rintro e w2 ⟨rfl, hb⟩
  have HA2 := Lib.hid (HA1.out.below hb)
  have HB2 := Lib.hid (below_then HB1.out (Nat.le_refl _) hb)
  clear hb
  obtain ⟨-, z0, z1, z2, z3, z4, z5, z6, z7, z8, z9⟩ := HA2.out
  simp only [] at z0 z1 z2 z3 z4 z5 z6 z7 z8 z9
  cases b
  · skip
    go_wp2_with fail
    go_ret
    exact ⟨ret_bool (by simp [rightG] <;> omega), HB2.out⟩
  go_wp2_with fail
  clear z0 z1 z2 z3 z4 z5 z6 z7 z8 z9
  refine (HO.out _ HB2.out).mono ?_
  rintro e w3 ⟨rfl, hb⟩
  have HA3 := Lib.hid (HA2.out.below hb.below)
  have HB3 := Lib.hid (below_then HB2.out (Nat.le_refl _) hb.below)
  clear hb
  obtain ⟨-, z0, z1, z2, z3, z4, z5, z6, z7, z8, z9⟩ := HA3.out
  simp only [] at z0 z1 z2 z3 z4 z5 z6 z7 z8 z9
  cases c
  · skip
    go_wp2_with fail
    go_ret
    exact ⟨ret_bool (by simp [rightG] <;> omega), HB3.out⟩
  by_cases x1 : ex < 0
  · skip
    go_wp2_with fail
    go_ret
    exact ⟨ret_bool (by simp [rightG, x1] <;> omega), HB3.out⟩
  by_cases x2 : 1099511627776 < ex
  · skip
    go_wp2_with fail
    go_ret
    exact ⟨ret_bool (by simp [rightG, x1, x2] <;> omega), HB3.out⟩
  by_cases x3 : 0 < ex
  · by_cases k1 : k = 1
    · subst k1
      by_cases t1 : tb = 1
      · subst t1
        go_wp2_with fail
        clear z0 z1 z2 z3 z4 z5 z6 z7 z8 z9
        refine (HV.out _ HB3.out).mono ?_
        rintro e w4 ⟨rfl, hb⟩
        have HA4 := Lib.hid (HA3.out.below hb)
        have HB4 := Lib.hid (below_then HB3.out (Nat.le_refl _) hb)
        clear hb
        obtain ⟨-, z0, z1, z2, z3, z4, z5, z6, z7, z8, z9⟩ := HA4.out
        simp only [] at z0 z1 z2 z3 z4 z5 z6 z7 z8 z9
        cases d
        · skip
          go_wp2_with fail
          go_ret
          exact ⟨ret_bool (by simp [rightG, x1, x2, x3] <;> omega), HB4.out⟩
        cases fe
        · have hfe := HFE.out.symm
          go_wp2_with fail
          go_ret
          exact ⟨ret_bool (by simp [rightG, x1, x2, x3] <;> omega), HB4.out⟩
        have hfe := HFE.out.symm
        by_cases n0 : n = 0
        · subst n0
          go_wp2_with fail
          go_ret
          exact ⟨ret_bool (by simp [rightG, x1, x2, x3] <;> omega), HB4.out⟩
        · skip
          go_wp2_with fail
          go_ret
          exact ⟨ret_bool (by simp [rightG, x1, x2, x3, n0] <;> omega), HB4.out⟩
      · have t1n : (tb == 1) = false := by simp [t1]
        have t1m : (tb != 1) = true := by simp [t1]
        have t1d : decide (tb = 1) = false := by simp [t1]
        go_wp2_with fail
        go_ret
        exact ⟨ret_bool (by simp [rightG, x1, x2, x3, t1] <;> omega), HB3.out⟩
    · skip
      go_wp2_with fail
      go_ret
      exact ⟨ret_bool (by simp [rightG, x1, x2, x3, k1] <;> omega), HB3.out⟩
  · by_cases k1 : k = 1
    · subst k1
      go_wp2_with fail
      clear z0 z1 z2 z3 z4 z5 z6 z7 z8 z9
      refine (HV.out _ HB3.out).mono ?_
      rintro e w4 ⟨rfl, hb⟩
      have HA4 := Lib.hid (HA3.out.below hb)
      have HB4 := Lib.hid (below_then HB3.out (Nat.le_refl _) hb)
      clear hb
      obtain ⟨-, z0, z1, z2, z3, z4, z5, z6, z7, z8, z9⟩ := HA4.out
      simp only [] at z0 z1 z2 z3 z4 z5 z6 z7 z8 z9
      cases d
      · skip
        go_wp2_with fail
        go_ret
        exact ⟨ret_bool (by simp [rightG, x1, x2, x3] <;> omega), HB4.out⟩
      cases fe
      · have hfe := HFE.out.symm
        go_wp2_with fail
        go_ret
        exact ⟨ret_bool (by simp [rightG, x1, x2, x3] <;> omega), HB4.out⟩
      have hfe := HFE.out.symm
      by_cases t1 : tb = 1
      · subst t1
        by_cases n0 : n = 0
        · subst n0
          go_wp2_with fail
          go_ret
          exact ⟨ret_bool (by simp [rightG, x1, x2, x3] <;> omega), HB4.out⟩
        · skip
          go_wp2_with fail
          go_ret
          exact ⟨ret_bool (by simp [rightG, x1, x2, x3, n0] <;> omega), HB4.out⟩
      by_cases t2 : tb = 2
      · subst t2
        go_wp2_with fail
        go_ret
        exact ⟨ret_bool (by simp [rightG, x1, x2, x3] <;> omega), HB4.out⟩
      · skip
        go_wp2_with fail
        go_ret
        exact ⟨ret_bool (by simp [rightG, x1, x2, x3, t1, t2] <;> omega), HB4.out⟩
    · by_cases k3 : k = 3
      · subst k3
        cases ve
        · have hve := HVE.out.symm
          go_wp2_with fail
          go_ret
          exact ⟨ret_bool (by simp [rightG, x1, x2, x3] <;> omega), HB3.out⟩
        have hve := HVE.out.symm
        go_wp2_with fail
        clear z0 z1 z2 z3 z4 z5 z6 z7 z8 z9
        refine (HV.out _ HB3.out).mono ?_
        rintro e w4 ⟨rfl, hb⟩
        have HA4 := Lib.hid (HA3.out.below hb)
        have HB4 := Lib.hid (below_then HB3.out (Nat.le_refl _) hb)
        clear hb
        obtain ⟨-, z0, z1, z2, z3, z4, z5, z6, z7, z8, z9⟩ := HA4.out
        simp only [] at z0 z1 z2 z3 z4 z5 z6 z7 z8 z9
        cases d
        · skip
          go_wp2_with fail
          go_ret
          exact ⟨ret_bool (by simp [rightG, x1, x2, x3] <;> omega), HB4.out⟩
        go_wp2_with fail
        clear z0 z1 z2 z3 z4 z5 z6 z7 z8 z9
        refine (HF.out _ HB4.out).mono ?_
        rintro e w5 ⟨rfl, hb⟩
        have HA5 := Lib.hid (HA4.out.below hb)
        have HB5 := Lib.hid (below_then HB4.out (Nat.le_refl _) hb)
        clear hb
        obtain ⟨-, z0, z1, z2, z3, z4, z5, z6, z7, z8, z9⟩ := HA5.out
        simp only [] at z0 z1 z2 z3 z4 z5 z6 z7 z8 z9
        cases f
        · skip
          go_wp2_with fail
          go_ret
          exact ⟨ret_bool (by simp [rightG, x1, x2, x3] <;> omega), HB5.out⟩
        cases q
        · have hle : (Op.bytesLess fin.toList key.toList || fin.toList == key.toList) = true := HLE.out
          go_wp2_with fail
          go_ret
          exact ⟨ret_bool (by simp [rightG, x1, x2, x3] <;> omega), HB5.out⟩
        have hle : (Op.bytesLess fin.toList key.toList || fin.toList == key.toList) = false := HLE.out
        by_cases t1 : tb = 1
        · subst t1
          by_cases n0 : n = 0
          · subst n0
            go_wp2_with fail
            go_ret
            exact ⟨ret_bool (by simp [rightG, x1, x2, x3] <;> omega), HB5.out⟩
          · skip
            go_wp2_with fail
            go_ret
            exact ⟨ret_bool (by simp [rightG, x1, x2, x3, n0] <;> omega), HB5.out⟩
        by_cases t2 : tb = 2
        · subst t2
          go_wp2_with fail
          go_ret
          exact ⟨ret_bool (by simp [rightG, x1, x2, x3] <;> omega), HB5.out⟩
        · skip
          go_wp2_with fail
          go_ret
          exact ⟨ret_bool (by simp [rightG, x1, x2, x3, t1, t2] <;> omega), HB5.out⟩
      · skip
        cases ve
        · have hve := HVE.out.symm
          go_wp2_with fail
          go_ret
          exact ⟨ret_bool (by simp [rightG, x1, x2, x3, k1, k3] <;> omega), HB3.out⟩
        have hve := HVE.out.symm
        go_wp2_with fail
        clear z0 z1 z2 z3 z4 z5 z6 z7 z8 z9
        refine (HV.out _ HB3.out).mono ?_
        rintro e w4 ⟨rfl, hb⟩
        have HA4 := Lib.hid (HA3.out.below hb)
        have HB4 := Lib.hid (below_then HB3.out (Nat.le_refl _) hb)
        clear hb
        obtain ⟨-, z0, z1, z2, z3, z4, z5, z6, z7, z8, z9⟩ := HA4.out
        simp only [] at z0 z1 z2 z3 z4 z5 z6 z7 z8 z9
        cases d
        · skip
          go_wp2_with fail
          go_ret
          exact ⟨ret_bool (by simp [rightG, x1, x2, x3, k1, k3] <;> omega), HB4.out⟩
        cases fe
        · have hfe := HFE.out.symm
          go_wp2_with fail
          go_ret
          exact ⟨ret_bool (by simp [rightG, x1, x2, x3, k1, k3] <;> omega), HB4.out⟩
        have hfe := HFE.out.symm
        by_cases t1 : tb = 1
        · subst t1
          by_cases n0 : n = 0
          · subst n0
            by_cases g1 : 1 ≤ k
            · by_cases g3 : k ≤ 3
              · skip
                go_wp2_with fail
                go_ret
                exact ⟨ret_bool (by simp [rightG, x1, x2, x3, k1, k3, g1, g3] <;> omega), HB4.out⟩
              · skip
                go_wp2_with fail
                go_ret
                exact ⟨ret_bool (by simp [rightG, x1, x2, x3, k1, k3, g1, g3] <;> omega), HB4.out⟩
            · skip
              go_wp2_with fail
              go_ret
              exact ⟨ret_bool (by simp [rightG, x1, x2, x3, k1, k3, g1] <;> omega), HB4.out⟩
          · skip
            go_wp2_with fail
            go_ret
            exact ⟨ret_bool (by simp [rightG, x1, x2, x3, k1, k3, n0] <;> omega), HB4.out⟩
        by_cases t2 : tb = 2
        · subst t2
          by_cases k2 : k = 2
          · skip
            go_wp2_with fail
            go_ret
            exact ⟨ret_bool (by simp [rightG, x1, x2, x3, k1, k3, k2] <;> omega), HB4.out⟩
          · skip
            go_wp2_with fail
            go_ret
            exact ⟨ret_bool (by simp [rightG, x1, x2, x3, k1, k3, k2] <;> omega), HB4.out⟩
        · skip
          go_wp2_with fail
          go_ret
          exact ⟨ret_bool (by simp [rightG, x1, x2, x3, k1, k3, t1, t2] <;> omega), HB4.out⟩
end Go.Proofs.YtgcfhlleaekgfaaGreatDoor.Mut
