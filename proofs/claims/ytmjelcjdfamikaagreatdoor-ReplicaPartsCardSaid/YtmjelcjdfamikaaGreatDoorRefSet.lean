/- The walks of cenotaphref08.set, within; cenotaphref07.Covers; cenotaphref08.Hit (layers 7, 8). -/
import Derived.Test.YtmjelcjdfamikaaGreatDoorRefIns
import Derived.Test.YtmjelcjdfamikaaGreatDoorRefMay
set_option linter.unusedSimpArgs false
set_option linter.unusedVariables false
namespace Go.Proofs.YtmjelcjdfamikaaGreatDoor.Mut
open Go.RowKit Go.Sort Go.Proofs.YtmjelcjdfamikaaGreatDoor.Ord
set_option linter.unusedSectionVars false
variable [Inhabited Lim]

def setStep (acc : List Ro) (x : Ro) : List Ro := if rightF x.1 then insRo x false acc else acc
def setRo (R : List Ro) : List Ro := R.foldl setStep []
theorem setRo_snoc (R : List Ro) (x : Ro) : setRo (R ++ [x]) = setStep (setRo R) x := by simp [setRo]
theorem setStep_mem (acc : List Ro) (x : Ro) : ∀ y ∈ setStep acc x, y ∈ acc ∨ y = x := by
  intro y hy
  unfold setStep at hy
  split at hy
  · exact insRo_mem _ _ _ y hy
  · exact Or.inl hy
theorem setRo_mem (R : List Ro) : ∀ y ∈ setRo R, y ∈ R := by
  have : ∀ (R : List Ro) (acc : List Ro), ∀ y ∈ R.foldl setStep acc, y ∈ acc ∨ y ∈ R := by
    intro R
    induction R with
    | nil => intro acc y hy; exact Or.inl hy
    | cons x R ih =>
      intro acc y hy
      rcases ih _ y hy with h | h
      · rcases setStep_mem acc x y h with h | rfl
        · exact Or.inl h
        · exact Or.inr (by simp)
      · exact Or.inr (List.mem_cons_of_mem _ h)
  intro y hy
  rcases this R [] y hy with h | h
  · cases h
  · exact h
theorem setRo_spec (R : List Ro) : Rises muC ((setRo R).map (·.1)) ∧ (∀ m, m ∈ (setRo R).map (·.1) ↔ Fits (R.map (·.1)) m) ∧ (setRo R).length ≤ R.length := by
  have : ∀ (R : List Ro) (acc : List Ro) (S : Mu → Prop), Rises muC (acc.map (·.1)) → (∀ m, m ∈ acc.map (·.1) ↔ S m) →
      Rises muC ((R.foldl setStep acc).map (·.1)) ∧ (∀ m, m ∈ (R.foldl setStep acc).map (·.1) ↔ S m ∨ Fits (R.map (·.1)) m) ∧ (R.foldl setStep acc).length ≤ acc.length + R.length := by
    intro R
    induction R with
    | nil => intro acc S h1 h2; exact ⟨h1, fun m => by rw [List.foldl_nil, h2]; unfold Fits; simp, by simp⟩
    | cons x R ih =>
      intro acc S h1 h2
      rw [List.foldl_cons]
      by_cases hr : rightF x.1 = true
      · have e : setStep acc x = insRo x false acc := by unfold setStep; rw [if_pos hr]
        have hm := insRo_map x acc false
        have hs := insF_rises x.1 h1
        obtain ⟨i1, i2, i3⟩ := ih (setStep acc x) (fun m => S m ∨ m = x.1) (by rw [e, hm]; exact hs.1) (fun m => by rw [e, hm]; exact (hs.2 m).trans (or_congr (h2 m) Iff.rfl))
        refine ⟨i1, fun m => (i2 m).trans ?_, ?_⟩
        · unfold Fits
          rw [List.map_cons, List.mem_cons]
          constructor
          · rintro ((h | rfl) | ⟨h, h3⟩)
            · exact Or.inl h
            · exact Or.inr ⟨Or.inl rfl, hr⟩
            · exact Or.inr ⟨Or.inr h, h3⟩
          · rintro (h | ⟨rfl | h, h3⟩)
            · exact Or.inl (Or.inl h)
            · exact Or.inl (Or.inr rfl)
            · exact Or.inr ⟨h, h3⟩
        · have h4 : (setStep acc x).length ≤ acc.length + 1 := by
            rw [e]
            have := insF_len (acc.map (·.1)) x.1
            unfold insF at this
            rw [← hm, List.length_map, List.length_map] at this
            exact this
          simp only [List.length_cons]; omega
      · have hrf : rightF x.1 = false := by simpa using hr
        have e : setStep acc x = acc := by unfold setStep; rw [hrf]; rfl
        rw [e]
        obtain ⟨i1, i2, i3⟩ := ih acc S h1 h2
        refine ⟨i1, fun m => (i2 m).trans (or_congr Iff.rfl ?_), by simp only [List.length_cons]; omega⟩
        unfold Fits
        rw [List.map_cons, List.mem_cons]
        constructor
        · rintro ⟨h, h3⟩; exact ⟨Or.inr h, h3⟩
        · rintro ⟨rfl | h, h3⟩
          · rw [hrf] at h3; cases h3
          · exact ⟨h, h3⟩
  obtain ⟨h1, h2, h3⟩ := this R [] (fun _ => False) List.Pairwise.nil (by simp)
  exact ⟨h1, fun m => (h2 m).trans (by simp), by rw [List.length_nil, Nat.zero_add] at h3; exact h3⟩

set_option maxHeartbeats 4000000 in
set_option maxRecDepth 100000 in
theorem refset_any (v : Value) (R : List Ro) (w : World) (hT : Tabs w) (hv : MRow w v R) (hs : ∀ x ∈ R, Small x.1) (hn : R.length ≤ 10000) :
    Calls Tryz.prog 20 #[v] w (RowP w (setRo R)) := by
  obtain ⟨ao, cap, rfl, -, -⟩ := hv.form
  obtain ⟨n, hN⟩ : ∃ n, n = R.length := ⟨_, rfl⟩
  rw [← hN] at hv hn ⊢
  obtain ⟨Q, hQ⟩ : ∃ Q, Q = setRo R := ⟨_, rfl⟩
  rw [← hQ]
  have HQ := Lib.hid hQ
  have HN := Lib.hid hN
  have HV := Lib.hid hv
  have HS := Lib.hid hs
  have HT := Lib.hid hT
  clear hN hv hs hT hQ
  go_enter Tryz.func20, Tryz.ntmps20
  go_wp2_with fail
  go_loopw [3, 4] (fun ov iv wr => ∃ (k : Nat) (acc : List Ro), k ≤ n ∧ iv = .int .i64 k ∧ Hid (acc = setRo (R.take k) ∧ MRow wr ov acc) ∧ Hid (RowKit.Below w.heap.size w wr)) (fun _ iv _ => n - (intOf iv).toNat)
  case atStart => exact ⟨0, [], by omega, rfl, Lib.hid ⟨rfl, MRow.nil w⟩, Lib.hid (Below.refl _ _)⟩
  case round =>
    obtain ⟨k, acc, hk, rfl, hacc, hb⟩ := hrel
    by_cases hlt : k < n
    · have hkr : k < R.length := by have := HN.out; omega
      obtain ⟨x, hx⟩ : ∃ x, R[k]? = some x := ⟨_, List.getElem?_eq_getElem hkr⟩
      have hxm := List.mem_of_getElem? hx
      have hxo := (HV.out.below hb.out).over x hxm
      obtain ⟨xb, xoff, hao, hat⟩ := (HV.out.below hb.out).at_ hx
      cases hao
      have htk : R.take (k + 1) = R.take k ++ [x] := by rw [List.take_add_one, hx]; rfl
      have hsn := setRo_snoc (R.take k) x
      rw [← htk, ← hacc.out.1] at hsn
      have hxs := HS.out x hxm
      have hsub : ∀ y ∈ acc, y.1.over.length ≤ 1000000 := fun y hy => by
        rw [hacc.out.1] at hy
        exact (HS.out y (List.mem_of_mem_take (setRo_mem _ y hy))).over
      have hal : acc.length ≤ 100000 := by
        rw [hacc.out.1]
        have h1 := (setRo_spec (R.take k)).2.2
        have h2 := List.length_take_le k R
        omega
      have HRt := Lib.hid (refright_any x _ (HT.out.below hb.out) hxo hxs.over hxs.key hxs.fin hxs.val)
      obtain ⟨oo, oc, rfl, -, -⟩ := hacc.out.2.form
      have HIn := Lib.hid (fun (W : World) (hW : RowKit.Below wr.heap.size wr W) => refins_any _ acc x W (hacc.out.2.below hW) (hxo.below hW) hxs.over hsub hal)
      unfold setStep at hsn
      obtain ⟨q, hq⟩ : ∃ q, q = rightF x.1 := ⟨_, rfl⟩
      rw [← hq] at HRt hsn
      have HSN := Lib.hid hsn
      have HAT := Lib.hid hat
      obtain ⟨xo, xc, ex, -, -⟩ := Over.form hxo
      clear hsn hq hx hxm hxo htk hxs hsub hat
      obtain ⟨⟨at1, ak1, akey1, afin1, aval1, aex1, ⟨ap1, al1, aw1⟩, aov1⟩, av1⟩ := x
      simp only [] at ex
      obtain ⟨xn, hxn⟩ : ∃ k, k = aov1.length := ⟨_, rfl⟩
      rw [← hxn] at ex
      subst ex
      clear hxn
      unfold vM at HRt HIn
      simp only [] at HRt HIn
      obtain ⟨hbl, a0, a1, a2, a3, a4, a5, a6, a7, a8, a9⟩ := HAT.out
      simp only [] at a0 a1 a2 a3 a4 a5 a6 a7 a8 a9
      go_wp2_with fail
      refine HRt.out.mono ?_
      rintro e w1 ⟨rfl, hb1⟩
      have HB1 := Lib.hid (below_then hb.out (Nat.le_refl _) hb1)
      have HB01 := Lib.hid hb1
      have HAT1 := Lib.hid (HAT.out.below hb1)
      clear hb1 a0 a1 a2 a3 a4 a5 a6 a7 a8 a9
      obtain ⟨hbl1, a0, a1, a2, a3, a4, a5, a6, a7, a8, a9⟩ := HAT1.out
      simp only [] at a0 a1 a2 a3 a4 a5 a6 a7 a8 a9
      cases q
      · go_wp2_with fail
        go_roundw
        case rel => exact ⟨k + 1, acc, by omega, by go_num, Lib.hid ⟨HSN.out.symm, hacc.out.2.below HB01.out⟩, HB1⟩
        case measure => simp [intOf]; omega
      · go_wp2_with fail
        refine (HIn.out _ HB01.out).mono ?_
        rintro e w2 ⟨v2, rfl, hr2, hb2⟩
        have HR2 := Lib.hid hr2
        have HB2 := Lib.hid (below_then HB1.out (Nat.le_refl _) hb2)
        clear hr2 hb2 a0 a1 a2 a3 a4 a5 a6 a7 a8 a9
        go_wp2_with fail
        go_roundw
        case rel => exact ⟨k + 1, _, by omega, by go_num, Lib.hid ⟨HSN.out.symm, HR2.out⟩, HB2⟩
        case measure => simp [intOf]; omega
    · obtain rfl : k = n := by omega
      have HR := Lib.hid (show MRow wr u3 Q by
        have h := hacc.out.1
        rw [List.take_of_length_le (by have := HN.out; omega), ← HQ.out] at h
        rw [← h]; exact hacc.out.2)
      go_wp2_with fail
      go_ret
      exact ⟨_, rfl, HR.out, hb.out⟩

theorem ge_or (a b : ByteArray) : (Op.bytesLess b.toList a.toList || a.toList == b.toList) = !lessS a b := by
  rw [← le_or b a, BEq.comm (a := a.toList)]
theorem bool_ge (c : Int) : decide (c ≥ 0) = !decide (c < 0) := by
  by_cases h : c < 0
  · rw [decide_eq_true h, decide_eq_false (by omega)]; rfl
  · rw [decide_eq_false h, decide_eq_true (by omega)]; rfl
set_option maxHeartbeats 2000000 in
set_option maxRecDepth 100000 in
theorem refwithin_any (x y : Ro) (w : World) (hx : ∃ ao n cap, x.2 = .slice ao n cap) (hy : ∃ ao n cap, y.2 = .slice ao n cap) :
    Calls Tryz.prog 37 #[vM x, vM y] w fun e w' => e = .returned (.bool (withinB x.1 y.1)) ∧ RowKit.Below w.heap.size w w' := by
  obtain ⟨ao, n, cap, e1⟩ := hx
  obtain ⟨bo, m, bcap, e2⟩ := hy
  obtain ⟨⟨at1, ak1, akey1, afin1, aval1, aex1, ⟨ap1, al1, aw1⟩, aov1⟩, av1⟩ := x
  obtain ⟨⟨at2, ak2, akey2, afin2, aval2, aex2, ⟨ap2, al2, aw2⟩, aov2⟩, av2⟩ := y
  simp only [] at e1 e2
  subst e1 e2
  have HS := Lib.hid (fun w => refst_any ⟨ap1, al1, aw1⟩ ⟨ap2, al2, aw2⟩ w)
  have HB0 := Lib.hid (((Below.refl _ w).alloc (Nat.le_refl _) (.cells #[.int .i64 at1, .int .i64 ak1, .string akey1, .string afin1, .string aval1, .int .i64 aex1, .int .i64 ap1, .int .i64 al1, .int .i64 aw1, .slice ao n cap] 40)).alloc (by simp) (.cells #[.int .i64 at2, .int .i64 ak2, .string akey2, .string afin2, .string aval2, .int .i64 aex2, .int .i64 ap2, .int .i64 al2, .int .i64 aw2, .slice bo m bcap] 40))
  unfold vM withinB
  simp only []
  obtain ⟨d, hd⟩ : ∃ d, d = stC ⟨ap1, al1, aw1⟩ ⟨ap2, al2, aw2⟩ := ⟨_, rfl⟩
  rw [← hd] at HS ⊢
  clear hd
  cases h2 : lessS akey2 akey1
  · have e2 : (Op.bytesLess akey1.toList akey2.toList || akey1.toList == akey2.toList) = true := by rw [le_or, h2]; rfl
    cases h3 : lessS afin1 afin2
    · have e3 : Op.bytesLess afin1.toList afin2.toList = false := h3
      by_cases hd : d < 0
      · go_enter Tryz.func37, Tryz.ntmps37
        go_wp2_with fail
        refine (HS.out _).mono ?_
        rintro e w1 ⟨rfl, hb⟩
        go_wp2_with fail
        go_ret
        exact ⟨ret_bool (by simp [hd] <;> omega), below_then HB0.out (Nat.le_refl _) hb⟩
      · go_enter Tryz.func37, Tryz.ntmps37
        go_wp2_with fail
        refine (HS.out _).mono ?_
        rintro e w1 ⟨rfl, hb⟩
        go_wp2_with fail
        go_ret
        exact ⟨ret_bool (by simp [hd] <;> omega), below_then HB0.out (Nat.le_refl _) hb⟩
    · have e3 : Op.bytesLess afin1.toList afin2.toList = true := h3
      go_enter Tryz.func37, Tryz.ntmps37
      go_wp2_with fail
      go_ret
      exact ⟨ret_bool (by simp), HB0.out⟩
  · have e2 : (Op.bytesLess akey1.toList akey2.toList || akey1.toList == akey2.toList) = false := by rw [le_or, h2]; rfl
    go_enter Tryz.func37, Tryz.ntmps37
    go_wp2_with fail
    go_ret
    exact ⟨ret_bool (by simp), HB0.out⟩

set_option maxHeartbeats 1000000 in
set_option maxRecDepth 100000 in
theorem refcovers_any (x : Ro) (key : ByteArray) (w : World) (hx : ∃ ao n cap, x.2 = .slice ao n cap) :
    Calls Tryz.prog 75 #[vM x, .string key] w fun e w' => e = .returned (.bool (coversB x.1 key)) ∧ RowKit.Below w.heap.size w w' := by
  obtain ⟨ao, n, cap, e1⟩ := hx
  obtain ⟨⟨at1, ak1, akey1, afin1, aval1, aex1, ⟨ap1, al1, aw1⟩, aov1⟩, av1⟩ := x
  simp only [] at e1
  subst e1
  unfold vM coversB
  simp only []
  by_cases hk : ak1 = 3
  · cases h2 : lessS key akey1
    · have e2 : Op.bytesLess key.toList akey1.toList = false := h2
      cases h3 : lessS key afin1
      · have e3 : Op.bytesLess key.toList afin1.toList = false := h3
        go_enter Tryz.func75, Tryz.ntmps75
        go_wp2_with fail
        go_ret
        exact ⟨ret_bool (by simp), (Below.refl _ _).alloc (Nat.le_refl _) _⟩
      · have e3 : Op.bytesLess key.toList afin1.toList = true := h3
        go_enter Tryz.func75, Tryz.ntmps75
        go_wp2_with fail
        go_ret
        exact ⟨ret_bool (by simp [hk]), (Below.refl _ _).alloc (Nat.le_refl _) _⟩
    · have e2 : Op.bytesLess key.toList akey1.toList = true := h2
      go_enter Tryz.func75, Tryz.ntmps75
      go_wp2_with fail
      go_ret
      exact ⟨ret_bool (by simp), (Below.refl _ _).alloc (Nat.le_refl _) _⟩
  · go_enter Tryz.func75, Tryz.ntmps75
    go_wp2_with fail
    go_ret
    exact ⟨ret_bool (by simp [hk]), (Below.refl _ _).alloc (Nat.le_refl _) _⟩

set_option maxHeartbeats 4000000 in
set_option maxRecDepth 100000 in
theorem refhit_any (v : Value) (R : List Ro) (key : ByteArray) (s : Stp) (w : World) (hv : MRow w v R) (hn : R.length ≤ 1000000) :
    Calls Tryz.prog 38 #[v, .string key, vS s] w fun e w' => e = .returned (.bool ((R.map (·.1)).any fun x => hitsB x key s)) ∧ RowKit.Below w.heap.size w w' := by
  obtain ⟨ao, cap, rfl, -, -⟩ := hv.form
  obtain ⟨n, hN⟩ : ∃ n, n = R.length := ⟨_, rfl⟩
  rw [← hN] at hv hn ⊢
  obtain ⟨Q, hQ⟩ : ∃ Q, Q = (R.map (·.1)).any fun x => hitsB x key s := ⟨_, rfl⟩
  rw [← hQ]
  have HQ := Lib.hid hQ
  have HN := Lib.hid hN
  have HV := Lib.hid hv
  have HL := Lib.hid (fun (x : Ro) W => refless_any s x.1.at_ W)
  have HC := Lib.hid (fun (x : Ro) (hx : ∃ ao n cap, x.2 = .slice ao n cap) W => refcovers_any x key W hx)
  obtain ⟨T, hT⟩ : ∃ T, T = s := ⟨_, rfl⟩
  have HTT := Lib.hid hT
  obtain ⟨sp, sl, sw⟩ := s
  obtain ⟨W0, hW0⟩ : ∃ W0, W0 = w.alloc (.cells #[.int .i64 sp, .int .i64 sl, .int .i64 sw] 37) := ⟨_, rfl⟩
  have t0 : W0.cell? ⟨w.heap.size, 0, none⟩ = some (.int .i64 sp) := by rw [hW0]; go_simp
  have t1 : W0.cell? ⟨w.heap.size, 1, none⟩ = some (.int .i64 sl) := by rw [hW0]; go_simp
  have t2 : W0.cell? ⟨w.heap.size, 2, none⟩ = some (.int .i64 sw) := by rw [hW0]; go_simp
  have hb0 : RowKit.Below w.heap.size w W0 := by rw [hW0]; exact (Below.refl _ _).alloc (Nat.le_refl _) _
  have hs0 : w.heap.size < W0.heap.size := by rw [hW0]; simp
  have HT3 := Lib.hid (And.intro t0 (And.intro t1 t2))
  have HB0 := Lib.hid hb0
  have HW0 := Lib.hid hW0
  clear hv hN hQ hT t0 t1 t2 hb0 hW0
  go_enter Tryz.func38, Tryz.ntmps38
  go_wp2_with fail
  rw [← HW0.out]
  clear HW0
  go_loopw [7] (fun iv wr => ∃ k : Nat, k ≤ n ∧ iv = .int .i64 k ∧ Hid (((R.drop k).map (·.1)).any (fun x => hitsB x key T) = Q) ∧ Hid (RowKit.Below W0.heap.size W0 wr)) (fun iv _ => n - (intOf iv).toNat)
  case atStart => exact ⟨0, by omega, rfl, Lib.hid (by rw [HQ.out, HTT.out]; rfl), Lib.hid (Below.refl _ _)⟩
  case round =>
    obtain ⟨k, hk, rfl, hi, hl⟩ := hrel
    have HBW := Lib.hid (below_then HB0.out (Nat.le_refl _) hl.out)
    by_cases hlt : k < n
    · have hkr : k < R.length := by have := HN.out; omega
      obtain ⟨x, hx⟩ : ∃ x, R[k]? = some x := ⟨_, List.getElem?_eq_getElem hkr⟩
      have hxe : R[k] = x := (List.getElem?_eq_some_iff.1 hx).2
      have hxo := (HV.out.below HBW.out).over x (List.mem_of_getElem? hx)
      obtain ⟨xb, xoff, hao, hat⟩ := (HV.out.below HBW.out).at_ hx
      cases hao
      have hst : ((coversB x.1 key && decide (stC T x.1.at_ < 0)) || ((R.drop (k + 1)).map (·.1)).any (fun x => hitsB x key T)) = Q := by rw [← hi.out, List.drop_eq_getElem_cons hkr, hxe]; rfl
      obtain ⟨xo, xc, ex, -, -⟩ := Over.form hxo
      have HCX := Lib.hid (fun W => HC.out x ⟨_, _, _, ex⟩ W)
      have HLX := Lib.hid (fun W => HL.out x W)
      rw [HTT.out] at hst
      obtain ⟨D, hD⟩ : ∃ D, D = decide (stC ⟨sp, sl, sw⟩ x.1.at_ < 0) := ⟨_, rfl⟩
      obtain ⟨E, hE⟩ : ∃ E, E = coversB x.1 key := ⟨_, rfl⟩
      rw [← hD] at HLX hst
      rw [← hE] at HCX hst
      have HST := Lib.hid hst
      clear hst hD hE hi hx hxe hxo
      obtain ⟨⟨at1, ak1, akey1, afin1, aval1, aex1, ⟨ap1, al1, aw1⟩, aov1⟩, av1⟩ := x
      simp only [] at ex
      obtain ⟨xn, hxn⟩ : ∃ k, k = aov1.length := ⟨_, rfl⟩
      rw [← hxn] at ex
      subst ex
      clear hxn
      unfold vM at HCX
      simp only [] at HCX HLX
      obtain ⟨hbl, a0, a1, a2, a3, a4, a5, a6, a7, a8, a9⟩ := hat
      simp only [] at a0 a1 a2 a3 a4 a5 a6 a7 a8 a9
      have t0 := (hl.out.cell (p := ⟨w.heap.size, 0, none⟩) hs0).trans HT3.out.1
      have t1 := (hl.out.cell (p := ⟨w.heap.size, 1, none⟩) hs0).trans HT3.out.2.1
      have t2 := (hl.out.cell (p := ⟨w.heap.size, 2, none⟩) hs0).trans HT3.out.2.2
      have hgr : w.heap.size < wr.heap.size := Nat.lt_of_lt_of_le hs0 hl.out.size
      have j0 : (0 : Int) ≤ (k : Int) := by omega
      have j1 : (k : Int) < (n : Int) := by omega
      cases E
      · have HR := Lib.hid (show ((R.drop (k + 1)).map (·.1)).any (fun x => hitsB x key T) = Q by rw [← HST.out, HTT.out]; rfl)
        go_wp2_with fail
        refine wp_region_calm (by kernel_rfl) (by kernel_rfl) ?_
        repeat (go_big_quiet_step (first
          | (go_at_call 75; exact calm (HCX.out _))
          | (go_at_call 76; exact calm (HLX.out _))))
        refine wpQuiet_nil ?_
        rintro _ ⟨y, rfl⟩
        have HF := Lib.hid (below_then hl.out (Nat.le_refl _) y.below)
        clear a0 a1 a2 a3 a4 a5 a6 a7 a8 a9 t0 t1 t2
        go_wp2_with fail
        go_roundw
        case rel => exact ⟨k + 1, by omega, by go_num, HR, HF⟩
        case measure => simp [intOf]; omega
      cases D
      · have HR := Lib.hid (show ((R.drop (k + 1)).map (·.1)).any (fun x => hitsB x key T) = Q by rw [← HST.out, HTT.out]; rfl)
        go_wp2_with fail
        refine wp_region_calm (by kernel_rfl) (by kernel_rfl) ?_
        repeat (go_big_quiet_step (first
          | (go_at_call 75; exact calm (HCX.out _))
          | (go_at_call 76; exact calm (HLX.out _))))
        refine wpQuiet_nil ?_
        rintro _ ⟨y, rfl⟩
        have HF := Lib.hid (below_then hl.out (Nat.le_refl _) y.below)
        clear a0 a1 a2 a3 a4 a5 a6 a7 a8 a9 t0 t1 t2
        go_wp2_with fail
        go_roundw
        case rel => exact ⟨k + 1, by omega, by go_num, HR, HF⟩
        case measure => simp [intOf]; omega
      · have HR := Lib.hid (show true = Q by rw [← HST.out]; rfl)
        go_wp2_with fail
        refine wp_region_calm (by kernel_rfl) (by kernel_rfl) ?_
        repeat (go_big_quiet_step (first
          | (go_at_call 75; exact calm (HCX.out _))
          | (go_at_call 76; exact calm (HLX.out _))))
        refine wpQuiet_nil ?_
        rintro _ ⟨y, rfl⟩
        have HF := Lib.hid (below_then HBW.out (Nat.le_refl _) y.below)
        go_wp2_with fail
        go_ret
        exact ⟨ret_bool HR.out, HF.out⟩
    · obtain rfl : k = n := by omega
      have HR := Lib.hid (show false = Q by rw [← hi.out, List.drop_of_length_le (by have := HN.out; omega)]; rfl)
      go_wp2_with fail
      go_ret
      exact ⟨ret_bool HR.out, HBW.out⟩
end Go.Proofs.YtmjelcjdfamikaaGreatDoor.Mut
