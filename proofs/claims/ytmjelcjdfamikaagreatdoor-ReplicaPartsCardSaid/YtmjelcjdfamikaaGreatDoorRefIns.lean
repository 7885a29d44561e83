/- The walks of cenotaphref07.Insert, cenotaphref08.set (layers 7, 8). -/
import Derived.Test.YtmjelcjdfamikaaGreatDoorRefCompare
import Derived.Test.YtmjelcjdfamikaaGreatDoorConMore
set_option linter.unusedSimpArgs false
set_option linter.unusedVariables false
namespace Go.Proofs.YtmjelcjdfamikaaGreatDoor.Mut
open Go.RowKit Go.Sort Go.Proofs.YtmjelcjdfamikaaGreatDoor.Ord
set_option linter.unusedSectionVars false
variable [Inhabited Lim]

def insG (m : Mu) : Bool → List Mu → List Mu
  | inn, [] => if inn then [] else [m]
  | inn, x :: t => (if !inn && decide (muC m x ≤ 0) then [m] else []) ++ ((if decide (muC m x = 0) then [] else [x]) ++ insG m (inn || (!inn && decide (muC m x ≤ 0))) t)
def insF (l : List Mu) (m : Mu) : List Mu := insG m false l
theorem insG_len (m : Mu) (l : List Mu) : ∀ inn, (insG m inn l).length ≤ l.length + 1 ∧ (inn = true → (insG m inn l).length ≤ l.length) := by
  induction l with
  | nil => intro inn; cases inn <;> simp [insG]
  | cons x t ih =>
    intro inn
    have h1 := ih true
    have h2 := ih false
    cases inn
    · cases hc : decide (muC m x ≤ 0)
      · refine ⟨?_, by simp⟩
        simp only [insG, hc, Bool.not_false, Bool.and_self, Bool.and_false, Bool.or_false, Bool.false_eq_true, if_false, List.nil_append, List.length_append, List.length_cons]
        split <;> simp <;> omega
      · refine ⟨?_, by simp⟩
        have h3 := h1.2 rfl
        simp only [insG, hc, Bool.not_false, Bool.and_self, Bool.or_true, if_true, List.length_append, List.length_cons, List.length_nil]
        split <;> simp <;> omega
    · have h3 := h1.2 rfl
      simp only [insG, Bool.not_true, Bool.false_and, Bool.or_false, Bool.false_eq_true, if_false, List.nil_append, List.length_append, List.length_cons]
      refine ⟨?_, fun _ => ?_⟩ <;> split <;> simp <;> omega
theorem insF_len (l : List Mu) (m : Mu) : (insF l m).length ≤ l.length + 1 := (insG_len m l false).1
/-- A rising row with one more is a rising row, of the same and that one. -/
theorem insG_true (m : Mu) : ∀ l : List Mu, (∀ x ∈ l, muC m x < 0) → insG m true l = l
  | [], _ => rfl
  | x :: t, h => by
    have h0 := h x (by simp)
    have hz : ¬ muC m x = 0 := by omega
    simp only [insG, Bool.not_true, Bool.false_and, Bool.or_false, Bool.false_eq_true, if_false, List.nil_append]
    rw [insG_true m t (fun y hy => h y (List.mem_cons_of_mem _ hy)), decide_eq_false hz]
    rfl
theorem insF_rises {l : List Mu} (m : Mu) (h : Rises muC l) : Rises muC (insF l m) ∧ ∀ x, x ∈ insF l m ↔ x ∈ l ∨ x = m := by
  unfold insF
  induction l with
  | nil => exact ⟨List.pairwise_singleton _ _, fun x => by simp [insG]⟩
  | cons y t ih =>
    obtain ⟨hy, ht⟩ := List.pairwise_cons.1 h
    obtain ⟨i1, i2⟩ := ih ht
    rcases muO.total m y with hlt | rfl | hgt
    · have e : insG m false (y :: t) = m :: y :: t := by
        have hz : ¬ muC m y = 0 := by omega
        have hl : muC m y ≤ 0 := by omega
        simp only [insG, Bool.not_false, Bool.true_and, Bool.false_or, decide_eq_true hl, decide_eq_false hz, if_true, Bool.false_eq_true, if_false]
        rw [insG_true m t (fun x hx => muO.trans _ _ _ hlt (hy x hx))]
        rfl
      rw [e]
      refine ⟨List.pairwise_cons.2 ⟨fun x hx => ?_, h⟩, fun x => by simp only [List.mem_cons]; constructor <;> (rintro (h | h | h) <;> simp_all)⟩
      rcases List.mem_cons.1 hx with rfl | hx
      · exact hlt
      · exact muO.trans _ _ _ hlt (hy x hx)
    · have e : insG m false (m :: t) = m :: t := by
        have hz : muC m m = 0 := muO.self m
        simp only [insG, Bool.not_false, Bool.true_and, Bool.false_or, hz, Int.le_refl, decide_true, if_true, List.nil_append]
        rw [insG_true m t hy]
        rfl
      rw [e]
      exact ⟨h, fun x => by simp only [List.mem_cons]; constructor <;> (rintro (h | h) <;> simp_all)⟩
    · have e : insG m false (y :: t) = y :: insG m false t := by
        have hs := muO.swap y m
        have hl : ¬ muC m y ≤ 0 := by omega
        have hz : ¬ muC m y = 0 := by omega
        simp only [insG, Bool.not_false, Bool.true_and, Bool.false_or, decide_eq_false hl, decide_eq_false hz, Bool.false_eq_true, if_false, List.nil_append]
        rfl
      rw [e]
      refine ⟨List.pairwise_cons.2 ⟨fun x hx => ?_, i1⟩, fun x => ?_⟩
      · rcases (i2 x).1 hx with hx | rfl
        · exact hy x hx
        · exact hgt
      · rw [List.mem_cons, List.mem_cons, i2, or_assoc]
theorem insF_have {l : List Mu} (m : Mu) (h : Rises muC l) (hm : m ∈ l) : insF l m = l :=
  Rises.unique muO (insF_rises m h).1 h fun x => ((insF_rises m h).2 x).trans ⟨fun hx => hx.elim id fun e => e ▸ hm, Or.inl⟩

def insRo (x : Ro) : Bool → List Ro → List Ro
  | inn, [] => if inn then [] else [x]
  | inn, y :: t => (if !inn && decide (muC x.1 y.1 ≤ 0) then [x] else []) ++ ((if decide (muC x.1 y.1 = 0) then [] else [y]) ++ insRo x (inn || (!inn && decide (muC x.1 y.1 ≤ 0))) t)
theorem insRo_map (x : Ro) (R : List Ro) : ∀ inn, (insRo x inn R).map (·.1) = insG x.1 inn (R.map (·.1)) := by
  induction R with
  | nil => intro inn; cases inn <;> rfl
  | cons y t ih =>
    intro inn
    simp only [insRo, insG, List.map_append, List.map_cons, ih]
    congr 1
    · split <;> rfl
    · congr 1
      split <;> rfl
theorem insRo_mem (x : Ro) (R : List Ro) : ∀ inn, ∀ y ∈ insRo x inn R, y ∈ R ∨ y = x := by
  induction R with
  | nil => intro inn y hy; cases inn <;> simp [insRo] at hy; exact Or.inr hy
  | cons z t ih =>
    intro inn y hy
    simp only [insRo, List.mem_append] at hy
    rcases hy with hy | hy | hy
    · split at hy <;> simp at hy; exact Or.inr hy
    · split at hy <;> simp at hy; exact Or.inl (by simp [hy])
    · rcases ih _ y hy with h | h
      · exact Or.inl (List.mem_cons_of_mem _ h)
      · exact Or.inr h
theorem insRo_cons (x y : Ro) (inn : Bool) (t : List Ro) (c : Int) (hc : c = muC x.1 y.1) : insRo x inn (y :: t) = (if !inn && decide (c ≤ 0) then [x] else []) ++ ((if decide (c = 0) then [] else [y]) ++ insRo x (inn || (!inn && decide (c ≤ 0))) t) := by
  subst hc; rfl
theorem one_row {w : World} {x : Ro} {t : TypeId} (h : Over w x) : MRow (w.alloc (.cells ⟨enM x⟩ t)) (.slice (some ⟨w.heap.size, 0, none⟩) 1 1) [x] := by
  refine ⟨⟨_, 1, rfl, by simp, by decide, Or.inr ⟨_, _, rfl, by simp, fun i y hi j hj => ?_⟩⟩, fun y hy => ?_⟩
  · rw [cells_at (heap_alloc_new w _), Nat.zero_add]
    have := flatMap_get enM_len [x] i y hi j hj
    simpa using this
  · rw [List.mem_singleton.1 hy]
    exact h.below ((Below.refl _ _).alloc (Nat.le_refl _) _)
/-- A row of mutations comes back, in memory that the call has made. -/
def RowP (w : World) (L : List Ro) (e : Ending) (w' : World) : Prop := ∃ v, e = .returned v ∧ MRow w' v L ∧ RowKit.Below w.heap.size w w'

set_option maxHeartbeats 8000000 in
set_option maxRecDepth 100000 in
theorem refins_any (v : Value) (R : List Ro) (x : Ro) (w : World) (hv : MRow w v R) (hx : Over w x) (sx : x.1.over.length ≤ 1000000) (sR : ∀ y ∈ R, y.1.over.length ≤ 1000000) (hn : R.length ≤ 100000) :
    Calls Tryz.prog 36 #[v, vM x] w (RowP w (insRo x false R)) := by
  obtain ⟨ao, cap, rfl, -, -⟩ := hv.form
  obtain ⟨n, hN⟩ : ∃ n, n = R.length := ⟨_, rfl⟩
  rw [← hN] at hv hn ⊢
  have HC := Lib.hid (fun (y : Ro) (z : World) (hz : RowKit.Below w.heap.size w z) (hy : y ∈ R) => refcompare_any x y z (hx.below hz) ((hv.over y hy).below hz) sx (sR y hy))
  have hA := A0.of (At.new w 40 x)
  have hW := (Below.refl _ w).alloc (Nat.le_refl _) (.cells (enM x).toArray 40)
  have hsW : (w.alloc (.cells (enM x).toArray 40)).heap.size = w.heap.size + 1 := by simp
  obtain ⟨W0, hW0⟩ : ∃ W0, W0 = w.alloc (.cells (enM x).toArray 40) := ⟨_, rfl⟩
  rw [← hW0] at hA hW hsW
  have HA := Lib.hid hA
  have HW := Lib.hid hW
  have HW0 := Lib.hid hW0
  have HSW := Lib.hid hsW
  have HV := Lib.hid hv
  have HN := Lib.hid hN
  have HXO := Lib.hid hx
  obtain ⟨xo, xc, ex, -, -⟩ := Over.form hx
  clear hA hW hW0 hsW hv hN sx sR
  obtain ⟨⟨at1, ak1, akey1, afin1, aval1, aex1, ⟨ap1, al1, aw1⟩, aov1⟩, av1⟩ := x
  simp only [] at ex
  obtain ⟨xn, hxn⟩ : ∃ k, k = aov1.length := ⟨_, rfl⟩
  rw [← hxn] at ex
  subst ex
  clear hxn hx
  obtain ⟨I, hI⟩ : ∃ I : Bool → List Ro → List Ro, I = insRo (⟨at1, ak1, akey1, afin1, aval1, aex1, ⟨ap1, al1, aw1⟩, aov1⟩, .slice xo xn xc) := ⟨_, rfl⟩
  rw [← hI]
  have HI := Lib.hid hI
  clear hI
  unfold vM at HC ⊢
  unfold enM at HW0
  simp only [] at HC HW0 ⊢
  go_enter Tryz.func36, Tryz.ntmps36
  go_wp2_with fail
  rw [← HW0.out]
  clear HW0
  go_loopw [5, 6, 7] (fun ov nv iv wr => ∃ (k : Nat) (inn : Bool) (out : List Ro) (on : Nat), k ≤ n ∧ iv = .int .i64 k ∧ nv = .bool inn ∧ Hid (out ++ I inn (R.drop k) = I false R ∧ on = out.length) ∧ on ≤ 2 * k ∧ Hid (wr.ownsRow (w.heap.size + 1) 40 10 ov on (out.flatMap enM)) ∧ Hid (RowKit.Below (w.heap.size + 1) W0 wr)) (fun _ _ iv _ => n - (intOf iv).toNat)
  case atStart => exact ⟨0, false, [], 0, by omega, rfl, rfl, Lib.hid ⟨rfl, rfl⟩, by simp, Lib.hid (World.ownsRow_nil _ _ _ _), Lib.hid (Below.refl _ _)⟩
  case round =>
    obtain ⟨k, inn, out, on, hk, rfl, rfl, hput, hol, hown, hbl⟩ := hrel
    have hb0 : RowKit.Below W0.heap.size W0 wr := by rw [HSW.out]; exact hbl.out
    have HB0 := Lib.hid hb0
    have HBW := Lib.hid (below_then HW.out (Nat.le_refl _) hb0)
    have hsz : w.heap.size + 1 ≤ wr.heap.size := by have := hb0.size; have := HSW.out; omega
    have HA1 := Lib.hid (HA.out.below hb0)
    clear hb0 hbl
    by_cases hlt : k < n
    · have hkr : k < R.length := by have := HN.out; omega
      obtain ⟨y, hy⟩ : ∃ y, R[k]? = some y := ⟨_, List.getElem?_eq_getElem hkr⟩
      have hye : R[k] = y := (List.getElem?_eq_some_iff.1 hy).2
      have hyo := (HV.out.below HBW.out).over y (List.mem_of_getElem? hy)
      obtain ⟨yb, yoff, hao, hat⟩ := (HV.out.below HBW.out).at_ hy
      cases hao
      have hcall := fun (z : World) (hz : RowKit.Below wr.heap.size wr z) => HC.out y z (below_then HBW.out (Nat.le_refl _) hz) (List.mem_of_getElem? hy)
      have hdl : R.drop k = y :: R.drop (k + 1) := by rw [List.drop_eq_getElem_cons hkr, hye]
      obtain ⟨c, hc⟩ : ∃ c, c = muC ⟨at1, ak1, akey1, afin1, aval1, aex1, ⟨ap1, al1, aw1⟩, aov1⟩ y.1 := ⟨_, rfl⟩
      have hst := insRo_cons (⟨at1, ak1, akey1, afin1, aval1, aex1, ⟨ap1, al1, aw1⟩, aov1⟩, .slice xo xn xc) y inn (R.drop (k + 1)) c hc
      have hput1 := hput.out.1
      rw [hdl, HI.out, hst, ← HI.out] at hput1
      rw [← hc] at hcall
      have HP := Lib.hid (And.intro hput1 hput.out.2)
      have HCL := Lib.hid hcall
      have HYO := Lib.hid hyo
      have HYK := Lib.hid hy
      obtain ⟨yo, yc, ey, -, -⟩ := Over.form hyo
      clear hput1 hst hc hdl hcall hyo hye hy hput
      obtain ⟨hbl, b0, b1, b2, b3, b4, b5, b6, b7, b8, b9⟩ := hat
      obtain ⟨⟨at2, ak2, akey2, afin2, aval2, aex2, ⟨ap2, al2, aw2⟩, aov2⟩, av2⟩ := y
      simp only [] at ey b0 b1 b2 b3 b4 b5 b6 b7 b8 b9
      obtain ⟨yn, hyn⟩ : ∃ k, k = aov2.length := ⟨_, rfl⟩
      rw [← hyn] at ey
      subst ey
      clear hyn
      obtain ⟨-, a0, a1, a2, a3, a4, a5, a6, a7, a8, a9⟩ := HA1.out
      simp only [] at a0 a1 a2 a3 a4 a5 a6 a7 a8 a9
      simp only [] at HCL
      have hi0 : (0 : Int) ≤ (k : Int) := by omega
      have hi1 : (k : Int) < (n : Int) := by omega
      have hw1 : w.heap.size < wr.heap.size := by omega
      go_wp2_with fail
      refine wp_region_calm (by kernel_rfl) (by kernel_rfl) ?_
      repeat (go_big_quiet_step ((go_at_call 51; exact calm (HCL.out _ (BW.below _)))))
      refine wpQuiet_nil ?_
      rintro _ ⟨z, rfl⟩
      obtain ⟨W1, hW1⟩ : ∃ W1, W1 = z.at := ⟨_, rfl⟩
      have hz := z.below
      rw [← hW1] at hz ⊢
      have HZ := Lib.hid hz
      have HO1 := Lib.hid (row_below hown.out hz)
      have hzs := hz.size
      have HB1 := Lib.hid (below_then HB0.out (Nat.le_refl _) hz)
      have hat2 : At W1 yb (yoff + k * 10) (⟨at2, ak2, akey2, afin2, aval2, aex2, ⟨ap2, al2, aw2⟩, aov2⟩, .slice yo yn yc) := (At.below ⟨hbl, b0, b1, b2, b3, b4, b5, b6, b7, b8, b9⟩ hz)
      have HAT := Lib.hid hat2
      have HA2 := Lib.hid (HA1.out.below hz)
      have HX2 := Lib.hid ((HXO.out.below HBW.out).below hz)
      have HY2 := Lib.hid (HYO.out.below hz)
      clear hW1 z hz hat2 a0 a1 a2 a3 a4 a5 a6 a7 a8 a9 b0 b1 b2 b3 b4 b5 b6 b7 b8 b9 hbl hown HA1 HCL
      obtain ⟨hl2, b0, b1, b2, b3, b4, b5, b6, b7, b8, b9⟩ := HAT.out
      obtain ⟨hl1, a0, a1, a2, a3, a4, a5, a6, a7, a8, a9⟩ := HA2.out
      simp only [] at a0 a1 a2 a3 a4 a5 a6 a7 a8 a9 b0 b1 b2 b3 b4 b5 b6 b7 b8 b9
      have HBf := Lib.hid (show RowKit.Below (w.heap.size + 1) W0 W1 by have h := HB1.out; rw [HSW.out] at h; exact h)
      have hws : w.heap.size + 1 ≤ W1.heap.size := by omega
      cases inn
      · by_cases hle : c ≤ 0
        · have d1 : decide (c ≤ 0) = true := decide_eq_true hle
          go_wp2_with (at_builtin; refine wpList_append_rows rfl (.tmp 27) (.tmp 29) rfl (w.heap.size + 1) u5 on _ rfl (HO1.out.alloc _) (some ⟨W1.heap.size, 0, none⟩) 1 1 [((⟨at1, ak1, akey1, afin1, aval1, aex1, ⟨ap1, al1, aw1⟩, aov1⟩, .slice xo xn xc) : Ro)] rfl (one_row HX2.out) (by omega) (by simp; omega) ?_)
          intro v3 w3 hown3 hgr3
          have HO3 := Lib.hid (show w3.ownsRow (w.heap.size + 1) 40 10 v3 (on + 1) ((out ++ [((⟨at1, ak1, akey1, afin1, aval1, aex1, ⟨ap1, al1, aw1⟩, aov1⟩, .slice xo xn xc) : Ro)]).flatMap enM) by rw [List.flatMap_append]; exact hown3)
          have hb3 : RowKit.Below (w.heap.size + 1) W0 w3 := (HBf.out.alloc hws _).grown hgr3 (by simp; omega) (fun k hk => (HO1.out.lt k hk).1)
          have HB3 := Lib.hid hb3
          have hb3' : RowKit.Below w.heap.size w w3 := below_then HW.out (Nat.le_refl _) (by rw [HSW.out]; exact hb3)
          have hs3 := hb3'.size
          have hs4 : w.heap.size + 1 ≤ w3.heap.size := by have h := hb3.size; rw [HSW.out] at h; exact h
          by_cases hz : c = 0
          · have d2 : decide (c = 0) = true := decide_eq_true hz
            clear hown3 hgr3 hb3 hb3' b0 b1 b2 b3 b4 b5 b6 b7 b8 b9 a0 a1 a2 a3 a4 a5 a6 a7 a8 a9
            go_wp2_with fail
            go_roundw
            case rel => exact ⟨k + 1, true, out ++ [((⟨at1, ak1, akey1, afin1, aval1, aex1, ⟨ap1, al1, aw1⟩, aov1⟩, .slice xo xn xc) : Ro)], on + 1, by omega, by go_num, rfl, Lib.hid ⟨by have h := HP.out.1; (try rw [d1] at h); rw [d2] at h; simpa using h, by have := HP.out.2; simp; omega⟩, by omega, HO3, HB3⟩
            case measure => simp [intOf]; omega
          · obtain ⟨yb3, yoff3, hao3, hat3⟩ := (HV.out.below hb3').at_ HYK.out
            cases hao3
            have HY3 := Lib.hid ((HV.out.below hb3').over _ (List.mem_of_getElem? HYK.out))
            clear hown3 hgr3 hb3 hb3' b0 b1 b2 b3 b4 b5 b6 b7 b8 b9 a0 a1 a2 a3 a4 a5 a6 a7 a8 a9
            obtain ⟨hl3, b0, b1, b2, b3, b4, b5, b6, b7, b8, b9⟩ := hat3
            simp only [] at b0 b1 b2 b3 b4 b5 b6 b7 b8 b9
            have d2 : decide (c = 0) = false := decide_eq_false hz
            go_wp2_with (at_builtin; refine wpList_append_rows rfl (.tmp 33) (.tmp 38) rfl (w.heap.size + 1) v3 (on + 1) _ rfl (HO3.out.alloc _) (some ⟨w3.heap.size, 0, none⟩) 1 1 [((⟨at2, ak2, akey2, afin2, aval2, aex2, ⟨ap2, al2, aw2⟩, aov2⟩, .slice yo yn yc) : Ro)] rfl (one_row HY3.out) (by omega) (by simp; omega) ?_)
            intro v4 w4 hown4 hgr4
            have HO4 := Lib.hid (show w4.ownsRow (w.heap.size + 1) 40 10 v4 (on + 1 + 1) ((out ++ [((⟨at1, ak1, akey1, afin1, aval1, aex1, ⟨ap1, al1, aw1⟩, aov1⟩, .slice xo xn xc) : Ro)] ++ [((⟨at2, ak2, akey2, afin2, aval2, aex2, ⟨ap2, al2, aw2⟩, aov2⟩, .slice yo yn yc) : Ro)]).flatMap enM) by simpa [List.flatMap_append] using hown4)
            have HB4 := Lib.hid ((HB3.out.alloc hs4 _).grown hgr4 (by simp; omega) (fun k hk => (HO3.out.lt k hk).1))
            clear hown4 hgr4 b0 b1 b2 b3 b4 b5 b6 b7 b8 b9
            go_wp2_with fail
            go_roundw
            case rel => exact ⟨k + 1, true, out ++ [((⟨at1, ak1, akey1, afin1, aval1, aex1, ⟨ap1, al1, aw1⟩, aov1⟩, .slice xo xn xc) : Ro)] ++ [((⟨at2, ak2, akey2, afin2, aval2, aex2, ⟨ap2, al2, aw2⟩, aov2⟩, .slice yo yn yc) : Ro)], on + 1 + 1, by omega, by go_num, rfl, Lib.hid ⟨by have h := HP.out.1; rw [d1, d2] at h; simpa using h, by have := HP.out.2; simp; omega⟩, by omega, HO4, HB4⟩
            case measure => simp [intOf]; omega
        · have d1 : decide (c ≤ 0) = false := decide_eq_false hle
          have hz : ¬ c = 0 := by omega
          have d2 : decide (c = 0) = false := decide_eq_false hz
          go_wp2_with (at_builtin; refine wpList_append_rows rfl (.tmp 33) (.tmp 38) rfl (w.heap.size + 1) u5 on _ rfl (HO1.out.alloc _) (some ⟨W1.heap.size, 0, none⟩) 1 1 [((⟨at2, ak2, akey2, afin2, aval2, aex2, ⟨ap2, al2, aw2⟩, aov2⟩, .slice yo yn yc) : Ro)] rfl (one_row HY2.out) (by omega) (by simp; omega) ?_)
          intro v4 w4 hown4 hgr4
          have HO4 := Lib.hid (show w4.ownsRow (w.heap.size + 1) 40 10 v4 (on + 1) ((out ++ [((⟨at2, ak2, akey2, afin2, aval2, aex2, ⟨ap2, al2, aw2⟩, aov2⟩, .slice yo yn yc) : Ro)]).flatMap enM) by rw [List.flatMap_append]; exact hown4)
          have HB4 := Lib.hid ((HBf.out.alloc hws _).grown hgr4 (by simp; omega) (fun k hk => (HO1.out.lt k hk).1))
          clear hown4 hgr4 b0 b1 b2 b3 b4 b5 b6 b7 b8 b9 a0 a1 a2 a3 a4 a5 a6 a7 a8 a9
          go_wp2_with fail
          go_roundw
          case rel => exact ⟨k + 1, false, out ++ [((⟨at2, ak2, akey2, afin2, aval2, aex2, ⟨ap2, al2, aw2⟩, aov2⟩, .slice yo yn yc) : Ro)], on + 1, by omega, by go_num, rfl, Lib.hid ⟨by have h := HP.out.1; rw [d1, d2] at h; simpa using h, by have := HP.out.2; simp; omega⟩, by omega, HO4, HB4⟩
          case measure => simp [intOf]; omega
      · by_cases hz : c = 0
        · have d2 : decide (c = 0) = true := decide_eq_true hz
          clear b0 b1 b2 b3 b4 b5 b6 b7 b8 b9 a0 a1 a2 a3 a4 a5 a6 a7 a8 a9
          go_wp2_with fail
          go_roundw
          case rel => exact ⟨k + 1, true, out, on, by omega, by go_num, rfl, Lib.hid ⟨by have h := HP.out.1; (try rw [d1] at h); rw [d2] at h; simpa using h, HP.out.2⟩, by omega, HO1, HBf⟩
          case measure => simp [intOf]; omega
        · have d2 : decide (c = 0) = false := decide_eq_false hz
          go_wp2_with (at_builtin; refine wpList_append_rows rfl (.tmp 33) (.tmp 38) rfl (w.heap.size + 1) u5 on _ rfl (HO1.out.alloc _) (some ⟨W1.heap.size, 0, none⟩) 1 1 [((⟨at2, ak2, akey2, afin2, aval2, aex2, ⟨ap2, al2, aw2⟩, aov2⟩, .slice yo yn yc) : Ro)] rfl (one_row HY2.out) (by omega) (by simp; omega) ?_)
          intro v4 w4 hown4 hgr4
          have HO4 := Lib.hid (show w4.ownsRow (w.heap.size + 1) 40 10 v4 (on + 1) ((out ++ [((⟨at2, ak2, akey2, afin2, aval2, aex2, ⟨ap2, al2, aw2⟩, aov2⟩, .slice yo yn yc) : Ro)]).flatMap enM) by rw [List.flatMap_append]; exact hown4)
          have HB4 := Lib.hid ((HBf.out.alloc hws _).grown hgr4 (by simp; omega) (fun k hk => (HO1.out.lt k hk).1))
          clear hown4 hgr4 b0 b1 b2 b3 b4 b5 b6 b7 b8 b9 a0 a1 a2 a3 a4 a5 a6 a7 a8 a9
          go_wp2_with fail
          go_roundw
          case rel => exact ⟨k + 1, true, out ++ [((⟨at2, ak2, akey2, afin2, aval2, aex2, ⟨ap2, al2, aw2⟩, aov2⟩, .slice yo yn yc) : Ro)], on + 1, by omega, by go_num, rfl, Lib.hid ⟨by have h := HP.out.1; (try rw [d1] at h); rw [d2] at h; simpa using h, by have := HP.out.2; simp; omega⟩, by omega, HO4, HB4⟩
          case measure => simp [intOf]; omega
    · obtain rfl : k = n := by omega
      have hdr : R.drop k = [] := List.drop_of_length_le (by have := HN.out; omega)
      have hput1 := hput.out.1
      rw [hdr] at hput1
      obtain ⟨hl1, a0, a1, a2, a3, a4, a5, a6, a7, a8, a9⟩ := HA1.out
      simp only [] at a0 a1 a2 a3 a4 a5 a6 a7 a8 a9
      have hb : RowKit.Below (w.heap.size + 1) W0 wr := by have h := HB0.out; rw [HSW.out] at h; exact h
      have HBl := Lib.hid hb
      have hmem : ∀ y ∈ I false R, y ∈ R ∨ y = (⟨at1, ak1, akey1, afin1, aval1, aex1, ⟨ap1, al1, aw1⟩, aov1⟩, .slice xo xn xc) := fun y hy => by rw [HI.out] at hy; exact insRo_mem _ _ _ y hy
      have HM := Lib.hid hmem
      have HPL := Lib.hid hput.out.2
      rw [HI.out] at hput1
      have hw1 : w.heap.size < wr.heap.size := by omega
      cases inn
      · have HP := Lib.hid (show out ++ [((⟨at1, ak1, akey1, afin1, aval1, aex1, ⟨ap1, al1, aw1⟩, aov1⟩, .slice xo xn xc) : Ro)] = I false R from by rw [HI.out]; exact hput1)
        have HX2 := Lib.hid (HXO.out.below HBW.out)
        clear hput1 hput hdr hmem hb
        go_wp2_with (at_builtin; refine wpList_append_rows rfl (.tmp 42) (.tmp 44) rfl (w.heap.size + 1) u5 on _ rfl (hown.out.alloc _) (some ⟨wr.heap.size, 0, none⟩) 1 1 [((⟨at1, ak1, akey1, afin1, aval1, aex1, ⟨ap1, al1, aw1⟩, aov1⟩, .slice xo xn xc) : Ro)] rfl (one_row HX2.out) (by omega) (by simp; omega) ?_)
        intro v4 w4 hown4 hgr4
        have HO4 := Lib.hid (show w4.ownsRow (w.heap.size + 1) 40 10 v4 (on + 1) ((out ++ [((⟨at1, ak1, akey1, afin1, aval1, aex1, ⟨ap1, al1, aw1⟩, aov1⟩, .slice xo xn xc) : Ro)]).flatMap enM) by rw [List.flatMap_append]; exact hown4)
        have HB4 := Lib.hid ((HBl.out.alloc hsz _).grown hgr4 (by simp; omega) (fun k hk => (hown.out.lt k hk).1))
        clear hown4 hgr4 a0 a1 a2 a3 a4 a5 a6 a7 a8 a9
        go_wp2_with fail
        go_ret
        have hbf := below_then HW.out (Nat.le_refl _) (show RowKit.Below _ W0 w4 by rw [HSW.out]; exact HB4.out)
        refine ⟨v4, rfl, ?_, hbf⟩
        rw [← HP.out]
        refine ⟨Lst.owned enM_len (by decide) (by rw [List.length_append, ← HPL.out] <;> rfl) HO4.out, fun y hy => ?_⟩
        rw [HP.out] at hy
        rcases HM.out y hy with h | rfl
        · exact (HV.out.over y h).below hbf
        · exact HXO.out.below hbf
      · have HP := Lib.hid (show out = I false R from by rw [HI.out]; simpa [insRo] using hput1)
        clear hput1 hput hdr hmem hb a0 a1 a2 a3 a4 a5 a6 a7 a8 a9
        go_wp2_with fail
        go_ret
        have hbf := below_then HW.out (Nat.le_refl _) (show RowKit.Below _ W0 wr by rw [HSW.out]; exact HBl.out)
        refine ⟨u5, rfl, ?_, hbf⟩
        rw [← HP.out]
        refine ⟨Lst.owned enM_len (by decide) HPL.out hown.out, fun y hy => ?_⟩
        rw [HP.out] at hy
        rcases HM.out y hy with h | rfl
        · exact (HV.out.over y h).below hbf
        · exact HXO.out.below hbf
end Go.Proofs.YtmjelcjdfamikaaGreatDoor.Mut
