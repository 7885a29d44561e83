/- RefBk, RefParts, RefCells, RefSays, RefOf, RefSame, LeftRow: in one text. -/
import Derived.Test.YtmjelcjdfamikaaGreatDoorRefSet
import Derived.Test.YtmjelcjdfamikaaGreatDoorConMore
import Derived.Deep.AppendLies
set_option linter.unusedSimpArgs false
set_option linter.unusedVariables false
/- The walk of cenotaphref08.byKey (layer 8), and what it leaves of rising rows. -/
namespace Go.Proofs.YtmjelcjdfamikaaGreatDoor.Mut
open Go.RowKit Go.Sort Go.Proofs.YtmjelcjdfamikaaGreatDoor.Ord
set_option linter.unusedSectionVars false
variable [Inhabited Lim]

def bkRo (x : Ro) : Bool → List Ro → List Ro
  | inn, [] => if inn then [] else [x]
  | inn, y :: t => (if !inn && lessS x.1.key y.1.key then [x] else []) ++ (y :: bkRo x (inn || (!inn && lessS x.1.key y.1.key)) t)
theorem bkRo_cons (x y : Ro) (inn : Bool) (t : List Ro) (c : Bool) (hc : c = lessS x.1.key y.1.key) : bkRo x inn (y :: t) = (if !inn && c then [x] else []) ++ (y :: bkRo x (inn || (!inn && c)) t) := by
  subst hc; rfl
theorem bkRo_mem (x : Ro) (R : List Ro) : ∀ inn, ∀ y ∈ bkRo x inn R, y ∈ R ∨ y = x := by
  induction R with
  | nil => intro inn y hy; cases inn <;> simp [bkRo] at hy; exact Or.inr hy
  | cons z t ih =>
    intro inn y hy
    simp only [bkRo, List.mem_append, List.mem_cons] at hy
    rcases hy with hy | rfl | hy
    · split at hy <;> simp at hy; exact Or.inr hy
    · exact Or.inl (by simp)
    · rcases ih _ y hy with h | h
      · exact Or.inl (List.mem_cons_of_mem _ h)
      · exact Or.inr h
theorem bkRo_true (x : Ro) (R : List Ro) : bkRo x true R = R := by
  induction R with
  | nil => rfl
  | cons y t ih => simp only [bkRo, Bool.not_true, Bool.false_and, Bool.or_false, Bool.false_eq_true, if_false, List.nil_append, ih]
/-- The place of the new one: behind all that aren't above it by their key. -/
theorem bkRo_split (x : Ro) (R : List Ro) : ∃ A B, R = A ++ B ∧ bkRo x false R = A ++ x :: B ∧ (∀ y ∈ A, ¬ cmpS x.1.key y.1.key < 0) ∧ ∀ y, B.head? = some y → cmpS x.1.key y.1.key < 0 := by
  induction R with
  | nil => exact ⟨[], [], rfl, rfl, by simp, by simp⟩
  | cons y t ih =>
    cases h : lessS x.1.key y.1.key
    · obtain ⟨A, B, e1, e2, h1, h2⟩ := ih
      refine ⟨y :: A, B, by rw [e1]; rfl, ?_, ?_, h2⟩
      · rw [bkRo_cons x y false t false h.symm]
        simp only [Bool.not_false, Bool.and_false, Bool.or_false, Bool.false_eq_true, if_false, List.nil_append, e2, List.cons_append]
      · intro z hz
        rcases List.mem_cons.1 hz with rfl | hz
        · rw [lt_less, h]; simp
        · exact h1 z hz
    · refine ⟨[], y :: t, rfl, ?_, by simp, ?_⟩
      · rw [bkRo_cons x y false t true h.symm]
        simp only [Bool.not_false, Bool.and_true, Bool.or_true, if_true, bkRo_true]
        rfl
      · intro z hz
        simp at hz
        subst hz
        rw [lt_less, h]
theorem bkRo_len (x : Ro) (R : List Ro) : (bkRo x false R).length = R.length + 1 := by
  obtain ⟨A, B, e1, e2, -, -⟩ := bkRo_split x R
  rw [e2, e1]; simp; omega
theorem bkRo_mem_iff (x : Ro) (R : List Ro) (m : Mu) : m ∈ (bkRo x false R).map (·.1) ↔ m ∈ R.map (·.1) ∨ m = x.1 := by
  obtain ⟨A, B, e1, e2, -, -⟩ := bkRo_split x R
  rw [e2, e1]
  simp only [List.map_append, List.map_cons, List.mem_append, List.mem_cons]
  constructor
  · rintro (h | h | h)
    · exact Or.inl (Or.inl h)
    · exact Or.inr h
    · exact Or.inl (Or.inr h)
  · rintro ((h | h) | h)
    · exact Or.inl h
    · exact Or.inr (Or.inr h)
    · exact Or.inr (Or.inl h)
/-- What rises by keys, and of the same key by something, rises with one more behind those of its key. -/
theorem bkRo_rises (c : Mu → Mu → Int) (hc : ∀ a b d, c a b < 0 → c b d < 0 → c a d < 0) (hk : ∀ a b, cmpS a.key b.key < 0 → c a b < 0) (x : Ro) (R : List Ro) (h : Rises c (R.map (·.1))) (hs : ∀ y ∈ R, y.1.key = x.1.key → c y.1 x.1 < 0) : Rises c ((bkRo x false R).map (·.1)) := by
  obtain ⟨A, B, e1, e2, h1, h2⟩ := bkRo_split x R
  rw [e2]
  rw [e1] at h hs
  unfold Rises at *
  rw [List.map_append] at h ⊢
  rw [List.map_cons, List.pairwise_append]
  rw [List.pairwise_append] at h
  have hB : ∀ y ∈ B.map (·.1), c x.1 y < 0 := by
    cases B with
    | nil => intro y hy; cases hy
    | cons z t =>
      have hz := h2 z rfl
      intro y hy
      rcases List.mem_cons.1 hy with rfl | hy
      · exact hk _ _ hz
      · have h3 := (List.pairwise_cons.1 h.2.1).1 y hy
        exact hc _ _ _ (hk _ _ hz) h3
  refine ⟨h.1, List.pairwise_cons.2 ⟨hB, h.2.1⟩, ?_⟩
  intro a ha b hb
  rcases List.mem_cons.1 hb with rfl | hb
  · obtain ⟨y, hy, rfl⟩ := List.mem_map.1 ha
    have h3 := h1 y hy
    rcases Tot.str.total y.1.key x.1.key with h4 | h4 | h4
    · exact hk _ _ h4
    · exact hs y (List.mem_append_left _ hy) h4
    · exact absurd h4 h3
  · exact h.2.2 a ha b hb

set_option maxHeartbeats 8000000 in
set_option maxRecDepth 100000 in
theorem bykey_any (v : Value) (R : List Ro) (x : Ro) (w : World) (hv : MRow w v R) (hx : Over w x) (hn : R.length ≤ 100000) :
    Calls Tryz.prog 39 #[v, vM x] w (RowP w (bkRo x false R)) := by
  obtain ⟨ao, cap, rfl, -, -⟩ := hv.form
  obtain ⟨n, hN⟩ : ∃ n, n = R.length := ⟨_, rfl⟩
  rw [← hN] at hv hn ⊢
  have hA := A0.of (At.new w 40 x)
  have hW := (Below.refl _ w).alloc (Nat.le_refl _) (.cells (enM x).toArray 40)
  have hsW : (w.alloc (.cells (enM x).toArray 40)).heap.size = w.heap.size + 1 := by simp
  obtain ⟨W0, hW0⟩ : ∃ W0, W0 = w.alloc (.cells (enM x).toArray 40) := ⟨_, rfl⟩
  rw [← hW0] at hA hW hsW
  have HA := Lib.hid hA
  have HW := Lib.hid hW
  have HW0 := Lib.hid hW0
  have HSW := Lib.hid hsW
  have HV := Lib.hid hv
  have HN := Lib.hid hN
  have HXO := Lib.hid hx
  obtain ⟨xo, xc, ex, -, -⟩ := Over.form hx
  clear hA hW hW0 hsW hv hN
  obtain ⟨⟨at1, ak1, akey1, afin1, aval1, aex1, ⟨ap1, al1, aw1⟩, aov1⟩, av1⟩ := x
  simp only [] at ex
  obtain ⟨xn, hxn⟩ : ∃ k, k = aov1.length := ⟨_, rfl⟩
  rw [← hxn] at ex
  subst ex
  clear hxn hx
  obtain ⟨I, hI⟩ : ∃ I : Bool → List Ro → List Ro, I = bkRo (⟨at1, ak1, akey1, afin1, aval1, aex1, ⟨ap1, al1, aw1⟩, aov1⟩, .slice xo xn xc) := ⟨_, rfl⟩
  rw [← hI]
  have HI := Lib.hid hI
  clear hI
  unfold vM
  unfold enM at HW0
  simp only [] at HW0 ⊢
  go_enter Tryz.func39, Tryz.ntmps39
  go_wp2_with fail
  rw [← HW0.out]
  clear HW0
  go_loopw [5, 6, 7] (fun ov nv iv wr => ∃ (k : Nat) (inn : Bool) (out : List Ro) (on : Nat), k ≤ n ∧ iv = .int .i64 k ∧ nv = .bool inn ∧ Hid (out ++ I inn (R.drop k) = I false R ∧ on = out.length) ∧ on ≤ 2 * k ∧ Hid (wr.ownsRow (w.heap.size + 1) 40 10 ov on (out.flatMap enM)) ∧ Hid (RowKit.Below (w.heap.size + 1) W0 wr)) (fun _ _ iv _ => n - (intOf iv).toNat)
  case atStart => exact ⟨0, false, [], 0, by omega, rfl, rfl, Lib.hid ⟨rfl, rfl⟩, by simp, Lib.hid (World.ownsRow_nil _ _ _ _), Lib.hid (Below.refl _ _)⟩
  case round =>
    obtain ⟨k, inn, out, on, hk, rfl, rfl, hput, hol, hown, hbl⟩ := hrel
    have hb0 : RowKit.Below W0.heap.size W0 wr := by rw [HSW.out]; exact hbl.out
    have HB0 := Lib.hid hb0
    have HBW := Lib.hid (below_then HW.out (Nat.le_refl _) hb0)
    have hsz : w.heap.size + 1 ≤ wr.heap.size := by have := hb0.size; have := HSW.out; omega
    have HA1 := Lib.hid (HA.out.below hb0)
    clear hb0 hbl
    by_cases hlt : k < n
    · have hkr : k < R.length := by have := HN.out; omega
      obtain ⟨y, hy⟩ : ∃ y, R[k]? = some y := ⟨_, List.getElem?_eq_getElem hkr⟩
      have hye : R[k] = y := (List.getElem?_eq_some_iff.1 hy).2
      have hyo := (HV.out.below HBW.out).over y (List.mem_of_getElem? hy)
      obtain ⟨yb, yoff, hao, hat⟩ := (HV.out.below HBW.out).at_ hy
      cases hao
      have hdl : R.drop k = y :: R.drop (k + 1) := by rw [List.drop_eq_getElem_cons hkr, hye]
      obtain ⟨c, hc⟩ : ∃ c, c = lessS akey1 y.1.key := ⟨_, rfl⟩
      have hst := bkRo_cons (⟨at1, ak1, akey1, afin1, aval1, aex1, ⟨ap1, al1, aw1⟩, aov1⟩, .slice xo xn xc) y inn (R.drop (k + 1)) c hc
      have hput1 := hput.out.1
      rw [hdl, HI.out, hst, ← HI.out] at hput1
      have HP := Lib.hid (And.intro hput1 hput.out.2)
      have HCC := Lib.hid hc
      have HYO := Lib.hid hyo
      have HYK := Lib.hid hy
      obtain ⟨yo, yc, ey, -, -⟩ := Over.form hyo
      clear hput1 hst hc hdl hyo hye hy hput
      obtain ⟨hbl, b0, b1, b2, b3, b4, b5, b6, b7, b8, b9⟩ := hat
      obtain ⟨⟨at2, ak2, akey2, afin2, aval2, aex2, ⟨ap2, al2, aw2⟩, aov2⟩, av2⟩ := y
      simp only [] at ey b0 b1 b2 b3 b4 b5 b6 b7 b8 b9
      obtain ⟨yn, hyn⟩ : ∃ k, k = aov2.length := ⟨_, rfl⟩
      rw [← hyn] at ey
      subst ey
      clear hyn
      obtain ⟨-, a0, a1, a2, a3, a4, a5, a6, a7, a8, a9⟩ := HA1.out
      simp only [] at a0 a1 a2 a3 a4 a5 a6 a7 a8 a9
      have hcc : Op.bytesLess akey1.toList akey2.toList = c := HCC.out.symm
      have hi0 : (0 : Int) ≤ (k : Int) := by omega
      have hi1 : (k : Int) < (n : Int) := by omega
      have hw1 : w.heap.size < wr.heap.size := by omega
      cases inn
      · cases c
        · skip
          go_wp2_with fail
          refine wp_region_calm (by kernel_rfl) (by kernel_rfl) ?_
          repeat (go_big_quiet_step (fail))
          refine wpQuiet_nil ?_
          rintro _ ⟨z, rfl⟩
          obtain ⟨W1, hW1⟩ : ∃ W1, W1 = z.at := ⟨_, rfl⟩
          have hz := z.below
          rw [← hW1] at hz ⊢
          have HZ := Lib.hid hz
          have HO1 := Lib.hid (row_below hown.out hz)
          have hzs := hz.size
          have HB1 := Lib.hid (below_then HB0.out (Nat.le_refl _) hz)
          have hat2 : At W1 yb (yoff + k * 10) (⟨at2, ak2, akey2, afin2, aval2, aex2, ⟨ap2, al2, aw2⟩, aov2⟩, .slice yo yn yc) := (At.below ⟨hbl, b0, b1, b2, b3, b4, b5, b6, b7, b8, b9⟩ hz)
          have HAT := Lib.hid hat2
          have HA2 := Lib.hid (HA1.out.below hz)
          have HX2 := Lib.hid ((HXO.out.below HBW.out).below hz)
          have HY2 := Lib.hid (HYO.out.below hz)
          clear hW1 z hz hat2 a0 a1 a2 a3 a4 a5 a6 a7 a8 a9 b0 b1 b2 b3 b4 b5 b6 b7 b8 b9 hbl hown HA1
          obtain ⟨hl2, b0, b1, b2, b3, b4, b5, b6, b7, b8, b9⟩ := HAT.out
          obtain ⟨hl1, a0, a1, a2, a3, a4, a5, a6, a7, a8, a9⟩ := HA2.out
          simp only [] at a0 a1 a2 a3 a4 a5 a6 a7 a8 a9 b0 b1 b2 b3 b4 b5 b6 b7 b8 b9
          have HBf := Lib.hid (show RowKit.Below (w.heap.size + 1) W0 W1 by have h := HB1.out; rw [HSW.out] at h; exact h)
          have hws : w.heap.size + 1 ≤ W1.heap.size := by omega
          go_wp2_with (at_builtin; refine wpList_append_rows rfl (.tmp 30) (.tmp 35) rfl (w.heap.size + 1) u5 on _ rfl (HO1.out.alloc _) (some ⟨W1.heap.size, 0, none⟩) 1 1 [((⟨at2, ak2, akey2, afin2, aval2, aex2, ⟨ap2, al2, aw2⟩, aov2⟩, .slice yo yn yc) : Ro)] rfl (one_row HY2.out) (by omega) (by simp; omega) ?_)
          intro v4 w4 hown4 hgr4
          have HO4 := Lib.hid (show w4.ownsRow (w.heap.size + 1) 40 10 v4 (on + 1) ((out ++ [((⟨at2, ak2, akey2, afin2, aval2, aex2, ⟨ap2, al2, aw2⟩, aov2⟩, .slice yo yn yc) : Ro)]).flatMap enM) by rw [List.flatMap_append]; exact hown4)
          have HB4 := Lib.hid ((HBf.out.alloc hws _).grown hgr4 (by simp; omega) (fun k hk => (HO1.out.lt k hk).1))
          clear hown4 hgr4 b0 b1 b2 b3 b4 b5 b6 b7 b8 b9 a0 a1 a2 a3 a4 a5 a6 a7 a8 a9
          go_wp2_with fail
          go_roundw
          case rel => exact ⟨k + 1, false, out ++ [((⟨at2, ak2, akey2, afin2, aval2, aex2, ⟨ap2, al2, aw2⟩, aov2⟩, .slice yo yn yc) : Ro)], on + 1, by omega, by go_num, rfl, Lib.hid ⟨by have h := HP.out.1; simpa using h, by have := HP.out.2; simp; omega⟩, by omega, HO4, HB4⟩
          case measure => simp [intOf]; omega
        · skip
          go_wp2_with fail
          refine wp_region_calm (by kernel_rfl) (by kernel_rfl) ?_
          repeat (go_big_quiet_step (fail))
          refine wpQuiet_nil ?_
          rintro _ ⟨z, rfl⟩
          obtain ⟨W1, hW1⟩ : ∃ W1, W1 = z.at := ⟨_, rfl⟩
          have hz := z.below
          rw [← hW1] at hz ⊢
          have HZ := Lib.hid hz
          have HO1 := Lib.hid (row_below hown.out hz)
          have hzs := hz.size
          have HB1 := Lib.hid (below_then HB0.out (Nat.le_refl _) hz)
          have hat2 : At W1 yb (yoff + k * 10) (⟨at2, ak2, akey2, afin2, aval2, aex2, ⟨ap2, al2, aw2⟩, aov2⟩, .slice yo yn yc) := (At.below ⟨hbl, b0, b1, b2, b3, b4, b5, b6, b7, b8, b9⟩ hz)
          have HAT := Lib.hid hat2
          have HA2 := Lib.hid (HA1.out.below hz)
          have HX2 := Lib.hid ((HXO.out.below HBW.out).below hz)
          have HY2 := Lib.hid (HYO.out.below hz)
          clear hW1 z hz hat2 a0 a1 a2 a3 a4 a5 a6 a7 a8 a9 b0 b1 b2 b3 b4 b5 b6 b7 b8 b9 hbl hown HA1
          obtain ⟨hl2, b0, b1, b2, b3, b4, b5, b6, b7, b8, b9⟩ := HAT.out
          obtain ⟨hl1, a0, a1, a2, a3, a4, a5, a6, a7, a8, a9⟩ := HA2.out
          simp only [] at a0 a1 a2 a3 a4 a5 a6 a7 a8 a9 b0 b1 b2 b3 b4 b5 b6 b7 b8 b9
          have HBf := Lib.hid (show RowKit.Below (w.heap.size + 1) W0 W1 by have h := HB1.out; rw [HSW.out] at h; exact h)
          have hws : w.heap.size + 1 ≤ W1.heap.size := by omega
          go_wp2_with (at_builtin; refine wpList_append_rows rfl (.tmp 26) (.tmp 28) rfl (w.heap.size + 1) u5 on _ rfl (HO1.out.alloc _) (some ⟨W1.heap.size, 0, none⟩) 1 1 [((⟨at1, ak1, akey1, afin1, aval1, aex1, ⟨ap1, al1, aw1⟩, aov1⟩, .slice xo xn xc) : Ro)] rfl (one_row HX2.out) (by omega) (by simp; omega) ?_)
          intro v3 w3 hown3 hgr3
          have HO3 := Lib.hid (show w3.ownsRow (w.heap.size + 1) 40 10 v3 (on + 1) ((out ++ [((⟨at1, ak1, akey1, afin1, aval1, aex1, ⟨ap1, al1, aw1⟩, aov1⟩, .slice xo xn xc) : Ro)]).flatMap enM) by rw [List.flatMap_append]; exact hown3)
          have hb3 : RowKit.Below (w.heap.size + 1) W0 w3 := (HBf.out.alloc hws _).grown hgr3 (by simp; omega) (fun k hk => (HO1.out.lt k hk).1)
          have HB3 := Lib.hid hb3
          have hb3' : RowKit.Below w.heap.size w w3 := below_then HW.out (Nat.le_refl _) (by rw [HSW.out]; exact hb3)
          have hs3 := hb3'.size
          have hs4 : w.heap.size + 1 ≤ w3.heap.size := by have h := hb3.size; rw [HSW.out] at h; exact h
          obtain ⟨yb3, yoff3, hao3, hat3⟩ := (HV.out.below hb3').at_ HYK.out
          cases hao3
          have HY3 := Lib.hid ((HV.out.below hb3').over _ (List.mem_of_getElem? HYK.out))
          clear hown3 hgr3 hb3 hb3' b0 b1 b2 b3 b4 b5 b6 b7 b8 b9 a0 a1 a2 a3 a4 a5 a6 a7 a8 a9
          obtain ⟨hl3, b0, b1, b2, b3, b4, b5, b6, b7, b8, b9⟩ := hat3
          simp only [] at b0 b1 b2 b3 b4 b5 b6 b7 b8 b9
          go_wp2_with (at_builtin; refine wpList_append_rows rfl (.tmp 30) (.tmp 35) rfl (w.heap.size + 1) v3 (on + 1) _ rfl (HO3.out.alloc _) (some ⟨w3.heap.size, 0, none⟩) 1 1 [((⟨at2, ak2, akey2, afin2, aval2, aex2, ⟨ap2, al2, aw2⟩, aov2⟩, .slice yo yn yc) : Ro)] rfl (one_row HY3.out) (by omega) (by simp; omega) ?_)
          intro v4 w4 hown4 hgr4
          have HO4 := Lib.hid (show w4.ownsRow (w.heap.size + 1) 40 10 v4 (on + 1 + 1) ((out ++ [((⟨at1, ak1, akey1, afin1, aval1, aex1, ⟨ap1, al1, aw1⟩, aov1⟩, .slice xo xn xc) : Ro)] ++ [((⟨at2, ak2, akey2, afin2, aval2, aex2, ⟨ap2, al2, aw2⟩, aov2⟩, .slice yo yn yc) : Ro)]).flatMap enM) by simpa [List.flatMap_append] using hown4)
          have HB4 := Lib.hid ((HB3.out.alloc hs4 _).grown hgr4 (by simp; omega) (fun k hk => (HO3.out.lt k hk).1))
          clear hown4 hgr4 b0 b1 b2 b3 b4 b5 b6 b7 b8 b9
          go_wp2_with fail
          go_roundw
          case rel => exact ⟨k + 1, true, out ++ [((⟨at1, ak1, akey1, afin1, aval1, aex1, ⟨ap1, al1, aw1⟩, aov1⟩, .slice xo xn xc) : Ro)] ++ [((⟨at2, ak2, akey2, afin2, aval2, aex2, ⟨ap2, al2, aw2⟩, aov2⟩, .slice yo yn yc) : Ro)], on + 1 + 1, by omega, by go_num, rfl, Lib.hid ⟨by have h := HP.out.1; simpa using h, by have := HP.out.2; simp; omega⟩, by omega, HO4, HB4⟩
          case measure => simp [intOf]; omega
      · skip
        go_wp2_with fail
        refine wp_region_calm (by kernel_rfl) (by kernel_rfl) ?_
        repeat (go_big_quiet_step (fail))
        refine wpQuiet_nil ?_
        rintro _ ⟨z, rfl⟩
        obtain ⟨W1, hW1⟩ : ∃ W1, W1 = z.at := ⟨_, rfl⟩
        have hz := z.below
        rw [← hW1] at hz ⊢
        have HZ := Lib.hid hz
        have HO1 := Lib.hid (row_below hown.out hz)
        have hzs := hz.size
        have HB1 := Lib.hid (below_then HB0.out (Nat.le_refl _) hz)
        have hat2 : At W1 yb (yoff + k * 10) (⟨at2, ak2, akey2, afin2, aval2, aex2, ⟨ap2, al2, aw2⟩, aov2⟩, .slice yo yn yc) := (At.below ⟨hbl, b0, b1, b2, b3, b4, b5, b6, b7, b8, b9⟩ hz)
        have HAT := Lib.hid hat2
        have HA2 := Lib.hid (HA1.out.below hz)
        have HX2 := Lib.hid ((HXO.out.below HBW.out).below hz)
        have HY2 := Lib.hid (HYO.out.below hz)
        clear hW1 z hz hat2 a0 a1 a2 a3 a4 a5 a6 a7 a8 a9 b0 b1 b2 b3 b4 b5 b6 b7 b8 b9 hbl hown HA1
        obtain ⟨hl2, b0, b1, b2, b3, b4, b5, b6, b7, b8, b9⟩ := HAT.out
        obtain ⟨hl1, a0, a1, a2, a3, a4, a5, a6, a7, a8, a9⟩ := HA2.out
        simp only [] at a0 a1 a2 a3 a4 a5 a6 a7 a8 a9 b0 b1 b2 b3 b4 b5 b6 b7 b8 b9
        have HBf := Lib.hid (show RowKit.Below (w.heap.size + 1) W0 W1 by have h := HB1.out; rw [HSW.out] at h; exact h)
        have hws : w.heap.size + 1 ≤ W1.heap.size := by omega
        go_wp2_with (at_builtin; refine wpList_append_rows rfl (.tmp 30) (.tmp 35) rfl (w.heap.size + 1) u5 on _ rfl (HO1.out.alloc _) (some ⟨W1.heap.size, 0, none⟩) 1 1 [((⟨at2, ak2, akey2, afin2, aval2, aex2, ⟨ap2, al2, aw2⟩, aov2⟩, .slice yo yn yc) : Ro)] rfl (one_row HY2.out) (by omega) (by simp; omega) ?_)
        intro v4 w4 hown4 hgr4
        have HO4 := Lib.hid (show w4.ownsRow (w.heap.size + 1) 40 10 v4 (on + 1) ((out ++ [((⟨at2, ak2, akey2, afin2, aval2, aex2, ⟨ap2, al2, aw2⟩, aov2⟩, .slice yo yn yc) : Ro)]).flatMap enM) by rw [List.flatMap_append]; exact hown4)
        have HB4 := Lib.hid ((HBf.out.alloc hws _).grown hgr4 (by simp; omega) (fun k hk => (HO1.out.lt k hk).1))
        clear hown4 hgr4 b0 b1 b2 b3 b4 b5 b6 b7 b8 b9 a0 a1 a2 a3 a4 a5 a6 a7 a8 a9
        go_wp2_with fail
        go_roundw
        case rel => exact ⟨k + 1, true, out ++ [((⟨at2, ak2, akey2, afin2, aval2, aex2, ⟨ap2, al2, aw2⟩, aov2⟩, .slice yo yn yc) : Ro)], on + 1, by omega, by go_num, rfl, Lib.hid ⟨by have h := HP.out.1; simpa using h, by have := HP.out.2; simp; omega⟩, by omega, HO4, HB4⟩
        case measure => simp [intOf]; omega
    · obtain rfl : k = n := by omega
      have hdr : R.drop k = [] := List.drop_of_length_le (by have := HN.out; omega)
      have hput1 := hput.out.1
      rw [hdr] at hput1
      obtain ⟨hl1, a0, a1, a2, a3, a4, a5, a6, a7, a8, a9⟩ := HA1.out
      simp only [] at a0 a1 a2 a3 a4 a5 a6 a7 a8 a9
      have hb : RowKit.Below (w.heap.size + 1) W0 wr := by have h := HB0.out; rw [HSW.out] at h; exact h
      have HBl := Lib.hid hb
      have hmem : ∀ y ∈ I false R, y ∈ R ∨ y = (⟨at1, ak1, akey1, afin1, aval1, aex1, ⟨ap1, al1, aw1⟩, aov1⟩, .slice xo xn xc) := fun y hy => by rw [HI.out] at hy; exact bkRo_mem _ _ _ y hy
      have HM := Lib.hid hmem
      have HPL := Lib.hid hput.out.2
      rw [HI.out] at hput1
      have hw1 : w.heap.size < wr.heap.size := by omega
      cases inn
      · have HP := Lib.hid (show out ++ [((⟨at1, ak1, akey1, afin1, aval1, aex1, ⟨ap1, al1, aw1⟩, aov1⟩, .slice xo xn xc) : Ro)] = I false R from by rw [HI.out]; exact hput1)
        have HX2 := Lib.hid (HXO.out.below HBW.out)
        clear hput1 hput hdr hmem hb
        go_wp2_with (at_builtin; refine wpList_append_rows rfl (.tmp 39) (.tmp 41) rfl (w.heap.size + 1) u5 on _ rfl (hown.out.alloc _) (some ⟨wr.heap.size, 0, none⟩) 1 1 [((⟨at1, ak1, akey1, afin1, aval1, aex1, ⟨ap1, al1, aw1⟩, aov1⟩, .slice xo xn xc) : Ro)] rfl (one_row HX2.out) (by omega) (by simp; omega) ?_)
        intro v4 w4 hown4 hgr4
        have HO4 := Lib.hid (show w4.ownsRow (w.heap.size + 1) 40 10 v4 (on + 1) ((out ++ [((⟨at1, ak1, akey1, afin1, aval1, aex1, ⟨ap1, al1, aw1⟩, aov1⟩, .slice xo xn xc) : Ro)]).flatMap enM) by rw [List.flatMap_append]; exact hown4)
        have HB4 := Lib.hid ((HBl.out.alloc hsz _).grown hgr4 (by simp; omega) (fun k hk => (hown.out.lt k hk).1))
        clear hown4 hgr4 a0 a1 a2 a3 a4 a5 a6 a7 a8 a9
        go_wp2_with fail
        go_ret
        have hbf := below_then HW.out (Nat.le_refl _) (show RowKit.Below _ W0 w4 by rw [HSW.out]; exact HB4.out)
        refine ⟨v4, rfl, ?_, hbf⟩
        rw [← HP.out]
        refine ⟨Lst.owned enM_len (by decide) (by rw [List.length_append, ← HPL.out] <;> rfl) HO4.out, fun y hy => ?_⟩
        rw [HP.out] at hy
        rcases HM.out y hy with h | rfl
        · exact (HV.out.over y h).below hbf
        · exact HXO.out.below hbf
      · have HP := Lib.hid (show out = I false R from by rw [HI.out]; simpa [bkRo] using hput1)
        clear hput1 hput hdr hmem hb a0 a1 a2 a3 a4 a5 a6 a7 a8 a9
        go_wp2_with fail
        go_ret
        have hbf := below_then HW.out (Nat.le_refl _) (show RowKit.Below _ W0 wr by rw [HSW.out]; exact HBl.out)
        refine ⟨u5, rfl, ?_, hbf⟩
        rw [← HP.out]
        refine ⟨Lst.owned enM_len (by decide) HPL.out hown.out, fun y hy => ?_⟩
        rw [HP.out] at hy
        rcases HM.out y hy with h | rfl
        · exact (HV.out.over y h).below hbf
        · exact HXO.out.below hbf
end Go.Proofs.YtmjelcjdfamikaaGreatDoor.Mut

/- The walks of cenotaphref08.sibs, cells, wipes (layer 8). PRINTED by wip/genrefparts.py. -/
namespace Go.Proofs.YtmjelcjdfamikaaGreatDoor.Mut
open Go.RowKit Go.Sort Go.Proofs.YtmjelcjdfamikaaGreatDoor.Ord
set_option linter.unusedSectionVars false
variable [Inhabited Lim]

def isSB (m : Mu) : Bool := decide (m.table = 2)
def isCB (m : Mu) : Bool := decide (m.table = 1) && !decide (m.kind = 3)
def sameK (m : Mu) (y : Mu) : Bool := isCB y && (y.key.toList == m.key.toList)
def sibsGo (acc : List Ro) : List Ro → List Ro
  | [] => acc
  | x :: t => sibsGo (if isSB x.1 then bkRo x false acc else acc) t
def sibsRo (R : List Ro) : List Ro := sibsGo [] R
def ownC (all : List Ro) (x : Ro) (t : List Ro) : Bool := (isCB x.1 && !((all.map (·.1)).any fun y => hitsB y x.1.key x.1.at_)) && !((t.map (·.1)).any (sameK x.1))
def cellsGo (all : List Ro) (acc : List Ro) : List Ro → List Ro
  | [] => acc
  | x :: t => cellsGo all (if ownC all x t then bkRo x false acc else acc) t
def cellsRo (R : List Ro) : List Ro := cellsGo R [] R
def anyW (x : Mu) (i : Nat) : Nat → List Ro → Bool
  | _, [] => false
  | k, y :: t => (!decide (k = i) && (decide (y.1.kind = 3) && withinB y.1 x)) || anyW x i (k + 1) t
def ownW (all : List Ro) (x : Ro) (i : Nat) : Bool := decide (x.1.kind = 3) && !anyW x.1 i 0 all
def wipesGo (all : List Ro) (i : Nat) : List Ro → List Ro
  | [] => []
  | x :: t => (if ownW all x i then [x] else []) ++ wipesGo all (i + 1) t
def wipesRo (R : List Ro) : List Ro := wipesGo R 0 R
theorem wipes_mem (all : List Ro) (R : List Ro) : ∀ i, ∀ y ∈ wipesGo all i R, y ∈ R := by
  induction R with
  | nil => intro i y hy; cases hy
  | cons x t ih =>
    intro i y hy
    simp only [wipesGo, List.mem_append] at hy
    rcases hy with hy | hy
    · split at hy <;> simp at hy; simp [hy]
    · exact List.mem_cons_of_mem _ (ih _ y hy)

set_option maxHeartbeats 8000000 in
set_option maxRecDepth 100000 in
theorem refsibs_any (v : Value) (R : List Ro) (w : World) (hv : MRow w v R) (hn : R.length ≤ 10000) :
    Calls Tryz.prog 23 #[v] w (RowP w (sibsRo R)) := by
  obtain ⟨ao, cap, rfl, -, -⟩ := hv.form
  obtain ⟨n, hN⟩ : ∃ n, n = R.length := ⟨_, rfl⟩
  rw [← hN] at hv hn ⊢
  obtain ⟨Q, hQ⟩ : ∃ Q, Q = sibsRo R := ⟨_, rfl⟩
  rw [← hQ]
  have HQ := Lib.hid hQ
  have HN := Lib.hid hN
  have HV := Lib.hid hv
  clear hN hv hQ
  go_enter Tryz.func23, Tryz.ntmps23
  go_wp2_with fail
  go_loopw [3, 4] (fun ov iv wr => ∃ (k : Nat) (acc : List Ro), k ≤ n ∧ iv = .int .i64 k ∧ Hid (sibsGo acc (R.drop k) = Q ∧ acc.length ≤ k ∧ MRow wr ov acc) ∧ Hid (RowKit.Below w.heap.size w wr)) (fun _ iv _ => n - (intOf iv).toNat)
  case atStart => exact ⟨0, [], by omega, rfl, Lib.hid ⟨HQ.out.symm, by simp, MRow.nil w⟩, Lib.hid (Below.refl _ _)⟩
  case round =>
    obtain ⟨k, acc, hk, rfl, hacc, hb⟩ := hrel
    by_cases hlt : k < n
    · have hkr1 : k < R.length := by have := HN.out; omega
      obtain ⟨x1, hx1⟩ : ∃ x, R[k]? = some x := ⟨_, List.getElem?_eq_getElem hkr1⟩
      have hxe1 : R[k] = x1 := (List.getElem?_eq_some_iff.1 hx1).2
      have hxm1 := List.mem_of_getElem? hx1
      have hxo1 := (HV.out.below hb.out).over x1 hxm1
      obtain ⟨xb1, xoff1, hao1, hat1⟩ := (HV.out.below hb.out).at_ hx1
      cases hao1
      have hst : sibsGo (if isSB x1.1 then bkRo x1 false acc else acc) (R.drop (k + 1)) = Q := by rw [← hacc.out.1, List.drop_eq_getElem_cons hkr1, hxe1]; rfl
      have hlen := hacc.out.2.1
      obtain ⟨oo, oc, rfl, -, -⟩ := hacc.out.2.2.form
      have HBk := Lib.hid (bykey_any _ acc x1 wr hacc.out.2.2 hxo1 (by omega))
      have HST := Lib.hid hst
      clear hst
      obtain ⟨xo1, xc1, ex1, -, -⟩ := Over.form hxo1
      clear hxe1 hxm1 hx1 hkr1
      have HXO1 := Lib.hid hxo1
      clear hxo1
      obtain ⟨⟨at1, ak1, akey1, afin1, aval1, aex1, ⟨ap1, al1, aw1⟩, aov1⟩, av1⟩ := x1
      simp only [] at ex1
      obtain ⟨xn1, hxn1⟩ : ∃ k, k = aov1.length := ⟨_, rfl⟩
      rw [← hxn1] at ex1
      subst ex1
      clear hxn1
      have HAT1 := Lib.hid hat1
      clear hat1
      unfold vM at HBk
      simp only [] at HBk
      obtain ⟨hbl1, c10, c11, c12, c13, c14, c15, c16, c17, c18, c19⟩ := HAT1.out
      simp only [] at c10 c11 c12 c13 c14 c15 c16 c17 c18 c19
      by_cases ht : at1 = 2
      · have HS2 := Lib.hid (show sibsGo (bkRo (⟨at1, ak1, akey1, afin1, aval1, aex1, ⟨ap1, al1, aw1⟩, aov1⟩, .slice xo1 xn1 xc1) false acc) (R.drop (k + 1)) = Q by
          have h := HST.out
          rw [show isSB ⟨at1, ak1, akey1, afin1, aval1, aex1, ⟨ap1, al1, aw1⟩, aov1⟩ = true from decide_eq_true ht] at h
          exact h)
        subst ht
        go_wp2_with fail
        refine HBk.out.mono ?_
        rintro e w2 ⟨v2, rfl, hr2, hb2⟩
        have HR2 := Lib.hid hr2
        have HB2 := Lib.hid (below_then hb.out (Nat.le_refl _) hb2)
        clear hr2 hb2 c10 c11 c12 c13 c14 c15 c16 c17 c18 c19
        go_wp2_with fail
        go_roundw
        case rel => exact ⟨k + 1, _, by omega, by go_num, Lib.hid ⟨HS2.out, by rw [bkRo_len]; omega, HR2.out⟩, HB2⟩
        case measure => simp [intOf]; omega
      · have HS2 := Lib.hid (show sibsGo acc (R.drop (k + 1)) = Q by
          have h := HST.out
          rw [show isSB ⟨at1, ak1, akey1, afin1, aval1, aex1, ⟨ap1, al1, aw1⟩, aov1⟩ = false from decide_eq_false ht] at h
          exact h)
        go_wp2_with fail
        go_roundw
        case rel => exact ⟨k + 1, acc, by omega, by go_num, Lib.hid ⟨HS2.out, by omega, hacc.out.2.2⟩, hb⟩
        case measure => simp [intOf]; omega
    · obtain rfl : k = n := by omega
      have HR := Lib.hid (show MRow wr u3 Q by
        have h := hacc.out.1
        rw [List.drop_of_length_le (by have := HN.out; omega)] at h
        rw [← h]; exact hacc.out.2.2)
      go_wp2_with fail
      go_ret
      exact ⟨_, rfl, HR.out, hb.out⟩

set_option maxHeartbeats 8000000 in
set_option maxRecDepth 100000 in
theorem refwipes_any (v : Value) (R : List Ro) (w : World) (hv : MRow w v R) (hn : R.length ≤ 10000) :
    Calls Tryz.prog 21 #[v] w (RowP w (wipesRo R)) := by
  obtain ⟨ao, cap, rfl, -, -⟩ := hv.form
  obtain ⟨n, hN⟩ : ∃ n, n = R.length := ⟨_, rfl⟩
  rw [← hN] at hv hn ⊢
  obtain ⟨Q, hQ⟩ : ∃ Q, Q = wipesRo R := ⟨_, rfl⟩
  rw [← hQ]
  have HQ := Lib.hid hQ
  have HN := Lib.hid hN
  have HV := Lib.hid hv
  obtain ⟨i0, hi, hz0, hz1, hz2⟩ := info_parts info_M
  clear hi hz0 hz1 hz2 i0
  clear hN hv hQ
  go_enter Tryz.func21, Tryz.ntmps21
  go_wp2_with fail
  go_loopw [3, 4] (fun ov iv wr => ∃ (k on : Nat) (out : List Ro), k ≤ n ∧ iv = .int .i64 k ∧ Hid (out ++ wipesGo R k (R.drop k) = Q ∧ on = out.length) ∧ on ≤ k ∧ Hid (wr.ownsRow w.heap.size 40 10 ov on (out.flatMap enM)) ∧ Hid (RowKit.Below w.heap.size w wr)) (fun _ iv _ => n - (intOf iv).toNat)
  case atStart => exact ⟨0, 0, [], by omega, rfl, Lib.hid ⟨HQ.out.symm, rfl⟩, by simp, Lib.hid (World.ownsRow_nil _ _ _ _), Lib.hid (Below.refl _ _)⟩
  case round =>
    obtain ⟨k, on, out, hk, rfl, hput, hol, hown, hb⟩ := hrel
    by_cases hlt : k < n
    · have hkr1 : k < R.length := by have := HN.out; omega
      obtain ⟨x1, hx1⟩ : ∃ x, R[k]? = some x := ⟨_, List.getElem?_eq_getElem hkr1⟩
      have hxe1 : R[k] = x1 := (List.getElem?_eq_some_iff.1 hx1).2
      have hxm1 := List.mem_of_getElem? hx1
      have hxo1 := (HV.out.below hb.out).over x1 hxm1
      obtain ⟨xb1, xoff1, hao1, hat1⟩ := (HV.out.below hb.out).at_ hx1
      cases hao1
      have hst : out ++ ((if (decide (x1.1.kind = 3) && !anyW x1.1 k 0 R) then [x1] else []) ++ wipesGo R (k + 1) (R.drop (k + 1))) = Q := by rw [← hput.out.1, List.drop_eq_getElem_cons hkr1, hxe1]; rfl
      have HST := Lib.hid (And.intro hst hput.out.2)
      have HK1 := Lib.hid hx1
      clear hst hput
      obtain ⟨xo1, xc1, ex1, -, -⟩ := Over.form hxo1
      clear hxe1 hxm1 hx1 hkr1
      have HXO1 := Lib.hid hxo1
      clear hxo1
      obtain ⟨⟨at1, ak1, akey1, afin1, aval1, aex1, ⟨ap1, al1, aw1⟩, aov1⟩, av1⟩ := x1
      simp only [] at ex1
      obtain ⟨xn1, hxn1⟩ : ∃ k, k = aov1.length := ⟨_, rfl⟩
      rw [← hxn1] at ex1
      subst ex1
      clear hxn1
      have HAT1 := Lib.hid hat1
      clear hat1
      obtain ⟨O0, hO0⟩ : ∃ O0, O0 = decide (ak1 = 3) := ⟨_, rfl⟩
      have HO0 := Lib.hid hO0
      have hq0 : (ak1 == 3) = O0 := by rw [hO0]; rfl
      have hsz := hb.out.size
      obtain ⟨hbl1, c10, c11, c12, c13, c14, c15, c16, c17, c18, c19⟩ := HAT1.out
      simp only [] at c10 c11 c12 c13 c14 c15 c16 c17 c18 c19
      obtain ⟨wo, hwo⟩ : ∃ wo, wo = wr := ⟨_, rfl⟩
      rw [← hwo] at hown hb HAT1 HXO1 hsz hbl1 c10 c11 c12 c13 c14 c15 c16 c17 c18 c19 ⊢
      obtain ⟨uu, huu⟩ : ∃ uu, uu = u3 := ⟨_, rfl⟩
      rw [← huu] at hown ⊢
      clear hO0 hwo huu
      clear c10 c11 c12 c13 c14 c15 c16 c17 c18 c19
      have HAT1c := HAT1
      obtain ⟨hbl1, c10, c11, c12, c13, c14, c15, c16, c17, c18, c19⟩ := HAT1.out
      simp only [] at c10 c11 c12 c13 c14 c15 c16 c17 c18 c19
      go_upto_block 6 with fail
      go_loopw [5, 6] (fun ov2 iv2 wi => ∃ (j : Nat) (b : Bool), j ≤ n ∧ iv2 = .int .i64 j ∧ ov2 = .bool b ∧ Hid ((b && !anyW ⟨at1, ak1, akey1, afin1, aval1, aex1, ⟨ap1, al1, aw1⟩, aov1⟩ k j (R.drop j)) = (O0 && !anyW ⟨at1, ak1, akey1, afin1, aval1, aex1, ⟨ap1, al1, aw1⟩, aov1⟩ k 0 R)) ∧ Hid (RowKit.Below w.heap.size w wi ∧ RowKit.Below wo.heap.size wo wi)) (fun _ iv2 _ => n - (intOf iv2).toNat)
      case atStart => exact ⟨0, O0, by omega, rfl, by first | rfl | (rw [HO0.out]) | simp [HO0.out], Lib.hid rfl, Lib.hid ⟨hb.out, Below.refl _ _⟩⟩
      case round =>
        obtain ⟨j, b, hj, rfl, rfl, hst2, hwi⟩ := hrel
        have hbi := Lib.hid hwi.out.1
        have hbo := Lib.hid hwi.out.2
        clear hwi
        by_cases hlt2 : j < n
        · have hkr2 : j < R.length := by have := HN.out; omega
          obtain ⟨x2, hx2⟩ : ∃ x, R[j]? = some x := ⟨_, List.getElem?_eq_getElem hkr2⟩
          have hxe2 : R[j] = x2 := (List.getElem?_eq_some_iff.1 hx2).2
          have hxm2 := List.mem_of_getElem? hx2
          have hxo2 := (HV.out.below hbi.out).over x2 hxm2
          obtain ⟨xb2, xoff2, hao2, hat2⟩ := (HV.out.below hbi.out).at_ hx2
          cases hao2
          have hst3 : (b && !((!decide (j = k) && (decide (x2.1.kind = 3) && withinB x2.1 ⟨at1, ak1, akey1, afin1, aval1, aex1, ⟨ap1, al1, aw1⟩, aov1⟩)) || anyW ⟨at1, ak1, akey1, afin1, aval1, aex1, ⟨ap1, al1, aw1⟩, aov1⟩ k (j + 1) (R.drop (j + 1)))) = (O0 && !anyW ⟨at1, ak1, akey1, afin1, aval1, aex1, ⟨ap1, al1, aw1⟩, aov1⟩ k 0 R) := by rw [← hst2.out, List.drop_eq_getElem_cons hkr2, hxe2]; rfl
          have HWi := Lib.hid (fun (W : World) (h1 : ∃ ao n cap, x2.2 = .slice ao n cap) => refwithin_any x2 (⟨at1, ak1, akey1, afin1, aval1, aex1, ⟨ap1, al1, aw1⟩, aov1⟩, .slice xo1 xn1 xc1) W h1 ⟨_, _, _, rfl⟩)
          clear hst2
          obtain ⟨xo2, xc2, ex2, -, -⟩ := Over.form hxo2
          clear hxe2 hxm2 hx2 hkr2
          have HXO2 := Lib.hid hxo2
          clear hxo2
          obtain ⟨⟨at2, ak2, akey2, afin2, aval2, aex2, ⟨ap2, al2, aw2⟩, aov2⟩, av2⟩ := x2
          simp only [] at ex2
          obtain ⟨xn2, hxn2⟩ : ∃ k, k = aov2.length := ⟨_, rfl⟩
          rw [← hxn2] at ex2
          subst ex2
          clear hxn2
          have HAT2 := Lib.hid hat2
          clear hat2
          obtain ⟨q, hq⟩ : ∃ q, q = withinB ⟨at2, ak2, akey2, afin2, aval2, aex2, ⟨ap2, al2, aw2⟩, aov2⟩ ⟨at1, ak1, akey1, afin1, aval1, aex1, ⟨ap1, al1, aw1⟩, aov1⟩ := ⟨_, rfl⟩
          have HWi := Lib.hid (fun (W : World) => HWi.out W ⟨_, _, _, rfl⟩)
          rw [← hq] at hst3 HWi
          unfold vM at HWi
          simp only [] at HWi
          have HST3 := Lib.hid hst3
          clear hst3 hq c10 c11 c12 c13 c14 c15 c16 c17 c18 c19 hbl1
          obtain ⟨hbl1, c10, c11, c12, c13, c14, c15, c16, c17, c18, c19⟩ := (HAT1c.out.below hbo.out)
          simp only [] at c10 c11 c12 c13 c14 c15 c16 c17 c18 c19
          obtain ⟨hbl2, c20, c21, c22, c23, c24, c25, c26, c27, c28, c29⟩ := HAT2.out
          simp only [] at c20 c21 c22 c23 c24 c25 c26 c27 c28 c29
          have j0 : (0 : Int) ≤ (j : Int) := by omega
          have j1 : (j : Int) < (n : Int) := by omega
          have k0 : (0 : Int) ≤ (k : Int) := by omega
          have k1 : (k : Int) < (n : Int) := by omega
          by_cases hjk : j = k
          · have HST2 := Lib.hid (show (b && !anyW ⟨at1, ak1, akey1, afin1, aval1, aex1, ⟨ap1, al1, aw1⟩, aov1⟩ k (j + 1) (R.drop (j + 1))) = (O0 && !anyW ⟨at1, ak1, akey1, afin1, aval1, aex1, ⟨ap1, al1, aw1⟩, aov1⟩ k 0 R) by have h := HST3.out; rw [decide_eq_true hjk] at h; simpa using h)
            have e1 : ((j : Int) != (k : Int)) = false := by simp [hjk]
            have e2 : decide ((j : Int) = (k : Int)) = true := decide_eq_true (by omega)
            have e3 : ((j : Int) == (k : Int)) = true := by simp [hjk]
            clear hjk
            go_wp2_with fail
            refine wp_region_calm (by kernel_rfl) (by kernel_rfl) ?_
            repeat (go_big_quiet_step ((go_at_call 37; exact calm (HWi.out _))))
            refine wpQuiet_nil ?_
            rintro _ ⟨y, rfl⟩
            have HF := Lib.hid (show RowKit.Below w.heap.size w y.at ∧ RowKit.Below wo.heap.size wo y.at from ⟨below_then hbi.out (Nat.le_refl _) y.below, below_then hbo.out (Nat.le_refl _) y.below⟩)
            clear c10 c11 c12 c13 c14 c15 c16 c17 c18 c19 c20 c21 c22 c23 c24 c25 c26 c27 c28 c29
            go_wp2_with fail
            go_roundw
            case rel => exact ⟨j + 1, b, by omega, by go_num, rfl, HST2, HF⟩
            case measure => simp [intOf]; omega
          have e1 : ((j : Int) != (k : Int)) = true := by simp; omega
          have e2 : decide ((j : Int) = (k : Int)) = false := decide_eq_false (by omega)
          have e3 : ((j : Int) == (k : Int)) = false := by simp; omega
          by_cases h3 : ak2 = 3
          · subst h3
            cases b
            · have HST2 := Lib.hid (show (false && !anyW ⟨at1, ak1, akey1, afin1, aval1, aex1, ⟨ap1, al1, aw1⟩, aov1⟩ k (j + 1) (R.drop (j + 1))) = (O0 && !anyW ⟨at1, ak1, akey1, afin1, aval1, aex1, ⟨ap1, al1, aw1⟩, aov1⟩ k 0 R) by have h := HST3.out; simpa using h)
              go_wp2_with fail
              refine wp_region_calm (by kernel_rfl) (by kernel_rfl) ?_
              repeat (go_big_quiet_step ((go_at_call 37; exact calm (HWi.out _))))
              refine wpQuiet_nil ?_
              rintro _ ⟨y, rfl⟩
              have HF := Lib.hid (show RowKit.Below w.heap.size w y.at ∧ RowKit.Below wo.heap.size wo y.at from ⟨below_then hbi.out (Nat.le_refl _) y.below, below_then hbo.out (Nat.le_refl _) y.below⟩)
              clear c10 c11 c12 c13 c14 c15 c16 c17 c18 c19 c20 c21 c22 c23 c24 c25 c26 c27 c28 c29
              go_wp2_with fail
              go_roundw
              case rel => exact ⟨j + 1, false, by omega, by go_num, rfl, HST2, HF⟩
              case measure => simp [intOf]; omega
            cases q
            · have HST2 := Lib.hid (show (true && !anyW ⟨at1, ak1, akey1, afin1, aval1, aex1, ⟨ap1, al1, aw1⟩, aov1⟩ k (j + 1) (R.drop (j + 1))) = (O0 && !anyW ⟨at1, ak1, akey1, afin1, aval1, aex1, ⟨ap1, al1, aw1⟩, aov1⟩ k 0 R) by have h := HST3.out; rw [decide_eq_false hjk] at h; simpa using h)
              go_wp2_with fail
              refine wp_region_calm (by kernel_rfl) (by kernel_rfl) ?_
              repeat (go_big_quiet_step ((go_at_call 37; exact calm (HWi.out _))))
              refine wpQuiet_nil ?_
              rintro _ ⟨y, rfl⟩
              have HF := Lib.hid (show RowKit.Below w.heap.size w y.at ∧ RowKit.Below wo.heap.size wo y.at from ⟨below_then hbi.out (Nat.le_refl _) y.below, below_then hbo.out (Nat.le_refl _) y.below⟩)
              clear c10 c11 c12 c13 c14 c15 c16 c17 c18 c19 c20 c21 c22 c23 c24 c25 c26 c27 c28 c29
              go_wp2_with fail
              go_roundw
              case rel => exact ⟨j + 1, true, by omega, by go_num, rfl, HST2, HF⟩
              case measure => simp [intOf]; omega
            · have HST2 := Lib.hid (show (false && !anyW ⟨at1, ak1, akey1, afin1, aval1, aex1, ⟨ap1, al1, aw1⟩, aov1⟩ k (j + 1) (R.drop (j + 1))) = (O0 && !anyW ⟨at1, ak1, akey1, afin1, aval1, aex1, ⟨ap1, al1, aw1⟩, aov1⟩ k 0 R) by have h := HST3.out; rw [decide_eq_false hjk] at h; simpa using h)
              go_wp2_with fail
              refine wp_region_calm (by kernel_rfl) (by kernel_rfl) ?_
              repeat (go_big_quiet_step ((go_at_call 37; exact calm (HWi.out _))))
              refine wpQuiet_nil ?_
              rintro _ ⟨y, rfl⟩
              have HF := Lib.hid (show RowKit.Below w.heap.size w y.at ∧ RowKit.Below wo.heap.size wo y.at from ⟨below_then hbi.out (Nat.le_refl _) y.below, below_then hbo.out (Nat.le_refl _) y.below⟩)
              clear c10 c11 c12 c13 c14 c15 c16 c17 c18 c19 c20 c21 c22 c23 c24 c25 c26 c27 c28 c29
              go_wp2_with fail
              go_roundw
              case rel => exact ⟨j + 1, false, by omega, by go_num, rfl, HST2, HF⟩
              case measure => simp [intOf]; omega
          · have e4 : (ak2 == 3) = false := by simp [h3]
            have e5 : decide (ak2 = 3) = false := decide_eq_false h3
            have HST2 := Lib.hid (show (b && !anyW ⟨at1, ak1, akey1, afin1, aval1, aex1, ⟨ap1, al1, aw1⟩, aov1⟩ k (j + 1) (R.drop (j + 1))) = (O0 && !anyW ⟨at1, ak1, akey1, afin1, aval1, aex1, ⟨ap1, al1, aw1⟩, aov1⟩ k 0 R) by have h := HST3.out; rw [e5] at h; simpa using h)
            go_wp2_with fail
            refine wp_region_calm (by kernel_rfl) (by kernel_rfl) ?_
            repeat (go_big_quiet_step ((go_at_call 37; exact calm (HWi.out _))))
            refine wpQuiet_nil ?_
            rintro _ ⟨y, rfl⟩
            have HF := Lib.hid (show RowKit.Below w.heap.size w y.at ∧ RowKit.Below wo.heap.size wo y.at from ⟨below_then hbi.out (Nat.le_refl _) y.below, below_then hbo.out (Nat.le_refl _) y.below⟩)
            clear c10 c11 c12 c13 c14 c15 c16 c17 c18 c19 c20 c21 c22 c23 c24 c25 c26 c27 c28 c29
            go_wp2_with fail
            go_roundw
            case rel => exact ⟨j + 1, b, by omega, by go_num, rfl, HST2, HF⟩
            case measure => simp [intOf]; omega
        · obtain rfl : j = n := by omega
          have hbq : b = (O0 && !anyW ⟨at1, ak1, akey1, afin1, aval1, aex1, ⟨ap1, al1, aw1⟩, aov1⟩ k 0 R) := by
            have h := hst2.out
            rw [List.drop_of_length_le (by have := HN.out; omega)] at h
            simpa [anyW] using h
          have HBQ := Lib.hid hbq
          clear hbq hst2 c10 c11 c12 c13 c14 c15 c16 c17 c18 c19 hbl1
          obtain ⟨hbl1, c10, c11, c12, c13, c14, c15, c16, c17, c18, c19⟩ := (HAT1c.out.below hbo.out)
          simp only [] at c10 c11 c12 c13 c14 c15 c16 c17 c18 c19
          have hsi := hbi.out.size
          have hso := hbo.out.size
          have HOi := Lib.hid (row_below hown.out hbo.out)
          have HXi := Lib.hid (HXO1.out.below hbo.out)
          cases b
          · have HSF := Lib.hid (show out ++ wipesGo R (k + 1) (R.drop (k + 1)) = Q by have h := HST.out.1; rw [← HO0.out, ← HBQ.out] at h; simpa using h)
            go_wp2_with fail
            go_roundw
            case rel => exact ⟨k + 1, on, out, by omega, by go_num, Lib.hid ⟨HSF.out, HST.out.2⟩, by omega, HOi, hbi⟩
            case measure => simp [intOf]; omega
          · have HSF := Lib.hid (show (out ++ [((⟨at1, ak1, akey1, afin1, aval1, aex1, ⟨ap1, al1, aw1⟩, aov1⟩, .slice xo1 xn1 xc1) : Ro)]) ++ wipesGo R (k + 1) (R.drop (k + 1)) = Q by have h := HST.out.1; rw [← HO0.out, ← HBQ.out] at h; simpa using h)
            go_wp2_with (at_builtin; refine wpList_append_rows rfl (.tmp 51) (.tmp 56) rfl w.heap.size uu on _ rfl (HOi.out.alloc _) (some ⟨wr.heap.size, 0, none⟩) 1 1 [((⟨at1, ak1, akey1, afin1, aval1, aex1, ⟨ap1, al1, aw1⟩, aov1⟩, .slice xo1 xn1 xc1) : Ro)] rfl (one_row HXi.out) (by omega) (by simp; omega) ?_)
            intro v4 w4 hown4 hgr4
            have HO4 := Lib.hid (show w4.ownsRow w.heap.size 40 10 v4 (on + 1) ((out ++ [((⟨at1, ak1, akey1, afin1, aval1, aex1, ⟨ap1, al1, aw1⟩, aov1⟩, .slice xo1 xn1 xc1) : Ro)]).flatMap enM) by rw [List.flatMap_append]; exact hown4)
            have HB4 := Lib.hid ((hbi.out.alloc hsi _).grown hgr4 (by simp; omega) (fun k hk => (HOi.out.lt k hk).1))
            clear hown4 hgr4 c10 c11 c12 c13 c14 c15 c16 c17 c18 c19
            go_wp2_with fail
            go_roundw
            case rel => exact ⟨k + 1, on + 1, _, by omega, by go_num, Lib.hid ⟨HSF.out, by have := HST.out.2; simp; omega⟩, by omega, HO4, HB4⟩
            case measure => simp [intOf]; omega
    · obtain rfl : k = n := by omega
      have hQ2 : out = Q := by
        have h := hput.out.1
        rw [List.drop_of_length_le (by have := HN.out; omega)] at h
        simpa [wipesGo] using h
      have HQ2 := Lib.hid hQ2
      have HSUB := Lib.hid (show ∀ y ∈ Q, y ∈ R from fun y hy => by rw [HQ.out] at hy; exact wipes_mem R R 0 y hy)
      clear hQ2
      go_wp2_with fail
      go_ret
      refine ⟨u3, rfl, ⟨?_, fun y hy => (HV.out.over y (HSUB.out y hy)).below hb.out⟩, hb.out⟩
      rw [← HQ2.out]
      exact Lst.owned enM_len (by decide) hput.out.2 hown.out
end Go.Proofs.YtmjelcjdfamikaaGreatDoor.Mut

/- The walk of cenotaphref08.cells (layer 8). PRINTED by wip/genrefparts.py. -/
namespace Go.Proofs.YtmjelcjdfamikaaGreatDoor.Mut
open Go.RowKit Go.Sort Go.Proofs.YtmjelcjdfamikaaGreatDoor.Ord
set_option linter.unusedSectionVars false
variable [Inhabited Lim]

set_option maxHeartbeats 8000000 in
set_option maxRecDepth 100000 in
theorem refcells_any (v : Value) (R : List Ro) (w : World) (hv : MRow w v R) (hn : R.length ≤ 10000) :
    Calls Tryz.prog 22 #[v] w (RowP w (cellsRo R)) := by
  obtain ⟨ao, cap, rfl, -, -⟩ := hv.form
  obtain ⟨n, hN⟩ : ∃ n, n = R.length := ⟨_, rfl⟩
  rw [← hN] at hv hn ⊢
  obtain ⟨Q, hQ⟩ : ∃ Q, Q = cellsRo R := ⟨_, rfl⟩
  rw [← hQ]
  have HQ := Lib.hid hQ
  have HN := Lib.hid hN
  have HV := Lib.hid hv
  clear hN hv hQ
  go_enter Tryz.func22, Tryz.ntmps22
  go_wp2_with fail
  go_loopw [3, 4] (fun ov iv wr => ∃ (k : Nat) (acc : List Ro), k ≤ n ∧ iv = .int .i64 k ∧ Hid (cellsGo R acc (R.drop k) = Q ∧ acc.length ≤ k ∧ MRow wr ov acc) ∧ Hid (RowKit.Below w.heap.size w wr)) (fun _ iv _ => n - (intOf iv).toNat)
  case atStart => exact ⟨0, [], by omega, rfl, Lib.hid ⟨HQ.out.symm, by simp, MRow.nil w⟩, Lib.hid (Below.refl _ _)⟩
  case round =>
    obtain ⟨k, acc, hk, rfl, hacc, hb⟩ := hrel
    by_cases hlt : k < n
    · have hkr1 : k < R.length := by have := HN.out; omega
      obtain ⟨x1, hx1⟩ : ∃ x, R[k]? = some x := ⟨_, List.getElem?_eq_getElem hkr1⟩
      have hxe1 : R[k] = x1 := (List.getElem?_eq_some_iff.1 hx1).2
      have hxm1 := List.mem_of_getElem? hx1
      have hxo1 := (HV.out.below hb.out).over x1 hxm1
      obtain ⟨xb1, xoff1, hao1, hat1⟩ := (HV.out.below hb.out).at_ hx1
      cases hao1
      have hst : cellsGo R (if ownC R x1 (R.drop (k + 1)) then bkRo x1 false acc else acc) (R.drop (k + 1)) = Q := by rw [← hacc.out.1, List.drop_eq_getElem_cons hkr1, hxe1]; rfl
      have hlen := hacc.out.2.1
      obtain ⟨oo, oc, rfl, -, -⟩ := hacc.out.2.2.form
      have HBk := Lib.hid (fun (W : World) (hW : RowKit.Below wr.heap.size wr W) => bykey_any _ acc x1 W (hacc.out.2.2.below hW) (hxo1.below hW) (by omega))
      have HHit := Lib.hid (fun (W : World) (hW : RowKit.Below w.heap.size w W) => refhit_any _ R x1.1.key x1.1.at_ W (HV.out.below hW) (by have := HN.out; omega))
      have HST := Lib.hid hst
      have hM := A0.of (At.new wr 40 x1)
      have hW := (Below.refl _ wr).alloc (Nat.le_refl _) (.cells (enM x1).toArray 40)
      obtain ⟨W1, hW1⟩ : ∃ W1, W1 = wr.alloc (.cells (enM x1).toArray 40) := ⟨_, rfl⟩
      rw [← hW1] at hM hW
      have HM := Lib.hid hM
      have HWW := Lib.hid hW
      have HW1 := Lib.hid hW1
      clear hst hM hW hW1
      obtain ⟨xo1, xc1, ex1, -, -⟩ := Over.form hxo1
      clear hxe1 hxm1 hx1 hkr1
      have HXO1 := Lib.hid hxo1
      clear hxo1
      obtain ⟨⟨at1, ak1, akey1, afin1, aval1, aex1, ⟨ap1, al1, aw1⟩, aov1⟩, av1⟩ := x1
      simp only [] at ex1
      obtain ⟨xn1, hxn1⟩ : ∃ k, k = aov1.length := ⟨_, rfl⟩
      rw [← hxn1] at ex1
      subst ex1
      clear hxn1
      have HAT1 := Lib.hid hat1
      clear hat1
      unfold vM at HBk
      unfold enM at HW1
      simp only [] at HBk HHit HW1
      obtain ⟨H, hH⟩ : ∃ H, H = (R.map (·.1)).any (fun y => hitsB y akey1 ⟨ap1, al1, aw1⟩) := ⟨_, rfl⟩
      rw [← hH] at HHit
      obtain ⟨O0, hO0⟩ : ∃ O0, O0 = (isCB ⟨at1, ak1, akey1, afin1, aval1, aex1, ⟨ap1, al1, aw1⟩, aov1⟩ && !H) := ⟨_, rfl⟩
      have HST1 := Lib.hid (show cellsGo R (if (O0 && !(((R.drop (k + 1)).map (·.1)).any (sameK ⟨at1, ak1, akey1, afin1, aval1, aex1, ⟨ap1, al1, aw1⟩, aov1⟩))) then bkRo (⟨at1, ak1, akey1, afin1, aval1, aex1, ⟨ap1, al1, aw1⟩, aov1⟩, .slice xo1 xn1 xc1) false acc else acc) (R.drop (k + 1)) = Q by
        have h := HST.out
        unfold ownC at h
        simp only [] at h
        rw [← hH, ← hO0] at h
        exact h)
      have HO0 := Lib.hid hO0
      clear hO0 hH HST
      obtain ⟨hbl1, c10, c11, c12, c13, c14, c15, c16, c17, c18, c19⟩ := HAT1.out
      simp only [] at c10 c11 c12 c13 c14 c15 c16 c17 c18 c19
      obtain ⟨n0, hn0⟩ : ∃ n0, n0 = wr.heap.size := ⟨_, rfl⟩
      have hsw := hb.out.size
      have hlw : n0 < W1.heap.size := by have := HM.out.lt; omega
      have HB1 := Lib.hid (below_then hb.out (Nat.le_refl _) HWW.out)
      rw [← hn0] at HM
      have HN0 := Lib.hid hn0
      go_upto_region 6 with fail
      rw [← HW1.out, ← hn0]
      clear HW1 hn0 c10 c11 c12 c13 c14 c15 c16 c17 c18 c19 hbl1 HAT1
      go_cut [6] (fun c wx => c = .bool O0 ∧ Hid (RowKit.Below W1.heap.size W1 wx))
      case first =>
        obtain ⟨hml, m0, m1, m2, m3, m4, m5, m6, m7, m8, m9⟩ := HM.out
        simp only [] at m0 m1 m2 m3 m4 m5 m6 m7 m8 m9
        by_cases ht : at1 = 1
        · by_cases hk3 : ak1 = 3
          · have e0 : O0 = false := by rw [HO0.out]; unfold isCB; simp only []; rw [decide_eq_true hk3]; simp
            have q1 : (ak1 != 3) = false := by simp [hk3]
            have q2 : decide (ak1 = 3) = true := decide_eq_true hk3
            subst ht hk3
            go_wp2_with fail
            go_meet
            exact ⟨by rw [e0], Lib.hid (Below.refl _ _)⟩
          · have e0 : O0 = !H := by rw [HO0.out]; unfold isCB; simp only []; rw [decide_eq_true ht, decide_eq_false hk3]; simp
            have q1 : (ak1 != 3) = true := by simp [hk3]
            have q2 : decide (ak1 = 3) = false := decide_eq_false hk3
            have E0 := Lib.hid e0
            clear e0
            subst ht
            go_wp2_with fail
            refine (HHit.out _ HB1.out).mono ?_
            rintro e w2 ⟨rfl, hb2⟩
            have HB2 := Lib.hid hb2
            clear hb2
            go_wp2_with fail
            go_meet
            exact ⟨by rw [E0.out], HB2⟩
        · have e0 : O0 = false := by rw [HO0.out]; unfold isCB; simp only []; rw [decide_eq_false ht]; simp
          have q1 : (at1 == 1) = false := by simp [ht]
          have q2 : decide (at1 = 1) = false := decide_eq_false ht
          go_wp2_with fail
          go_meet
          exact ⟨by rw [e0], Lib.hid (Below.refl _ _)⟩
      case rest =>
        obtain ⟨rfl, hbc⟩ := hcut
        have k0 : (0 : Int) ≤ (k : Int) := by omega
        have k1 : (k : Int) < (n : Int) := by omega
        obtain ⟨wo, hwo⟩ : ∃ wo, wo = wc := ⟨_, rfl⟩
        rw [← hwo] at hbc ⊢
        clear hwo
        go_upto_block 8 with fail
        go_loopw [6, 7] (fun ov2 iv2 wi => ∃ (j : Nat) (b : Bool), k + 1 ≤ j ∧ j ≤ n ∧ iv2 = .int .i64 j ∧ ov2 = .bool b ∧ Hid ((b && !(((R.drop j).map (·.1)).any (sameK ⟨at1, ak1, akey1, afin1, aval1, aex1, ⟨ap1, al1, aw1⟩, aov1⟩))) = (O0 && !(((R.drop (k + 1)).map (·.1)).any (sameK ⟨at1, ak1, akey1, afin1, aval1, aex1, ⟨ap1, al1, aw1⟩, aov1⟩)))) ∧ Hid (RowKit.Below w.heap.size w wi ∧ RowKit.Below W1.heap.size W1 wi)) (fun _ iv2 _ => n - (intOf iv2).toNat)
        case atStart => exact ⟨k + 1, O0, by omega, by omega, by first | rfl | go_num, rfl, Lib.hid rfl, Lib.hid ⟨below_then HB1.out (Nat.le_refl _) hbc.out, hbc.out⟩⟩
        case round =>
          obtain ⟨j, b, hj1, hj, rfl, rfl, hst2, hwi⟩ := hrel
          have hbi := Lib.hid hwi.out.1
          have hbo := Lib.hid hwi.out.2
          clear hwi
          by_cases hlt2 : j < n
          · have hkr2 : j < R.length := by have := HN.out; omega
            obtain ⟨x2, hx2⟩ : ∃ x, R[j]? = some x := ⟨_, List.getElem?_eq_getElem hkr2⟩
            have hxe2 : R[j] = x2 := (List.getElem?_eq_some_iff.1 hx2).2
            have hxm2 := List.mem_of_getElem? hx2
            have hxo2 := (HV.out.below hbi.out).over x2 hxm2
            obtain ⟨xb2, xoff2, hao2, hat2⟩ := (HV.out.below hbi.out).at_ hx2
            cases hao2
            have hst3 : (b && !((isCB x2.1 && (x2.1.key.toList == akey1.toList)) || ((R.drop (j + 1)).map (·.1)).any (sameK ⟨at1, ak1, akey1, afin1, aval1, aex1, ⟨ap1, al1, aw1⟩, aov1⟩))) = (O0 && !(((R.drop (k + 1)).map (·.1)).any (sameK ⟨at1, ak1, akey1, afin1, aval1, aex1, ⟨ap1, al1, aw1⟩, aov1⟩))) := by rw [← hst2.out, List.drop_eq_getElem_cons hkr2, hxe2]; rfl
            clear hst2
            obtain ⟨xo2, xc2, ex2, -, -⟩ := Over.form hxo2
            clear hxe2 hxm2 hx2 hkr2
            have HXO2 := Lib.hid hxo2
            clear hxo2
            obtain ⟨⟨at2, ak2, akey2, afin2, aval2, aex2, ⟨ap2, al2, aw2⟩, aov2⟩, av2⟩ := x2
            simp only [] at ex2
            obtain ⟨xn2, hxn2⟩ : ∃ k, k = aov2.length := ⟨_, rfl⟩
            rw [← hxn2] at ex2
            subst ex2
            clear hxn2
            have HAT2 := Lib.hid hat2
            clear hat2
            obtain ⟨q, hq⟩ : ∃ q, (akey2.toList == akey1.toList) = q := ⟨_, rfl⟩
            rw [hq] at hst3
            have HST3 := Lib.hid hst3
            clear hst3
            obtain ⟨hml, m0, m1, m2, m3, m4, m5, m6, m7, m8, m9⟩ := (HM.out.below hbo.out)
            simp only [] at m0 m1 m2 m3 m4 m5 m6 m7 m8 m9
            obtain ⟨hbl2, c20, c21, c22, c23, c24, c25, c26, c27, c28, c29⟩ := HAT2.out
            simp only [] at c20 c21 c22 c23 c24 c25 c26 c27 c28 c29
            have j0 : (0 : Int) ≤ (j : Int) := by omega
            have j1 : (j : Int) < (n : Int) := by omega
            have hmw : n0 < wr.heap.size := Nat.lt_of_lt_of_le hlw hbo.out.size
            by_cases ht2 : at2 = 1
            · by_cases hk2 : ak2 = 3
              · have HST2 := Lib.hid (show (b && !(((R.drop (j + 1)).map (·.1)).any (sameK ⟨at1, ak1, akey1, afin1, aval1, aex1, ⟨ap1, al1, aw1⟩, aov1⟩))) = (O0 && !(((R.drop (k + 1)).map (·.1)).any (sameK ⟨at1, ak1, akey1, afin1, aval1, aex1, ⟨ap1, al1, aw1⟩, aov1⟩))) by have h := HST3.out; rw [show isCB ⟨at2, ak2, akey2, afin2, aval2, aex2, ⟨ap2, al2, aw2⟩, aov2⟩ = false by unfold isCB; simp only []; rw [decide_eq_true hk2]; simp] at h; simpa using h)
                have q1 : (ak2 != 3) = false := by simp [hk2]
                have q2 : decide (ak2 = 3) = true := decide_eq_true hk2
                subst ht2 hk2
                go_wp2_with fail
                refine wp_region_calm (by kernel_rfl) (by kernel_rfl) ?_
                repeat (go_big_quiet_step (fail))
                refine wpQuiet_nil ?_
                rintro _ ⟨y, rfl⟩
                have HF := Lib.hid (show RowKit.Below w.heap.size w y.at ∧ RowKit.Below W1.heap.size W1 y.at from ⟨below_then hbi.out (Nat.le_refl _) y.below, below_then hbo.out (Nat.le_refl _) y.below⟩)
                clear c20 c21 c22 c23 c24 c25 c26 c27 c28 c29 m0 m1 m2 m3 m4 m5 m6 m7 m8 m9
                go_wp2_with fail
                go_roundw
                case rel => exact ⟨j + 1, b, by omega, by omega, by go_num, rfl, HST2, HF⟩
                case measure => simp [intOf]; omega
              have q1 : (ak2 != 3) = true := by simp [hk2]
              have q2 : decide (ak2 = 3) = false := decide_eq_false hk2
              have hcb : isCB ⟨at2, ak2, akey2, afin2, aval2, aex2, ⟨ap2, al2, aw2⟩, aov2⟩ = true := by unfold isCB; simp only []; rw [decide_eq_true ht2, decide_eq_false hk2]; rfl
              cases q
              · have HST2 := Lib.hid (show (b && !(((R.drop (j + 1)).map (·.1)).any (sameK ⟨at1, ak1, akey1, afin1, aval1, aex1, ⟨ap1, al1, aw1⟩, aov1⟩))) = (O0 && !(((R.drop (k + 1)).map (·.1)).any (sameK ⟨at1, ak1, akey1, afin1, aval1, aex1, ⟨ap1, al1, aw1⟩, aov1⟩))) by have h := HST3.out; rw [hcb] at h; simpa using h)
                clear hcb
                subst ht2
                go_wp2_with fail
                refine wp_region_calm (by kernel_rfl) (by kernel_rfl) ?_
                repeat (go_big_quiet_step (fail))
                refine wpQuiet_nil ?_
                rintro _ ⟨y, rfl⟩
                have HF := Lib.hid (show RowKit.Below w.heap.size w y.at ∧ RowKit.Below W1.heap.size W1 y.at from ⟨below_then hbi.out (Nat.le_refl _) y.below, below_then hbo.out (Nat.le_refl _) y.below⟩)
                clear c20 c21 c22 c23 c24 c25 c26 c27 c28 c29 m0 m1 m2 m3 m4 m5 m6 m7 m8 m9
                go_wp2_with fail
                go_roundw
                case rel => exact ⟨j + 1, b, by omega, by omega, by go_num, rfl, HST2, HF⟩
                case measure => simp [intOf]; omega
              · have HST2 := Lib.hid (show (false && !(((R.drop (j + 1)).map (·.1)).any (sameK ⟨at1, ak1, akey1, afin1, aval1, aex1, ⟨ap1, al1, aw1⟩, aov1⟩))) = (O0 && !(((R.drop (k + 1)).map (·.1)).any (sameK ⟨at1, ak1, akey1, afin1, aval1, aex1, ⟨ap1, al1, aw1⟩, aov1⟩))) by have h := HST3.out; rw [hcb] at h; simpa using h)
                clear hcb
                subst ht2
                go_wp2_with fail
                refine wp_region_calm (by kernel_rfl) (by kernel_rfl) ?_
                repeat (go_big_quiet_step (fail))
                refine wpQuiet_nil ?_
                rintro _ ⟨y, rfl⟩
                have HF := Lib.hid (show RowKit.Below w.heap.size w y.at ∧ RowKit.Below W1.heap.size W1 y.at from ⟨below_then hbi.out (Nat.le_refl _) y.below, below_then hbo.out (Nat.le_refl _) y.below⟩)
                clear c20 c21 c22 c23 c24 c25 c26 c27 c28 c29 m0 m1 m2 m3 m4 m5 m6 m7 m8 m9
                go_wp2_with fail
                go_roundw
                case rel => exact ⟨j + 1, false, by omega, by omega, by go_num, rfl, HST2, HF⟩
                case measure => simp [intOf]; omega
            · have HST2 := Lib.hid (show (b && !(((R.drop (j + 1)).map (·.1)).any (sameK ⟨at1, ak1, akey1, afin1, aval1, aex1, ⟨ap1, al1, aw1⟩, aov1⟩))) = (O0 && !(((R.drop (k + 1)).map (·.1)).any (sameK ⟨at1, ak1, akey1, afin1, aval1, aex1, ⟨ap1, al1, aw1⟩, aov1⟩))) by have h := HST3.out; rw [show isCB ⟨at2, ak2, akey2, afin2, aval2, aex2, ⟨ap2, al2, aw2⟩, aov2⟩ = false by unfold isCB; simp only []; rw [decide_eq_false ht2]; simp] at h; simpa using h)
              have q1 : (at2 == 1) = false := by simp [ht2]
              have q2 : decide (at2 = 1) = false := decide_eq_false ht2
              go_wp2_with fail
              refine wp_region_calm (by kernel_rfl) (by kernel_rfl) ?_
              repeat (go_big_quiet_step (fail))
              refine wpQuiet_nil ?_
              rintro _ ⟨y, rfl⟩
              have HF := Lib.hid (show RowKit.Below w.heap.size w y.at ∧ RowKit.Below W1.heap.size W1 y.at from ⟨below_then hbi.out (Nat.le_refl _) y.below, below_then hbo.out (Nat.le_refl _) y.below⟩)
              clear c20 c21 c22 c23 c24 c25 c26 c27 c28 c29 m0 m1 m2 m3 m4 m5 m6 m7 m8 m9
              go_wp2_with fail
              go_roundw
              case rel => exact ⟨j + 1, b, by omega, by omega, by go_num, rfl, HST2, HF⟩
              case measure => simp [intOf]; omega
          · obtain rfl : j = n := by omega
            have hbq : b = (O0 && !(((R.drop (k + 1)).map (·.1)).any (sameK ⟨at1, ak1, akey1, afin1, aval1, aex1, ⟨ap1, al1, aw1⟩, aov1⟩))) := by
              have h := hst2.out
              rw [List.drop_of_length_le (show R.length ≤ j by have := HN.out; omega)] at h
              simpa using h
            have HBQ := Lib.hid hbq
            clear hbq hst2
            obtain ⟨hml, m0, m1, m2, m3, m4, m5, m6, m7, m8, m9⟩ := (HM.out.below hbo.out)
            simp only [] at m0 m1 m2 m3 m4 m5 m6 m7 m8 m9
            have hb0 := Lib.hid (show RowKit.Below wo.heap.size wo wo from Below.refl _ _)
            have hacc2 := hacc
            have HBr := Lib.hid (below_then HWW.out (Nat.le_refl _) hbo.out)
            cases b
            · have HSF := Lib.hid (show cellsGo R acc (R.drop (k + 1)) = Q by have h := HST1.out; rw [← HBQ.out] at h; simpa using h)
              go_wp2_with fail
              go_roundw
              case rel => exact ⟨k + 1, acc, by omega, by go_num, Lib.hid ⟨HSF.out, by omega, hacc.out.2.2.below HBr.out⟩, hbi⟩
              case measure => simp [intOf]; omega
            · have HSF := Lib.hid (show cellsGo R (bkRo (⟨at1, ak1, akey1, afin1, aval1, aex1, ⟨ap1, al1, aw1⟩, aov1⟩, .slice xo1 xn1 xc1) false acc) (R.drop (k + 1)) = Q by have h := HST1.out; rw [← HBQ.out] at h; simpa using h)
              go_wp2_with fail
              refine (HBk.out _ HBr.out).mono ?_
              rintro e w4 ⟨v4, rfl, hr4, hb4⟩
              have HR4 := Lib.hid hr4
              have HB4 := Lib.hid (below_then hbi.out (Nat.le_refl _) hb4)
              clear hr4 hb4 m0 m1 m2 m3 m4 m5 m6 m7 m8 m9
              go_wp2_with fail
              go_roundw
              case rel => exact ⟨k + 1, _, by omega, by go_num, Lib.hid ⟨HSF.out, by rw [bkRo_len]; omega, HR4.out⟩, HB4⟩
              case measure => simp [intOf]; omega
    · obtain rfl : k = n := by omega
      have HR := Lib.hid (show MRow wr u3 Q by
        have h := hacc.out.1
        rw [List.drop_of_length_le (by have := HN.out; omega)] at h
        rw [← h]; exact hacc.out.2.2)
      go_wp2_with fail
      go_ret
      exact ⟨_, rfl, HR.out, hb.out⟩
end Go.Proofs.YtmjelcjdfamikaaGreatDoor.Mut

/- What the reference's parts of a content are (layer 8), in plain Lean: the parts of what is left. -/
namespace Go.Proofs.YtmjelcjdfamikaaGreatDoor.Mut
open Go.Proofs.YtmjelcjdfamikaaGreatDoor.Ord
set_option linter.unusedSectionVars false
variable [Inhabited Lim]

/-- The parts, by definition. -/
structure Says (S : Mu → Prop) (a b d : List Mu) : Prop where
  fit : ∀ m, S m → Fit m
  cells : ∀ m, m ∈ a ↔ S m ∧ isC m ∧ (∀ w, S w → ¬ hits w m.key m.at_) ∧ ∀ y, S y → isC y → y.key = m.key → ¬ muC m y < 0
  wipes : ∀ m, m ∈ b ↔ S m ∧ isW m ∧ ∀ y, S y → isW y → within y m → y = m
  sibs : ∀ m, m ∈ d ↔ S m ∧ isS m
  rc : Rises keyC a
  rw_ : Rises muC b
  rs : Rises sibC d
theorem keyC_unique {l m : List Mu} (h1 : Rises keyC l) (h2 : Rises keyC m) (e : ∀ x, x ∈ l ↔ x ∈ m) : l = m := by
  induction l generalizing m with
  | nil =>
    cases m with
    | nil => rfl
    | cons y m => exact absurd ((e y).2 (by simp)) (by simp)
  | cons x l ih =>
    cases m with
    | nil => exact absurd ((e x).1 (by simp)) (by simp)
    | cons y m =>
      obtain ⟨hx, h1'⟩ := List.pairwise_cons.1 h1
      obtain ⟨hy, h2'⟩ := List.pairwise_cons.1 h2
      have exy : x = y := by
        rcases List.mem_cons.1 ((e x).1 (by simp)) with g1 | g1
        · exact g1
        · rcases List.mem_cons.1 ((e y).2 (by simp)) with g2 | g2
          · exact g2.symm
          · exact absurd (hx y g2) (Tot.str.asymm (hy x g1))
      subst exy
      refine congrArg (x :: ·) (ih h1' h2' fun z => ?_)
      constructor
      · intro hz
        rcases List.mem_cons.1 ((e z).1 (List.mem_cons_of_mem _ hz)) with g | g
        · subst g; exact absurd (hx z hz) (Tot.str.irrefl _)
        · exact g
      · intro hz
        rcases List.mem_cons.1 ((e z).2 (List.mem_cons_of_mem _ hz)) with g | g
        · subst g; exact absurd (hy z hz) (Tot.str.irrefl _)
        · exact g
theorem Says.eq {S : Mu → Prop} {c : Con} {a b d : List Mu} (h : Reps S c) (g : Says S a b d) : c = ⟨a, b, d⟩ := by
  have hitW : ∀ w, S w → ∀ key s, hits w key s → ∃ z ∈ c.wipes, hits z key s := by
    intro w sw key s hh
    have kw : w.kind = 3 := hh.1.1
    have ww : isW w := ⟨by have := ((h.fit w sw).wipe kw).1; omega, kw⟩
    obtain ⟨z, hz, hzw⟩ := h.domW w sw ww
    exact ⟨z, hz, hits_within (h.wipes z hz).2.2 hzw hh⟩
  have ew : c.wipes = b := Rises.unique muO h.rw_ g.rw_ fun m => by
    rw [g.wipes]
    constructor
    · intro hm
      obtain ⟨sm, wm⟩ := h.wipes m hm
      refine ⟨sm, wm, fun y sy wy hy => ?_⟩
      obtain ⟨z, hz, hzy⟩ := h.domW y sy wy
      obtain rfl := h.alone z hz m hm (within_trans hzy hy)
      exact within_anti (h.fit _ sy) (h.fit _ sm) wy wm hy hzy
    · rintro ⟨sm, wm, hall⟩
      obtain ⟨z, hz, hzm⟩ := h.domW m sm wm
      obtain ⟨sz, wz⟩ := h.wipes z hz
      rw [← hall z sz wz hzm]; exact hz
  have ec : c.cells = a := keyC_unique h.rc g.rc fun m => by
    rw [g.cells]
    constructor
    · intro hm
      obtain ⟨sm, cm⟩ := h.cells m hm
      refine ⟨sm, cm, fun w sw hh => ?_, fun y sy cy ey hlt => ?_⟩
      · obtain ⟨z, hz, hzh⟩ := hitW w sw _ _ hh
        exact h.free m hm z hz hzh
      · rcases h.domC y sy cy with ⟨y', hy', e1, h1⟩ | ⟨w, hw, h1⟩
        · obtain rfl := keys_one h.rc hy' hm (e1.trans ey)
          exact absurd (muO.le_lt h1 hlt) (muO.irrefl _)
        · rw [ey] at h1
          exact h.free m hm w hw (hits_early h1 (muC_at (by omega)))
    · rintro ⟨sm, cm, hh, hall⟩
      rcases h.domC m sm cm with ⟨y, hy, e1, h1⟩ | ⟨w, hw, h1⟩
      · obtain ⟨sy, cy⟩ := h.cells y hy
        have h2 := hall y sy cy e1
        have : m = y := muO.anti h1 (muO.le_of.1 h2)
        rw [this]; exact hy
      · exact absurd h1 (hh w (h.wipes w hw).1)
  have es : c.sibs = d := Rises.unique sibO h.rs g.rs fun m => (h.sibs m).trans (g.sibs m).symm
  cases c
  simp only at ew ec es
  rw [ew, ec, es]

/-! The walks' lists say so. -/
theorem sib_key {a b : Mu} (h : cmpS a.key b.key < 0) : sibC a b < 0 := by
  unfold sibC orL
  rw [if_neg (by omega)]; exact h
theorem sib_same {a b : Mu} (e : a.key = b.key) (h : muC a b < 0) : sibC a b < 0 := by
  unfold sibC orL
  rw [if_pos (by rw [e, Tot.str.self])]
  unfold orL
  rw [if_neg (by omega)]; exact h
theorem isSB_iff (m : Mu) : isSB m = true ↔ isS m := by unfold isSB isS; simp
theorem isCB_iff {m : Mu} (hf : Fit m) : isCB m = true ↔ isC m := by
  unfold isCB isC
  have := hf.table
  simp only [Bool.and_eq_true, decide_eq_true_eq, Bool.not_eq_true', decide_eq_false_iff_not]
  constructor
  · rintro ⟨h1, h2⟩; exact ⟨by omega, h2⟩
  · rintro ⟨h1, h2⟩; exact ⟨by omega, h2⟩
theorem sibsGo_spec : ∀ (t acc : List Ro), Rises sibC (acc.map (·.1)) → Rises muC (t.map (·.1)) → (∀ y ∈ acc, ∀ x ∈ t, muC y.1 x.1 < 0) →
    Rises sibC ((sibsGo acc t).map (·.1)) ∧ ∀ m, m ∈ (sibsGo acc t).map (·.1) ↔ m ∈ acc.map (·.1) ∨ (m ∈ t.map (·.1) ∧ isS m) := by
  intro t
  induction t with
  | nil => intro acc h1 _ _; exact ⟨h1, fun m => by simp [sibsGo]⟩
  | cons x t ih =>
    intro acc h1 h2 h3
    obtain ⟨hx, ht⟩ := List.pairwise_cons.1 (show (x.1 :: t.map (·.1)).Pairwise _ from h2)
    rw [sibsGo]
    cases hs : isSB x.1
    · obtain ⟨i1, i2⟩ := ih acc h1 ht (fun y hy z hz => h3 y hy z (List.mem_cons_of_mem _ hz))
      have hn : ¬ isS x.1 := fun h => by rw [(isSB_iff _).2 h] at hs; cases hs
      refine ⟨i1, fun m => (i2 m).trans (or_congr Iff.rfl ?_)⟩
      rw [List.map_cons, List.mem_cons]
      constructor
      · rintro ⟨h, h4⟩; exact ⟨Or.inr h, h4⟩
      · rintro ⟨rfl | h, h4⟩
        · exact absurd h4 hn
        · exact ⟨h, h4⟩
    · have hy : isS x.1 := (isSB_iff _).1 hs
      obtain ⟨i1, i2⟩ := ih (bkRo x false acc) (bkRo_rises sibC (fun a b d => sibO.trans a b d) (fun a b => sib_key) x acc h1 (fun y hy e => sib_same e (h3 y hy x (by simp)))) ht (fun y hy z hz => by
        rcases bkRo_mem x acc false y hy with h | rfl
        · exact h3 y h z (List.mem_cons_of_mem _ hz)
        · exact hx z.1 (List.mem_map.2 ⟨z, hz, rfl⟩))
      refine ⟨i1, fun m => (i2 m).trans ?_⟩
      rw [bkRo_mem_iff, List.map_cons, List.mem_cons]
      constructor
      · rintro ((h | rfl) | ⟨h, h4⟩)
        · exact Or.inl h
        · exact Or.inr ⟨Or.inl rfl, hy⟩
        · exact Or.inr ⟨Or.inr h, h4⟩
      · rintro (h | ⟨rfl | h, h4⟩)
        · exact Or.inl (Or.inl h)
        · exact Or.inl (Or.inr rfl)
        · exact Or.inr ⟨h, h4⟩

def OwnC (all : List Ro) (m : Mu) : Prop := isCB m = true ∧ ((all.map (·.1)).any fun y => hitsB y m.key m.at_) = false ∧ ∀ y ∈ all.map (·.1), isCB y = true → y.key = m.key → ¬ muC m y < 0
theorem ownC_iff {all pre t : List Ro} {x : Ro} (e : all = pre ++ x :: t) (h : Rises muC (all.map (·.1))) : ownC all x t = true ↔ OwnC all x.1 := by
  have h' := h
  rw [e, List.map_append, List.map_cons] at h'
  unfold Rises at h'
  obtain ⟨-, h2, h3⟩ := List.pairwise_append.1 h'
  obtain ⟨h4, -⟩ := List.pairwise_cons.1 h2
  unfold ownC OwnC
  rw [Bool.and_eq_true, Bool.and_eq_true, Bool.not_eq_true', Bool.not_eq_true', and_assoc]
  refine and_congr Iff.rfl (and_congr Iff.rfl ?_)
  rw [List.any_eq_false]
  constructor
  · intro ha y hy cy ey hlt
    rw [e, List.map_append, List.map_cons] at hy
    rcases List.mem_append.1 hy with hy | hy
    · exact muO.asymm (h3 y hy x.1 (by simp)) hlt
    · rcases List.mem_cons.1 hy with rfl | hy
      · exact muO.irrefl _ hlt
      · refine ha y hy ?_
        unfold sameK
        rw [cy, ey]; simp
  · intro ha y hy hs
    unfold sameK at hs
    rw [Bool.and_eq_true] at hs
    have ek : y.key = x.1.key := bytes_ext (by simpa using hs.2)
    exact ha y (by rw [e, List.map_append, List.map_cons]; exact List.mem_append_right _ (List.mem_cons_of_mem _ hy)) hs.1 ek (h4 y hy)
theorem cellsGo_spec (all : List Ro) (h : Rises muC (all.map (·.1))) : ∀ (t pre acc : List Ro), all = pre ++ t → Rises keyC (acc.map (·.1)) → (∀ m, m ∈ acc.map (·.1) ↔ m ∈ pre.map (·.1) ∧ OwnC all m) →
    Rises keyC ((cellsGo all acc t).map (·.1)) ∧ ∀ m, m ∈ (cellsGo all acc t).map (·.1) ↔ m ∈ all.map (·.1) ∧ OwnC all m := by
  intro t
  induction t with
  | nil => intro pre acc e h1 h2; rw [List.append_nil] at e; subst e; exact ⟨h1, h2⟩
  | cons x t ih =>
    intro pre acc e h1 h2
    rw [cellsGo]
    have hiff := ownC_iff e h
    have e' : all = (pre ++ [x]) ++ t := by rw [e]; simp
    cases ho : ownC all x t
    · have hn : ¬ OwnC all x.1 := fun hh => by rw [hiff.2 hh] at ho; cases ho
      refine ih (pre ++ [x]) acc e' h1 (fun m => (h2 m).trans ?_)
      rw [List.map_append, List.mem_append]
      constructor
      · rintro ⟨a, b⟩; exact ⟨Or.inl a, b⟩
      · rintro ⟨a | a, b⟩
        · exact ⟨a, b⟩
        · simp at a; subst a; exact absurd b hn
    · have hy := hiff.1 ho
      refine ih (pre ++ [x]) (bkRo x false acc) e' ?_ (fun m => ?_)
      · refine bkRo_rises keyC (fun a b d h1 h2 => Tot.str.trans _ _ _ h1 h2) (fun a b h => h) x acc h1 (fun y hy2 ek => ?_)
        exfalso
        obtain ⟨hp, ho2⟩ := (h2 y.1).1 (List.mem_map.2 ⟨y, hy2, rfl⟩)
        have h' := h
        rw [e, List.map_append, List.map_cons] at h'
        unfold Rises at h'
        obtain ⟨-, -, h3⟩ := List.pairwise_append.1 h'
        refine ho2.2.2 x.1 ?_ hy.1 ek.symm (h3 y.1 hp x.1 (by simp))
        rw [e, List.map_append, List.map_cons]
        exact List.mem_append_right _ (by simp)
      · rw [bkRo_mem_iff, h2, List.map_append, List.mem_append]
        constructor
        · rintro (⟨a, b⟩ | rfl)
          · exact ⟨Or.inl a, b⟩
          · exact ⟨Or.inr (by simp), hy⟩
        · rintro ⟨a | a, b⟩
          · exact Or.inl ⟨a, b⟩
          · simp at a; exact Or.inr a

theorem anyW_spec (x : Mu) (i : Nat) : ∀ (t : List Ro) (k : Nat), anyW x i k t = true ↔ ∃ j y, t[j]? = some y ∧ k + j ≠ i ∧ y.1.kind = 3 ∧ withinB y.1 x = true := by
  intro t
  induction t with
  | nil => intro k; simp [anyW]
  | cons z t ih =>
    intro k
    rw [anyW, Bool.or_eq_true, Bool.and_eq_true, Bool.and_eq_true, Bool.not_eq_true', decide_eq_false_iff_not, decide_eq_true_iff, ih]
    constructor
    · rintro (⟨h1, h2, h3⟩ | ⟨j, y, h1, h2, h3⟩)
      · exact ⟨0, z, rfl, by omega, h2, h3⟩
      · exact ⟨j + 1, y, by simpa using h1, by omega, h3⟩
    · rintro ⟨j, y, h1, h2, h3⟩
      cases j with
      | zero =>
        simp at h1
        subst h1
        exact Or.inl ⟨by omega, h3⟩
      | succ j => exact Or.inr ⟨j, y, by simpa using h1, by omega, h3⟩
def OwnW (all : List Ro) (m : Mu) : Prop := m.kind = 3 ∧ ∀ y ∈ all.map (·.1), y.kind = 3 → within y m → y = m
theorem ownW_iff {all pre t : List Ro} {x : Ro} (e : all = pre ++ x :: t) (h : Rises muC (all.map (·.1))) : ownW all x pre.length = true ↔ OwnW all x.1 := by
  unfold ownW OwnW
  rw [Bool.and_eq_true, decide_eq_true_iff, Bool.not_eq_true']
  refine and_congr Iff.rfl ?_
  have hx : all[pre.length]? = some x := by rw [e]; simp
  have hnd := rises_nodup muO h
  constructor
  · intro ha y hy ky hw
    obtain ⟨z, hz, rfl⟩ := List.mem_map.1 hy
    obtain ⟨j, hj, ej⟩ := List.mem_iff_getElem.1 hz
    by_cases hji : j = pre.length
    · rw [← hji] at hx
      rw [List.getElem?_eq_getElem hj, ej] at hx
      injection hx with hx
      rw [hx]
    · exfalso
      have := (anyW_spec x.1 pre.length all 0).2 ⟨j, z, by rw [List.getElem?_eq_getElem hj, ej], by omega, ky, (within_iff _ _).1 hw⟩
      rw [ha] at this; cases this
  · intro ha
    cases hb : anyW x.1 pre.length 0 all with
    | false => rfl
    | true =>
      obtain ⟨j, y, hj, hne, ky, hw⟩ := (anyW_spec x.1 pre.length all 0).1 hb
      have hy := ha y.1 (List.mem_map.2 ⟨y, List.mem_of_getElem? hj, rfl⟩) ky ((within_iff _ _).2 hw)
      exfalso
      have hjl := (List.getElem?_eq_some_iff.1 hj).1
      have hil := (List.getElem?_eq_some_iff.1 hx).1
      have e1 : (all.map (·.1))[j]? = some x.1 := by rw [List.getElem?_map, hj]; exact congrArg some hy
      have e2 : (all.map (·.1))[pre.length]? = some x.1 := by rw [List.getElem?_map, hx]; rfl
      have := (List.getElem?_inj (by simpa using hjl) hnd).1 (e1.trans e2.symm)
      omega
theorem wipesGo_spec (all : List Ro) (h : Rises muC (all.map (·.1))) : ∀ (t pre : List Ro), all = pre ++ t →
    ((wipesGo all pre.length t).map (·.1)).Sublist (t.map (·.1)) ∧ ∀ m, m ∈ (wipesGo all pre.length t).map (·.1) ↔ m ∈ t.map (·.1) ∧ OwnW all m := by
  intro t
  induction t with
  | nil => intro pre e; exact ⟨List.Sublist.refl _, fun m => by simp [wipesGo]⟩
  | cons x t ih =>
    intro pre e
    have hiff := ownW_iff e h
    have e' : all = (pre ++ [x]) ++ t := by rw [e]; simp
    obtain ⟨i1, i2⟩ := ih (pre ++ [x]) e'
    rw [show (pre ++ [x]).length = pre.length + 1 by simp] at i1 i2
    rw [wipesGo]
    cases ho : ownW all x pre.length
    · have hn : ¬ OwnW all x.1 := fun hh => by rw [hiff.2 hh] at ho; cases ho
      refine ⟨i1.cons _, fun m => (i2 m).trans ?_⟩
      rw [List.map_cons, List.mem_cons]
      constructor
      · rintro ⟨a, b⟩; exact ⟨Or.inr a, b⟩
      · rintro ⟨rfl | a, b⟩
        · exact absurd b hn
        · exact ⟨a, b⟩
    · have hy := hiff.1 ho
      refine ⟨i1.cons_cons _, fun m => ?_⟩
      show m ∈ x.1 :: (wipesGo all (pre.length + 1) t).map (·.1) ↔ _
      rw [List.mem_cons, i2, List.map_cons, List.mem_cons]
      constructor
      · rintro (rfl | ⟨a, b⟩)
        · exact ⟨Or.inl rfl, hy⟩
        · exact ⟨Or.inr a, b⟩
      · rintro ⟨rfl | a, b⟩
        · exact Or.inl rfl
        · exact Or.inr ⟨a, b⟩

/-- The reference's content of a rising row: what is left. -/
theorem says_of {S : Mu → Prop} {A : List Ro} (hf : ∀ m, S m → Fit m) (h : Rises muC (A.map (·.1))) (hm : ∀ m, m ∈ A.map (·.1) ↔ S m) : Says S ((cellsRo A).map (·.1)) ((wipesRo A).map (·.1)) ((sibsRo A).map (·.1)) := by
  obtain ⟨c1, c2⟩ := cellsGo_spec A h A [] [] rfl List.Pairwise.nil (by simp)
  obtain ⟨w1, w2⟩ := wipesGo_spec A h A [] rfl
  obtain ⟨s1, s2⟩ := sibsGo_spec A [] List.Pairwise.nil h (by simp)
  refine ⟨hf, fun m => ?_, fun m => ?_, fun m => ?_, c1, ?_, s1⟩
  · refine (c2 m).trans ?_
    rw [hm]
    constructor
    · rintro ⟨sm, h1, h2, h3⟩
      refine ⟨sm, (isCB_iff (hf m sm)).1 h1, fun w sw hh => ?_, fun y sy cy ey => h3 y ((hm y).2 sy) ((isCB_iff (hf y sy)).2 cy) ey⟩
      exact absurd ((hits_iff _ _ _).1 hh) (by simpa using List.any_eq_false.1 h2 w ((hm w).2 sw))
    · rintro ⟨sm, h1, h2, h3⟩
      refine ⟨sm, (isCB_iff (hf m sm)).2 h1, List.any_eq_false.2 fun w hw hh => h2 w ((hm w).1 hw) ((hits_iff _ _ _).2 hh), fun y hy cy ey => ?_⟩
      have sy := (hm y).1 hy
      exact h3 y sy ((isCB_iff (hf y sy)).1 cy) ey
  · refine (w2 m).trans ?_
    rw [hm]
    constructor
    · rintro ⟨sm, h1, h2⟩
      have t1 := ((hf m sm).wipe h1).1
      exact ⟨sm, ⟨by omega, h1⟩, fun y sy wy hy => h2 y ((hm y).2 sy) wy.2 hy⟩
    · rintro ⟨sm, h1, h2⟩
      refine ⟨sm, h1.2, fun y hy ky hw => ?_⟩
      have sy := (hm y).1 hy
      have t1 := ((hf y sy).wipe ky).1
      exact h2 y sy ⟨by omega, ky⟩ hw
  · refine (s2 m).trans ?_
    rw [hm]
    simp
  · exact List.Pairwise.sublist w1 h
end Go.Proofs.YtmjelcjdfamikaaGreatDoor.Mut

/- The walk of cenotaphref08.Of (layer 8). -/
namespace Go.Proofs.YtmjelcjdfamikaaGreatDoor.Mut
open Go.RowKit Go.Sort Go.Proofs.YtmjelcjdfamikaaGreatDoor.Ord
set_option linter.unusedSectionVars false
variable [Inhabited Lim]

theorem C3.newR (w : World) (a b d : Value) : C3 (w.alloc (.cells #[a, b, d] 29)) w.heap.size a b d :=
  ⟨by simp, by go_simp, by go_simp, by go_simp, by go_simp, by go_simp, by go_simp⟩
/-- The reference's content comes back. -/
def LeftP (w : World) (S : Mu → Prop) (e : Ending) (w' : World) : Prop :=
  ∃ a b d c, e = .returned (.agg #[a, b, d]) ∧ Lies w' a b d c ∧ Says S c.cells c.wipes c.sibs ∧ (∀ m ∈ c.all, Small m) ∧ RowKit.Below w.heap.size w w'
theorem fits_fit {l : List Mu} : ∀ m, Fits l m → Fit m := fun _ h => fit_of h.2
theorem fits_says (R : List Ro) : Says (Fits (R.map (·.1))) ((cellsRo (setRo R)).map (·.1)) ((wipesRo (setRo R)).map (·.1)) ((sibsRo (setRo R)).map (·.1)) :=
  says_of fits_fit (setRo_spec R).1 (setRo_spec R).2.1
theorem says_small {l : List Mu} {a b d : List Mu} (h : Says (Fits l) a b d) : ∀ m ∈ (⟨a, b, d⟩ : Con).all, Small m := by
  intro m hm
  unfold Con.all at hm
  simp only [List.mem_append] at hm
  refine small_right (?_ : Fits l m).2
  rcases hm with hm | hm | hm
  all_goals first | exact ((h.cells m).1 hm).1 | exact ((h.wipes m).1 hm).1 | exact ((h.sibs m).1 hm).1

set_option maxHeartbeats 4000000 in
set_option maxRecDepth 100000 in
theorem refof_any (v : Value) (R : List Ro) (w : World) (hT : Tabs w) (hv : MRow w v R) (hs : ∀ x ∈ R, Small x.1) (hn : R.length ≤ 10000) :
    Calls Tryz.prog 9 #[v] w (LeftP w (Fits (R.map (·.1)))) := by
  obtain ⟨ao, cap, rfl, -, -⟩ := hv.form
  have HSet := Lib.hid (fun (W : World) (hW : RowKit.Below w.heap.size w W) => refset_any _ R W (hT.below hW) (hv.below hW) hs hn)
  have hsy := fits_says R
  obtain ⟨n, hN⟩ : ∃ n, n = R.length := ⟨_, rfl⟩
  obtain ⟨Q, hQ⟩ : ∃ Q, Q = setRo R := ⟨_, rfl⟩
  have hql : Q.length ≤ 10000 := by rw [hQ]; exact Nat.le_trans (setRo_spec R).2.2 hn
  rw [← hQ] at HSet hsy
  rw [← hN] at HSet ⊢
  have HY := Lib.hid hsy
  have HQL := Lib.hid hql
  clear hsy hql hQ hN hT hv hs hn
  go_enter Tryz.func9, Tryz.ntmps9
  go_wp2_with fail
  have hB := (Below.refl w.heap.size w).alloc (Nat.le_refl _) (.cells #[.slice none 0 0, .slice none 0 0, .slice none 0 0] 29)
  have hC := C3.newR w (.slice none 0 0) (.slice none 0 0) (.slice none 0 0)
  have HB0 := Lib.hid hB
  have HC0 := Lib.hid hC
  clear hB hC
  refine (HSet.out _ HB0.out).mono ?_
  rintro e w1 ⟨v1, rfl, hr1, hb1⟩
  obtain ⟨o1, c1, rfl, -, -⟩ := hr1.form
  obtain ⟨m1, hm1⟩ : ∃ m1, m1 = Q.length := ⟨_, rfl⟩
  rw [← hm1] at hr1 ⊢
  have HR1 := Lib.hid hr1
  have HB1 := Lib.hid (below_then HB0.out (Nat.le_refl _) hb1)
  have HC1 := Lib.hid (HC0.out.below hb1)
  clear hr1 hb1 hm1
  go_wp2_with fail
  refine (refwipes_any _ Q w1 HR1.out HQL.out).mono ?_
  rintro e w2 ⟨v2, rfl, hr2, hb2⟩
  have HR2 := Lib.hid hr2
  have HR12 := Lib.hid (HR1.out.below hb2)
  have HB2 := Lib.hid (below_then HB1.out (Nat.le_refl _) hb2)
  have HC2 := Lib.hid (HC1.out.below hb2)
  clear hr2 hb2
  go_wp2_with fail
  refine (refcells_any _ Q w2 HR12.out HQL.out).mono ?_
  rintro e w3 ⟨v3, rfl, hr3, hb3⟩
  have HR3 := Lib.hid hr3
  have HR23 := Lib.hid (HR2.out.below hb3)
  have HR13 := Lib.hid (HR12.out.below hb3)
  have HB3 := Lib.hid (below_then HB2.out (Nat.le_refl _) hb3)
  have HC3 := Lib.hid (HC2.out.below hb3)
  clear hr3 hb3
  go_wp2_with fail
  refine (refsibs_any _ Q w3 HR13.out HQL.out).mono ?_
  rintro e w4 ⟨v4, rfl, hr4, hb4⟩
  obtain ⟨o2, k2, hf2, -, -⟩ := HR2.out.form
  obtain ⟨o3, k3, hf3, -, -⟩ := HR3.out.form
  obtain ⟨o4, k4, hf4, -, -⟩ := hr4.form
  have HL := Lib.hid (show Lies w4 v3 v2 v4 ⟨(cellsRo Q).map (·.1), (wipesRo Q).map (·.1), (sibsRo Q).map (·.1)⟩ from ⟨⟨_, rfl, HR3.out.below hb4⟩, ⟨_, rfl, HR23.out.below hb4⟩, ⟨_, rfl, hr4⟩⟩)
  have HB4 := Lib.hid (below_then HB3.out (Nat.le_refl _) hb4)
  have HC4 := Lib.hid (HC3.out.below hb4)
  clear hr4 hb4 HR1 HR2 HR3 HR12 HR13 HR23 HC1 HC2 HC3 HC0 HB1 HB2 HB3 HB0 HSet
  obtain ⟨n2, hn2⟩ : ∃ n2, n2 = (wipesRo Q).length := ⟨_, rfl⟩
  obtain ⟨n3, hn3⟩ : ∃ n3, n3 = (cellsRo Q).length := ⟨_, rfl⟩
  obtain ⟨n4, hn4⟩ : ∃ n4, n4 = (sibsRo Q).length := ⟨_, rfl⟩
  rw [← hn2] at hf2
  rw [← hn3] at hf3
  rw [← hn4] at hf4
  clear hn2 hn3 hn4
  subst hf2 hf3 hf4
  obtain ⟨-, t0, t1, t2, f0, f1, f2⟩ := HC4.out
  go_wp2_with fail
  obtain ⟨-, e0, e1, e2, -⟩ := c3_put HC4.out (.slice o3 n3 k3) (.slice o2 n2 k2) (.slice o4 n4 k4)
  refine bodyPost_ret (v := .agg #[.slice o3 n3 k3, .slice o2 n2 k2, .slice o4 n4 k4]) (by simp [results, Tryz.f9, go_sem, e0, e1, e2]) rfl ?_
  exact ⟨_, _, _, _, rfl, HL.out.plain3 (plain3 HC4.out _ _ _), HY.out, says_small HY.out, c3_put_below HB4.out (Nat.le_refl _) _ _ _⟩
end Go.Proofs.YtmjelcjdfamikaaGreatDoor.Mut

/- The walks of cenotaphref07.Same, cenotaphref08.Same, the law's Mine and Is (layer 8). -/
namespace Go.Proofs.YtmjelcjdfamikaaGreatDoor.Mut
open Go.RowKit Go.Sort Go.Proofs.YtmjelcjdfamikaaGreatDoor.Ord
set_option linter.unusedSectionVars false
variable [Inhabited Lim]

set_option maxHeartbeats 4000000 in
set_option maxRecDepth 100000 in
theorem refsame_any (v1 v2 : Value) (R1 R2 : List Ro) (w : World) (h1 : MRow w v1 R1) (h2 : MRow w v2 R2) (s1 : ∀ x ∈ R1, Small x.1) (s2 : ∀ x ∈ R2, Small x.1) :
    Calls Tryz.prog 28 #[v1, v2] w fun e w' => e = .returned (.bool (eqF (R1.map (·.1)) (R2.map (·.1)))) ∧ RowKit.Below w.heap.size w w' := by
  obtain ⟨ao1, cap1, rfl, hc1, hm1⟩ := h1.form
  obtain ⟨ao2, cap2, rfl, -, -⟩ := h2.form
  obtain ⟨n1, hn1⟩ : ∃ n, n = R1.length := ⟨_, rfl⟩
  obtain ⟨n2, hn2⟩ : ∃ n, n = R2.length := ⟨_, rfl⟩
  obtain ⟨Q, hQ⟩ : ∃ Q, Q = eqF (R1.map (·.1)) (R2.map (·.1)) := ⟨_, rfl⟩
  rw [← hQ, ← hn1, ← hn2]
  rw [← hn1] at hc1
  have hn : n1 ≤ maxLen := by omega
  unfold maxLen at hn
  clear hc1 hm1
  by_cases hl : n1 = n2
  · have hl2 : R2.length = R1.length := by omega
    subst hl
    have HQ := Lib.hid hQ
    have HN := Lib.hid (And.intro hn1 hn2)
    rw [← hn1] at h1
    rw [← hn2] at h2
    have H1 := Lib.hid h1
    have H2 := Lib.hid h2
    have S1 := Lib.hid s1
    have S2 := Lib.hid s2
    clear hQ hn1 hn2 h1 h2 s1 s2 hl2
    go_enter Tryz.func28, Tryz.ntmps28
    go_wp2_with fail
    go_loopw [5] (fun iv wr => ∃ k : Nat, k ≤ n1 ∧ iv = .int .i64 k ∧ Hid (eqF ((R1.drop k).map (·.1)) ((R2.drop k).map (·.1)) = Q) ∧ Hid (RowKit.Below w.heap.size w wr)) (fun iv _ => n1 - (intOf iv).toNat)
    case atStart => exact ⟨0, by omega, rfl, Lib.hid (by rw [HQ.out]; rfl), Lib.hid (Below.refl _ _)⟩
    case round =>
      obtain ⟨k, hk, rfl, hi, hb⟩ := hrel
      by_cases hlt : k < n1
      · have hk1 : k < R1.length := by have := HN.out; omega
        have hk2 : k < R2.length := by have := HN.out; omega
        obtain ⟨x, hx⟩ : ∃ x, R1[k]? = some x := ⟨_, List.getElem?_eq_getElem hk1⟩
        obtain ⟨y, hy⟩ : ∃ y, R2[k]? = some y := ⟨_, List.getElem?_eq_getElem hk2⟩
        have hxe : R1[k] = x := (List.getElem?_eq_some_iff.1 hx).2
        have hye : R2[k] = y := (List.getElem?_eq_some_iff.1 hy).2
        obtain ⟨xb, xoff, hao1, hat1⟩ := (H1.out.below hb.out).at_ hx
        obtain ⟨yb, yoff, hao2, hat2⟩ := (H2.out.below hb.out).at_ hy
        cases hao1
        cases hao2
        have hi' : (decide (muC x.1 y.1 = 0) && eqF ((R1.drop (k + 1)).map (·.1)) ((R2.drop (k + 1)).map (·.1))) = Q := by rw [← hi.out, List.drop_eq_getElem_cons hk1, List.drop_eq_getElem_cons hk2, hxe, hye]; rfl
        have hxo := (H1.out.below hb.out).over x (List.mem_of_getElem? hx)
        have hyo := (H2.out.below hb.out).over y (List.mem_of_getElem? hy)
        have HC := Lib.hid (fun (z : World) (hz : RowKit.Below wr.heap.size wr z) => refcompare_any x y z (hxo.below hz) (hyo.below hz) (S1.out x (List.mem_of_getElem? hx)).over (S2.out y (List.mem_of_getElem? hy)).over)
        obtain ⟨c, hc⟩ : ∃ c, c = muC x.1 y.1 := ⟨_, rfl⟩
        rw [← hc] at HC hi'
        have HI := Lib.hid hi'
        obtain ⟨xo, xc, ex, -, -⟩ := Over.form hxo
        obtain ⟨yo, yc, ey, -, -⟩ := Over.form hyo
        clear hi' hc hx hy hxe hye hi hxo hyo
        obtain ⟨hbl1, a0, a1, a2, a3, a4, a5, a6, a7, a8, a9⟩ := hat1
        obtain ⟨hbl2, b0, b1, b2, b3, b4, b5, b6, b7, b8, b9⟩ := hat2
        obtain ⟨⟨at1, ak1, akey1, afin1, aval1, aex1, ⟨ap1, al1, aw1⟩, aov1⟩, av1⟩ := x
        obtain ⟨⟨at2, ak2, akey2, afin2, aval2, aex2, ⟨ap2, al2, aw2⟩, aov2⟩, av2⟩ := y
        simp only [] at ex ey a0 a1 a2 a3 a4 a5 a6 a7 a8 a9 b0 b1 b2 b3 b4 b5 b6 b7 b8 b9
        obtain ⟨xn, hxn⟩ : ∃ k, k = aov1.length := ⟨_, rfl⟩
        obtain ⟨yn, hyn⟩ : ∃ k, k = aov2.length := ⟨_, rfl⟩
        rw [← hxn] at ex
        rw [← hyn] at ey
        subst ex ey
        clear hxn hyn
        unfold vM at HC
        simp only [] at HC
        have j0 : (0 : Int) ≤ (k : Int) := by omega
        have j1 : (k : Int) < (n1 : Int) := by omega
        by_cases hz : c = 0
        · have HI2 := Lib.hid (show eqF ((R1.drop (k + 1)).map (·.1)) ((R2.drop (k + 1)).map (·.1)) = Q by rw [← HI.out, decide_eq_true hz]; rfl)
          have q1 : (c != 0) = false := by simp [hz]
          have q2 : decide (c = 0) = true := decide_eq_true hz
          clear HI
          subst hz
          go_wp2_with fail
          refine wp_region_calm (by kernel_rfl) (by kernel_rfl) ?_
          repeat (go_big_quiet_step ((go_at_call 51; exact calm (HC.out _ (BW.below _)))))
          refine wpQuiet_nil ?_
          rintro _ ⟨z, rfl⟩
          have HF := Lib.hid (below_then hb.out (Nat.le_refl _) z.below)
          clear a0 a1 a2 a3 a4 a5 a6 a7 a8 a9 b0 b1 b2 b3 b4 b5 b6 b7 b8 b9 hb
          go_wp2_with fail
          go_roundw
          case rel => exact ⟨k + 1, by omega, by go_num, HI2, HF⟩
          case measure => simp [intOf]; omega
        · have HI2 := Lib.hid (show false = Q by rw [← HI.out, decide_eq_false hz]; rfl)
          have q1 : (c != 0) = true := by simp [hz]
          have q2 : decide (c = 0) = false := decide_eq_false hz
          clear HI
          go_wp2_with fail
          refine wp_region_calm (by kernel_rfl) (by kernel_rfl) ?_
          repeat (go_big_quiet_step ((go_at_call 51; exact calm (HC.out _ (BW.below _)))))
          refine wpQuiet_nil ?_
          rintro _ ⟨z, rfl⟩
          have HF := Lib.hid (below_then hb.out (Nat.le_refl _) z.below)
          clear a0 a1 a2 a3 a4 a5 a6 a7 a8 a9 b0 b1 b2 b3 b4 b5 b6 b7 b8 b9 hb
          go_wp2_with fail
          go_ret
          exact ⟨ret_bool HI2.out, HF.out⟩
      · obtain rfl : k = n1 := by omega
        have he2 : true = Q := by rw [← hi.out, List.drop_of_length_le (by have := HN.out; omega), List.drop_of_length_le (by have := HN.out; omega)]; rfl
        have HE := Lib.hid he2
        clear he2
        go_wp2_with fail
        go_ret
        exact ⟨ret_bool HE.out, hb.out⟩
  · have hq : Q = false := by rw [hQ]; exact eqF_len _ _ (by simp; omega)
    have HQ := Lib.hid hq
    have hne : ¬ ((n1 : Int) = (n2 : Int)) := by omega
    clear hq hQ hn1 hn2 h1 h2 s1 s2
    go_enter Tryz.func28, Tryz.ntmps28
    go_wp2_with fail
    go_ret
    exact ⟨ret_bool HQ.out.symm, Below.refl _ _⟩

theorem eqF_con (c c' : Con) : (eqF c.cells c'.cells = true ∧ eqF c.wipes c'.wipes = true ∧ eqF c.sibs c'.sibs = true) ↔ c = c' := by
  rw [eqF_iff, eqF_iff, eqF_iff]
  cases c; cases c'
  simp
def allSmall (c : Con) : Prop := ∀ m ∈ c.all, Small m

set_option maxHeartbeats 4000000 in
set_option maxRecDepth 100000 in
theorem refsame8_any (a b d a' b' d' : Value) (c c' : Con) (q : Bool) (w : World) (hq : q = true ↔ c = c') (hc : Lies w a b d c) (hc' : Lies w a' b' d' c') (hs : allSmall c) (hs' : allSmall c') :
    Calls Tryz.prog 11 #[.agg #[a, b, d], .agg #[a', b', d']] w fun e w' => e = .returned (.bool q) ∧ RowKit.Below w.heap.size w w' := by
  have hm : ∀ {c : Con}, allSmall c → (∀ m ∈ c.cells, Small m) ∧ (∀ m ∈ c.wipes, Small m) ∧ (∀ m ∈ c.sibs, Small m) := fun h =>
    ⟨fun m k => h m (by unfold Con.all; simp [k]), fun m k => h m (by unfold Con.all; simp [k]), fun m k => h m (by unfold Con.all; simp [k])⟩
  obtain ⟨⟨ra, ea, hra⟩, ⟨rb, eb, hrb⟩, ⟨rd, ed, hrd⟩⟩ := hc
  obtain ⟨⟨ra', ea', hra'⟩, ⟨rb', eb', hrb'⟩, ⟨rd', ed', hrd'⟩⟩ := hc'
  have z := hm hs
  have z' := hm hs'
  have HA := Lib.hid (fun (W : World) (hW : RowKit.Below w.heap.size w W) => refsame_any a a' ra ra' W (hra.below hW) (hra'.below hW) (fun x hx => z.1 _ (ea ▸ List.mem_map.2 ⟨x, hx, rfl⟩)) (fun x hx => z'.1 _ (ea' ▸ List.mem_map.2 ⟨x, hx, rfl⟩)))
  have HB := Lib.hid (fun (W : World) (hW : RowKit.Below w.heap.size w W) => refsame_any b b' rb rb' W (hrb.below hW) (hrb'.below hW) (fun x hx => z.2.1 _ (eb ▸ List.mem_map.2 ⟨x, hx, rfl⟩)) (fun x hx => z'.2.1 _ (eb' ▸ List.mem_map.2 ⟨x, hx, rfl⟩)))
  have HD := Lib.hid (fun (W : World) (hW : RowKit.Below w.heap.size w W) => refsame_any d d' rd rd' W (hrd.below hW) (hrd'.below hW) (fun x hx => z.2.2 _ (ed ▸ List.mem_map.2 ⟨x, hx, rfl⟩)) (fun x hx => z'.2.2 _ (ed' ▸ List.mem_map.2 ⟨x, hx, rfl⟩)))
  rw [ea, ea'] at HA
  rw [eb, eb'] at HB
  rw [ed, ed'] at HD
  have hqq := hq.trans (eqF_con c c').symm
  obtain ⟨qa, hqa⟩ : ∃ q, q = eqF c.cells c'.cells := ⟨_, rfl⟩
  obtain ⟨qb, hqb⟩ : ∃ q, q = eqF c.wipes c'.wipes := ⟨_, rfl⟩
  obtain ⟨qd, hqd⟩ : ∃ q, q = eqF c.sibs c'.sibs := ⟨_, rfl⟩
  rw [← hqa] at HA hqq
  rw [← hqb] at HB hqq
  rw [← hqd] at HD hqq
  have HQ := Lib.hid (show q = (qa && (qb && qd)) by cases q <;> cases qa <;> cases qb <;> cases qd <;> simp_all)
  obtain ⟨o1, k1, f1, -, -⟩ := hra.form
  obtain ⟨o2, k2, f2, -, -⟩ := hrb.form
  obtain ⟨o3, k3, f3, -, -⟩ := hrd.form
  obtain ⟨o4, k4, f4, -, -⟩ := hra'.form
  obtain ⟨o5, k5, f5, -, -⟩ := hrb'.form
  obtain ⟨o6, k6, f6, -, -⟩ := hrd'.form
  obtain ⟨n1, h1⟩ : ∃ n, n = ra.length := ⟨_, rfl⟩
  obtain ⟨n2, h2⟩ : ∃ n, n = rb.length := ⟨_, rfl⟩
  obtain ⟨n3, h3⟩ : ∃ n, n = rd.length := ⟨_, rfl⟩
  obtain ⟨n4, h4⟩ : ∃ n, n = ra'.length := ⟨_, rfl⟩
  obtain ⟨n5, h5⟩ : ∃ n, n = rb'.length := ⟨_, rfl⟩
  obtain ⟨n6, h6⟩ : ∃ n, n = rd'.length := ⟨_, rfl⟩
  rw [← h1] at f1
  rw [← h2] at f2
  rw [← h3] at f3
  rw [← h4] at f4
  rw [← h5] at f5
  rw [← h6] at f6
  clear h1 h2 h3 h4 h5 h6 hra hrb hrd hra' hrb' hrd' hqa hqb hqd hqq z z' hm hq ea eb ed ea' eb' ed' hs hs'
  subst f1 f2 f3 f4 f5 f6
  have hP := (C3.newR w (.slice o1 n1 k1) (.slice o2 n2 k2) (.slice o3 n3 k3)).below ((Below.refl _ _).alloc (Nat.le_refl _) (.cells #[.slice o4 n4 k4, .slice o5 n5 k5, .slice o6 n6 k6] 29))
  have hP' := C3.newR (w.alloc (.cells #[.slice o1 n1 k1, .slice o2 n2 k2, .slice o3 n3 k3] 29)) (.slice o4 n4 k4) (.slice o5 n5 k5) (.slice o6 n6 k6)
  rw [World.size_alloc] at hP'
  have hB := ((Below.refl _ w).alloc (Nat.le_refl _) (.cells #[.slice o1 n1 k1, .slice o2 n2 k2, .slice o3 n3 k3] 29)).alloc (by simp) (.cells #[.slice o4 n4 k4, .slice o5 n5 k5, .slice o6 n6 k6] 29)
  obtain ⟨W0, hW0⟩ : ∃ W0, W0 = ((w.alloc (.cells #[.slice o1 n1 k1, .slice o2 n2 k2, .slice o3 n3 k3] 29)).alloc (.cells #[.slice o4 n4 k4, .slice o5 n5 k5, .slice o6 n6 k6] 29)) := ⟨_, rfl⟩
  rw [← hW0] at hP hP' hB
  have HP := Lib.hid hP
  have HP' := Lib.hid hP'
  have HB0 := Lib.hid hB
  have HW := Lib.hid hW0
  clear hP hP' hB hW0
  go_enter Tryz.func11, Tryz.ntmps11
  go_upto_region 1 with fail
  rw [← HW.out]
  clear HW
  obtain ⟨-, p0, p1, p2, -⟩ := HP.out
  obtain ⟨-, q0, q1, q2, -⟩ := HP'.out
  go_wp2_with fail
  refine (HA.out _ HB0.out).mono ?_
  rintro e w1 ⟨rfl, hb1⟩
  have HB1 := Lib.hid (below_then HB0.out (Nat.le_refl _) hb1)
  have HP1 := Lib.hid (HP.out.below hb1)
  have HP1' := Lib.hid (HP'.out.below hb1)
  clear hb1 p0 p1 p2 q0 q1 q2
  cases qa
  · go_wp2_with fail
    go_ret
    exact ⟨ret_bool HQ.out.symm, HB1.out⟩
  obtain ⟨-, p0, p1, p2, -⟩ := HP1.out
  obtain ⟨-, q0, q1, q2, -⟩ := HP1'.out
  go_wp2_with fail
  refine (HB.out _ HB1.out).mono ?_
  rintro e w2 ⟨rfl, hb2⟩
  have HB2 := Lib.hid (below_then HB1.out (Nat.le_refl _) hb2)
  have HP2 := Lib.hid (HP1.out.below hb2)
  have HP2' := Lib.hid (HP1'.out.below hb2)
  clear hb2 p0 p1 p2 q0 q1 q2
  cases qb
  · go_wp2_with fail
    go_ret
    exact ⟨ret_bool HQ.out.symm, HB2.out⟩
  obtain ⟨-, p0, p1, p2, -⟩ := HP2.out
  obtain ⟨-, q0, q1, q2, -⟩ := HP2'.out
  go_wp2_with fail
  refine (HD.out _ HB2.out).mono ?_
  rintro e w3 ⟨rfl, hb3⟩
  have HB3 := Lib.hid (below_then HB2.out (Nat.le_refl _) hb3)
  clear hb3 p0 p1 p2 q0 q1 q2
  cases qd
  all_goals
    go_wp2_with fail
    go_ret
    exact ⟨ret_bool HQ.out.symm, HB3.out⟩

set_option maxHeartbeats 1000000 in
set_option maxRecDepth 100000 in
theorem mine_any (a b d : Value) (c : Con) (w : World) (hc : Lies w a b d c) :
    Calls Tryz.prog 12 #[.agg #[a, b, d]] w fun e w' => e = .returned (.agg #[a, b, d]) ∧ RowKit.Below w.heap.size w w' := by
  obtain ⟨o1, n1, k1, rfl⟩ := hc.cells.slice
  obtain ⟨o2, n2, k2, rfl⟩ := hc.wipes.slice
  obtain ⟨o3, n3, k3, rfl⟩ := hc.sibs.slice
  clear hc
  go_enter Tryz.func12, Tryz.ntmps12
  have hT := C3.newR (w.alloc (.cells #[.slice o1 n1 k1, .slice o2 n2 k2, .slice o3 n3 k3] 26)) (.slice none 0 0) (.slice none 0 0) (.slice none 0 0)
  rw [World.size_alloc] at hT
  have hB := ((Below.refl _ w).alloc (Nat.le_refl _) (.cells #[.slice o1 n1 k1, .slice o2 n2 k2, .slice o3 n3 k3] 26)).alloc (by simp) (.cells #[.slice none 0 0, .slice none 0 0, .slice none 0 0] 29)
  have HT := Lib.hid hT
  have HB := Lib.hid hB
  clear hT hB
  go_wp2_with fail
  obtain ⟨-, e0, e1, e2, -⟩ := c3_put HT.out (.slice o1 n1 k1) (.slice o2 n2 k2) (.slice o3 n3 k3)
  refine bodyPost_ret (v := .agg #[.slice o1 n1 k1, .slice o2 n2 k2, .slice o3 n3 k3]) (by simp [results, Tryz.f12, go_sem, e0, e1, e2]) rfl ?_
  exact ⟨rfl, ((Below.refl _ w).alloc (Nat.le_refl _) _).alloc (by simp) _⟩

set_option maxHeartbeats 2000000 in
set_option maxRecDepth 100000 in
theorem is_any (a b d a' b' d' : Value) (c c' : Con) (q : Bool) (w : World) (hq : q = true ↔ c = c') (hc : Lies w a b d c) (hc' : Lies w a' b' d' c') (hs : allSmall c) (hs' : allSmall c') :
    Calls Tryz.prog 5 #[.agg #[a, b, d], .agg #[a', b', d']] w fun e w' => e = .returned (.bool q) ∧ RowKit.Below w.heap.size w w' := by
  have HM := Lib.hid (fun (W : World) (hW : RowKit.Below w.heap.size w W) => mine_any a b d c W (hc.below hW))
  have HS := Lib.hid (fun (W : World) (hW : RowKit.Below w.heap.size w W) => refsame8_any a b d a' b' d' c c' q W hq (hc.below hW) (hc'.below hW) hs hs')
  obtain ⟨o1, n1, k1, rfl⟩ := hc.cells.slice
  obtain ⟨o2, n2, k2, rfl⟩ := hc.wipes.slice
  obtain ⟨o3, n3, k3, rfl⟩ := hc.sibs.slice
  obtain ⟨o4, n4, k4, rfl⟩ := hc'.cells.slice
  obtain ⟨o5, n5, k5, rfl⟩ := hc'.wipes.slice
  obtain ⟨o6, n6, k6, rfl⟩ := hc'.sibs.slice
  clear hc hc' hs hs' hq
  have hP := (C3.new w (.slice o1 n1 k1) (.slice o2 n2 k2) (.slice o3 n3 k3)).below ((Below.refl _ _).alloc (Nat.le_refl _) (.cells #[.slice o4 n4 k4, .slice o5 n5 k5, .slice o6 n6 k6] 29))
  have hP' := C3.newR (w.alloc (.cells #[.slice o1 n1 k1, .slice o2 n2 k2, .slice o3 n3 k3] 26)) (.slice o4 n4 k4) (.slice o5 n5 k5) (.slice o6 n6 k6)
  rw [World.size_alloc] at hP'
  have hB := ((Below.refl _ w).alloc (Nat.le_refl _) (.cells #[.slice o1 n1 k1, .slice o2 n2 k2, .slice o3 n3 k3] 26)).alloc (by simp) (.cells #[.slice o4 n4 k4, .slice o5 n5 k5, .slice o6 n6 k6] 29)
  obtain ⟨W0, hW0⟩ : ∃ W0, W0 = ((w.alloc (.cells #[.slice o1 n1 k1, .slice o2 n2 k2, .slice o3 n3 k3] 26)).alloc (.cells #[.slice o4 n4 k4, .slice o5 n5 k5, .slice o6 n6 k6] 29)) := ⟨_, rfl⟩
  rw [← hW0] at hP hP' hB
  have HP := Lib.hid hP
  have HP' := Lib.hid hP'
  have HB0 := Lib.hid hB
  have HW := Lib.hid hW0
  clear hP hP' hB hW0
  go_enter Tryz.func5, Tryz.ntmps5
  go_upto_region 1 with fail
  rw [← HW.out]
  clear HW
  obtain ⟨g0, p0, p1, p2, -⟩ := HP.out
  obtain ⟨g1, q0, q1, q2, -⟩ := HP'.out
  go_wp2_with fail
  refine wp_region_calm (by kernel_rfl) (by kernel_rfl) ?_
  repeat (go_big_quiet_step (first
    | (go_at_call 12; exact calm (HM.out _ (below_then HB0.out (Nat.le_refl _) (BW.below _))))
    | (go_at_call 11; exact calm (HS.out _ (below_then HB0.out (Nat.le_refl _) (BW.below _))))))
  refine wpQuiet_nil ?_
  rintro _ ⟨z, rfl⟩
  have HF := Lib.hid (below_then HB0.out (Nat.le_refl _) z.below)
  go_wp2_with fail
  go_ret
  exact ⟨rfl, HF.out⟩
end Go.Proofs.YtmjelcjdfamikaaGreatDoor.Mut

/- append of a row of mutations at a step of a region that draws its order. -/
namespace Go.Proofs.YtmjelcjdfamikaaGreatDoor.Mut
open Go.RowKit Go.Sort Go.Proofs.YtmjelcjdfamikaaGreatDoor.Ord
set_option linter.unusedSectionVars false
variable [Inhabited Lim]

theorem one_row_at {w : World} {k : Nat} {x : Ro} {t : TypeId} (h : w.heap[k]? = some (.cells ⟨enM x⟩ t)) (hx : Over w x) : MRow w (.slice (some ⟨k, 0, none⟩) 1 1) [x] := by
  refine ⟨⟨_, 1, rfl, by simp, by decide, Or.inr ⟨_, _, rfl, (Array.getElem?_eq_some_iff.1 h).1, fun i y hi j hj => ?_⟩⟩, fun y hy => ?_⟩
  · rw [cells_at h, Nat.zero_add]
    have := flatMap_get enM_len [x] i y hi j hj
    simpa using this
  · rw [List.mem_singleton.1 hy]
    exact hx

theorem step_append_rows {w : World} {ops : Array Oper} {o : Oper} {a : Act} {K : Act → World → Prop} {Q : Exit → Act → World → Prop} {E : Prop} (hgd : o.guard = none) (s x : Operand)
    (ho : o.op = .call { callee := .builtin .append, args := #[s, x], argTypes := #[22, 22] }) (base : Nat) (v : Value) (n : Nat) (xs : List Value) (hs : a.eval s = v) (hown : w.ownsRow base 40 10 v n xs)
    (ao : Option Addr) (m c : Nat) (R : List Ro) (hx : a.eval x = .slice ao m c) (hR : MRow w (.slice ao m c) R) (hm : n + m ≤ 1000000) (hbase : base ≤ w.heap.size)
    (h : ∀ v' w', w'.ownsRow base 40 10 v' (n + m) (xs ++ R.flatMap enM) → w.grownBy w' v.ownBlock → K (a.put o.dst v') w') :
    if Region.wanted o (yielded ops a.tmps) = true then Oper.wp Tryz.prog o a w K Q else E := by
  have hw : Region.wanted o (yielded ops a.tmps) = true := by simp [Region.wanted, hgd]
  rw [if_pos hw]
  obtain ⟨i0, hi, hz0, hz1, hz2⟩ := info_parts info_M
  obtain ⟨_, _, e, -, -⟩ := hR.form
  obtain ⟨rfl⟩ : m = R.length := by injection e
  cases ao with
  | none =>
    have h0 := hR.nil_of
    subst h0
    have hrun := run_append_owned_none' (P := Tryz.prog) (w := w) base 22 o.type 40 i0 10 c Tryz.underlying22 hi v n xs hown
    unfold Oper.wp
    simp [execOp, ho, resolve, invoke, builtin, hs, hx, hrun, Result.andThen]
    exact h v w (by simpa using hown) (World.grownBy.refl _ _)
  | some ad =>
    exact wp_append_own w s x 22 ho base 40 i0 zeroM 10 120 Tryz.underlying22 hi hz0 hz1 hz2 rfl (by decide) v n xs hs hown ad R.length c (R.flatMap enM) hx (flatMap_len enM_len R) (Lst.news enM_len (by decide) hR.row) (flatM_one hR.forms) (by unfold maxLen; omega) (by omega) hbase (fun v' w' h1 h2 _ => h v' w' h1 h2)
end Go.Proofs.YtmjelcjdfamikaaGreatDoor.Mut
