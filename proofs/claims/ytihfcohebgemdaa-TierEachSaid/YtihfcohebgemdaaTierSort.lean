/- Layer 18 (tier): the comparison of Groups; insertion sort by it; a stable sort of few. PRINTED by wip/gentiersort.py. -/
import Derived.Test.YtihfcohebgemdaaInts
import Derived.Test.YtihfcohebgemdaaTierPlain
import Derived.Test.YtihfcohebgemdaaRange
import Derived.Test.YtihfcohebgemdaaRegApp
set_option linter.unusedSimpArgs false
set_option linter.unusedVariables false
namespace Go.Proofs.Ytihfcohebgemdaa.Tier
open Go.RowKit Go.Proofs.Ytihfcohebgemdaa.Ints Go.Proofs.Ytihfcohebgemdaa.Sort Go.Proofs.Ytihfcohebgemdaa.Ord Go.Proofs.Ytihfcohebgemdaa.RegInv

/-- What the comparison reads: the variable of the function, the row of sizes; none of it lies in the block β. -/
structure Cap (β : Nat) (W : World) (ao : Option Addr) (ac : Nat) (l : List Int) (Bs Bl : Nat) : Prop where
  cs : W.cell? ⟨Bs, 0, none⟩ = some (.func (.func 25) #[] #[.pointer (some ⟨Bl, 0, none⟩)])
  cl : W.cell? ⟨Bl, 0, none⟩ = some (.slice ao l.length ac)
  row : IRow W (.slice ao l.length ac) l
  hs : Bs < W.heap.size ∧ Bs ≠ β
  hl : Bl < W.heap.size ∧ Bl ≠ β
  ha : 0 < l.length → ∀ b off, ao = some ⟨b, off, none⟩ → b ≠ β
theorem grown_at (β : Nat) {W W' : World} (hb : Below W.heap.size W W') : W.grownBy W' (some β) := ⟨hb.os, hb.tape, hb.output, hb.size, fun i hi _ => hb.block i hi⟩
theorem Cap.below {β : Nat} {W W' : World} {ao : Option Addr} {ac : Nat} {l : List Int} {Bs Bl : Nat} (h : Cap β W ao ac l Bs Bl) (hb : W.grownBy W' (some β)) : Cap β W' ao ac l Bs Bl := by
  have cell : ∀ b o, b < W.heap.size → b ≠ β → W'.cell? ⟨b, o, none⟩ = W.cell? ⟨b, o, none⟩ := fun b o h1 h2 => World.cell?_of_block (a := ⟨b, o, none⟩) (hb.block b h1 (fun e => h2 (by injection e)))
  refine ⟨(cell _ _ h.hs.1 h.hs.2).trans h.cs, (cell _ _ h.hl.1 h.hl.2).trans h.cl, ?_, ⟨Nat.lt_of_lt_of_le h.hs.1 hb.size, h.hs.2⟩, ⟨Nat.lt_of_lt_of_le h.hl.1 hb.size, h.hl.2⟩, h.ha⟩
  obtain ⟨ao', cap, hv, h1, h2, h3⟩ := h.row
  cases hv
  refine ⟨ao, ac, rfl, h1, h2, ?_⟩
  by_cases h0 : l.length = 0
  · exact Or.inl h0
  rcases h3 with h3 | ⟨b, off, hA, hlt, hc⟩
  · exact Or.inl h3
  · exact Or.inr ⟨b, off, hA, Nat.lt_of_lt_of_le hlt hb.size, fun i x hi j hj => (cell _ _ hlt (h.ha (by omega) _ _ hA)).trans (hc i x hi j hj)⟩
theorem size_any (ao : Option Addr) (ac : Nat) (l : List Int) (Bl x : Nat) (W : World) (cl : W.cell? ⟨Bl, 0, none⟩ = some (.slice ao l.length ac)) (row : IRow W (.slice ao l.length ac) l) (hx : x < l.length) (hl : l.length ≤ 100000) :
    Calls Try.prog 25 #[.int .i64 x, .pointer (some ⟨Bl, 0, none⟩)] W fun e W' => e = .returned (.int .i64 (sz l x)) ∧ W = W' := by
  obtain ⟨xb, xoff, rfl, hxb, x0⟩ := int_at row (List.getElem?_eq_getElem hx)
  have hsz : sz l x = max l[x] 0 := by unfold sz; rw [Int.toNat_natCast, List.getD_eq_getElem?_getD, List.getElem?_eq_getElem hx]; rfl
  have HSZ := Lib.hid hsz
  generalize l[x] = v at *
  clear hsz row
  go_enter Try.func25, Try.ntmps25
  go_wp2
  go_ret
  exact ⟨ret_int HSZ.out.symm, rfl⟩
theorem cmpI_any (a b : Int) (w : World) : Calls Try.prog 28 #[.int .i64 a, .int .i64 b] w fun e w' => e = .returned (.int .i64 (cmpI a b)) ∧ w = w' := by
  by_cases h : a < b
  · go_enter Try.func28, Try.ntmps28
    go_wp2
    go_ret
    exact ⟨ret_int (by unfold cmpI; repeat' split; all_goals omega), rfl⟩
  · by_cases h2 : b < a
    · go_enter Try.func28, Try.ntmps28
      go_wp2
      go_ret
      exact ⟨ret_int (by unfold cmpI; repeat' split; all_goals omega), rfl⟩
    · go_enter Try.func28, Try.ntmps28
      go_wp2
      go_ret
      exact ⟨ret_int (by unfold cmpI; repeat' split; all_goals omega), rfl⟩

set_option maxHeartbeats 1000000 in
theorem cmp_any (β : Nat) (ao : Option Addr) (ac : Nat) (l : List Int) (Bs Bl : Nat) (x y : Nat) (W : World) (h : Cap β W ao ac l Bs Bl) (hx : x < l.length) (hy : y < l.length) (hl : l.length ≤ 100000) :
    Calls Try.prog 27 #[.int .i64 x, .int .i64 y, .pointer (some ⟨Bs, 0, none⟩)] W fun e W' => e = .returned (.int .i64 (cmpI (sz l x) (sz l y))) ∧ Below W.heap.size W W' := by
  obtain ⟨cs, cl, row, ⟨hBs, -⟩, ⟨hBl, -⟩, h3⟩ := h
  have HX := Lib.hid (fun W' (hb : Below W.heap.size W W') => size_any ao ac l Bl x W' ((hb.cell (p := ⟨Bl, 0, none⟩) hBl).trans cl) (Lst.below row hb) hx hl)
  have HY := Lib.hid (fun W' (hb : Below W.heap.size W W') => size_any ao ac l Bl y W' ((hb.cell (p := ⟨Bl, 0, none⟩) hBl).trans cl) (Lst.below row hb) hy hl)
  generalize sz l x = X at *
  generalize sz l y = Y at *
  clear row h3 cl
  go_enter Try.func27, Try.ntmps27
  go_wp2_with fail
  refine wp_region_told [] 7 [false, false, false, false, false, false, true, true, true, true, true, true, true]
    [sLit (.func (.func 25) #[] #[.pointer (some ⟨Bl, 0, none⟩)]),
    sLit (.int .i64 x),
    sLit (.int .i64 X),
    sLit (.func (.func 25) #[] #[.pointer (some ⟨Bl, 0, none⟩)]),
    sLit (.int .i64 y),
    sLit (.int .i64 Y),
    sLit (.int .i64 (cmpI X Y))] (by kernel_rfl) (by kernel_rfl) (by kernel_rfl) (fun F hF => ?_)
  simp only [over, overL, Nat.reduceAdd] at hF
  obtain rfl := funext hF
  clear hF
  refine ⟨⟨?_, ?_, ?_, ?_, ?_, ?_, ?_, trivial⟩, ?_⟩
  · intro V W2 hb hd K hK _
    clear hd
    obtain c9 := (hb.cell (p := ⟨Bs, 0, none⟩) hBs).trans cs
    go_wp2_with fail
    refine hK _ _ ?_ ?_ ?_ ?_
    · rfl
    · exact Below.refl _ _
    · exact rfl
    · trivial
  · intro V W2 hb hd K hK _
    clear hd
    go_wp2_with fail
    refine hK _ _ ?_ ?_ ?_ ?_
    · rfl
    · exact Below.refl _ _
    · exact rfl
    · trivial
  · intro V W2 hb hd K hK _
    have h0 : (V 6) = .func (.func 25) #[] #[.pointer (some ⟨Bl, 0, none⟩)] := hd 0 (by kernel_rfl)
    have h1 : (V 7) = .int .i64 x := hd 1 (by kernel_rfl)
    clear hd
    go_wp2_with fail
    refine (HX.out W2 hb).mono ?_
    rintro e w1 ⟨rfl, rfl⟩
    go_wp2_with fail
    refine hK _ _ ?_ ?_ ?_ ?_
    · rfl
    · exact Below.refl _ _
    · exact rfl
    · trivial
  · intro V W2 hb hd K hK _
    clear hd
    obtain c9 := (hb.cell (p := ⟨Bs, 0, none⟩) hBs).trans cs
    go_wp2_with fail
    refine hK _ _ ?_ ?_ ?_ ?_
    · rfl
    · exact Below.refl _ _
    · exact rfl
    · trivial
  · intro V W2 hb hd K hK _
    clear hd
    go_wp2_with fail
    refine hK _ _ ?_ ?_ ?_ ?_
    · rfl
    · exact Below.refl _ _
    · exact rfl
    · trivial
  · intro V W2 hb hd K hK _
    have h3 : (V 9) = .func (.func 25) #[] #[.pointer (some ⟨Bl, 0, none⟩)] := hd 3 (by kernel_rfl)
    have h4 : (V 10) = .int .i64 y := hd 4 (by kernel_rfl)
    clear hd
    go_wp2_with fail
    refine (HY.out W2 hb).mono ?_
    rintro e w1 ⟨rfl, rfl⟩
    go_wp2_with fail
    refine hK _ _ ?_ ?_ ?_ ?_
    · rfl
    · exact Below.refl _ _
    · exact rfl
    · trivial
  · intro V W2 hb hd K hK _
    have h2 : (V 8) = .int .i64 X := hd 2 (by kernel_rfl)
    have h5 : (V 11) = .int .i64 Y := hd 5 (by kernel_rfl)
    clear hd
    go_wp2_with fail
    refine (cmpI_any X Y W2).mono ?_
    rintro e w1 ⟨rfl, rfl⟩
    go_wp2_with fail
    refine hK _ _ ?_ ?_ ?_ ?_
    · rfl
    · exact Below.refl _ _
    · exact rfl
    · trivial
  · intro V W2 hb hd hap
    have h6 : (V 12) = .int .i64 (cmpI X Y) := hd 6 (by decide)
    clear hd hap
    simp only [List.drop_succ_cons, List.drop_zero]
    have HB := Lib.hid hb
    clear hb
    go_wp2_with fail
    go_ret
    exact ⟨rfl, HB.out⟩

/-- A row of ints, at whose end there may be other cells. -/
def RowF (w : World) (g cap n : Nat) (f : Nat → Int) (G : Nat → Value) : Prop := w.rowIs g 3 cap (fun k => if k < n then .int .i64 (f k) else G k)
theorem RowF.cell {w : World} {g cap n : Nat} {f : Nat → Int} {G : Nat → Value} (h : RowF w g cap n f G) {k : Nat} (hk : k < n) (hc : k < cap) : w.cell? ⟨g, k, none⟩ = some (.int .i64 (f k)) := by
  have := World.rowIs.cell h hc
  rwa [if_pos hk] at this
theorem RowF.below {w w' : World} {g cap n : Nat} {f : Nat → Int} {G : Nat → Value} (h : RowF w g cap n f G) (hb : Below w.heap.size w w') : RowF w' g cap n f G := World.rowIs.of_block h (hb.block g (World.rowIs.lt h))
theorem RowF.swap {w : World} {g cap n : Nat} {f : Nat → Int} {G : Nat → Value} (h : RowF w g cap n f G) {i j : Nat} (hi : i < n) (hj : j < n) :
    RowF ((w.setCell ⟨g, i, none⟩ (.int .i64 (f j))).setCell ⟨g, j, none⟩ (.int .i64 (f i))) g cap n (swp f i j) G := by
  refine World.rowIs.congr (World.rowIs.set (World.rowIs.set h i _) j _) fun k hk => ?_
  unfold swp
  by_cases e1 : k = j
  · subst e1
    by_cases e2 : k = i
    · subst e2; simp [hi]
    · simp [hj, e2]
  · by_cases e2 : k = i
    · subst e2; simp [e1, hi]
    · by_cases hk2 : k < n <;> simp [e1, e2, hk2]
theorem RowF.swap' {w : World} {g cap n : Nat} {f : Nat → Int} {G : Nat → Value} (h : RowF w g cap n f G) {i j : Nat} (hi : i < n) (hj : j < n) :
    RowF ((w.setCell ⟨g, j, none⟩ (.int .i64 (f i))).setCell ⟨g, i, none⟩ (.int .i64 (f j))) g cap n (swp f i j) G := by
  refine World.rowIs.congr (World.rowIs.set (World.rowIs.set h j _) i _) fun k hk => ?_
  unfold swp
  by_cases e1 : k = i
  · subst e1; simp [hi]
  · by_cases e2 : k = j
    · subst e2; simp [e1, hj]
    · by_cases hk2 : k < n <;> simp [e1, e2, hk2]

theorem grown_below {a w w' : World} {row : Option Nat} (h : a.grownBy w row) (hb : Below w.heap.size w w') : a.grownBy w' row :=
  ⟨hb.os.trans h.os, hb.tape.trans h.tape, hb.output.trans h.output, Nat.le_trans h.size hb.size, fun i hi hne => (hb.block i (Nat.lt_of_lt_of_le hi h.size)).trans (h.block i hi hne)⟩

/-- Where the sort stands. -/
structure St (W0 W : World) (g cap n : Nat) (f : Nat → Int) (G : Nat → Value) (N : Nat) : Prop where
  row : RowF W g cap n f G
  gr : W0.grownBy W (some g)
  val : ∀ k, k < n → 0 ≤ f k ∧ f k < N
theorem St.bl {W0 W : World} {g cap n N : Nat} {f : Nat → Int} {G : Nat → Value} (h : St W0 W g cap n f G N) {β : Nat} (hg : Hid (g = β)) : W0.grownBy W (some β) := hg.out ▸ h.gr
theorem St.below {W0 W W' : World} {g cap n N : Nat} {f : Nat → Int} {G : Nat → Value} (h : St W0 W g cap n f G N) (hb : Below W.heap.size W W') : St W0 W' g cap n f G N := ⟨h.row.below hb, grown_below h.gr hb, h.val⟩
theorem St.swap {W0 W : World} {g cap n N : Nat} {f : Nat → Int} {G : Nat → Value} (h : St W0 W g cap n f G N) {i j : Nat} {x y : Int} (hi : i < n) (hj : j < n) (hx : x = f i) (hy : y = f j) :
    St W0 ((W.setCell ⟨g, i, none⟩ (.int .i64 y)).setCell ⟨g, j, none⟩ (.int .i64 x)).drew g cap n (swp f i j) G N := by
  subst hx; subst hy
  refine ⟨World.rowIs.drew (h.row.swap hi hj), grown_drew (grown_setCell (grown_setCell h.gr (p := ⟨g, i, none⟩) (Or.inl rfl) _) (p := ⟨g, j, none⟩) (Or.inl rfl) _), fun k hk => ?_⟩
  unfold swp
  split
  · exact h.val j hj
  · split
    · exact h.val i hi
    · exact h.val k hk

set_option maxRecDepth 100000 in
set_option maxHeartbeats 4000000 in
theorem isort_any (β : Nat) (W0 : World) (g cap n a b : Nat) (f : Nat → Int) (G : Nat → Value) (ao : Option Addr) (ac : Nat) (l : List Int) (Bs Bl : Nat) (hC : Cap β W0 ao ac l Bs Bl) (hg : Hid (g = β)) (hn : n ≤ cap) (hn2 : n ≤ 100000) (hb : b ≤ n) (ha : a ≤ n) (hl : l.length ≤ 100000)
    (w : World) (hS : St W0 w g cap n f G l.length) :
    Calls Try.prog 82 #[.slice (some ⟨g, 0, none⟩) n cap, .int .i64 a, .int .i64 b, .func (.func 27) #[] #[.pointer (some ⟨Bs, 0, none⟩)]] w fun e w' =>
      e = .returned (.tuple #[]) ∧ St W0 w' g cap n (isort (ltK l) a (b - (a + 1)) (a + 1) f) G l.length := by
  have HC := Lib.hid hC
  have HS := Lib.hid hS
  clear hC hS
  go_enter Try.func82, Try.ntmps82
  go_wp2_with fail
  go_loopw [8] (fun iv wr => ∃ (i : Nat) (f' : Nat → Int), a + 1 ≤ i ∧ i ≤ max (a + 1) b ∧ iv = .int .i64 i ∧ Hid (isort (ltK l) a (b - i) i f' = isort (ltK l) a (b - (a + 1)) (a + 1) f) ∧ Hid (St W0 wr g cap n f' G l.length)) (fun iv _ => b - (intOf iv).toNat)
  case atStart => exact ⟨a + 1, f, by omega, by omega, by go_num, Lib.hid rfl, HS⟩
  case round =>
    obtain ⟨i, f', hi1, hi2, rfl, hF, hS'⟩ := hrel
    by_cases hlt : i < b
    · obtain ⟨W1, rfl⟩ : ∃ W1 : World, W1 = wr := ⟨_, rfl⟩
      have hFs : isort (ltK l) a (b - i) i f' = isort (ltK l) a (b - (i + 1)) (i + 1) (bub (ltK l) a i f') := by
        rw [show b - i = (b - (i + 1)) + 1 by omega]; rfl
      have HFS := Lib.hid (hFs.symm.trans hF.out)
      clear hFs hF
      go_wp2_with fail
      go_loopw [9] (fun jv wr => ∃ (j : Nat) (f'' : Nat → Int), a ≤ j ∧ j ≤ i ∧ jv = .int .i64 j ∧ Hid (bub (ltK l) a j f'' = bub (ltK l) a i f') ∧ Hid (St W0 wr g cap n f'' G l.length)) (fun jv _ => (intOf jv).toNat)
      case atStart => exact ⟨i, f', by omega, by omega, rfl, Lib.hid rfl, hS'⟩
      case round =>
        obtain ⟨j, f'', hj1, hj2, rfl, hB, hS2⟩ := hrel
        have HCW := Lib.hid (HC.out.below (hS2.out.bl hg))
        by_cases hja : a < j
        · obtain ⟨m, rfl⟩ : ∃ m, j = m + 1 := ⟨j - 1, by omega⟩
          have c1 := hS2.out.row.cell (k := m + 1) (by omega) (by omega)
          have c0 := hS2.out.row.cell (k := m) (by omega) (by omega)
          obtain ⟨v1, v1'⟩ := hS2.out.val (m + 1) (by omega)
          obtain ⟨v0, v0'⟩ := hS2.out.val m (by omega)
          have hja' : ((a : Int) < (m : Int) + 1) := by omega
          have hbs : bub (ltK l) a (m + 1) f'' = if decide (a < m + 1) && ltK l (f'' (m + 1)) (f'' m) then bub (ltK l) a m (swp f'' (m + 1) m) else f'' := rfl
          rw [decide_eq_true hja] at hbs
          have HBS := Lib.hid (hbs.symm.trans hB.out)
          have hcond : ltK l (f'' (m + 1)) (f'' m) = decide (cmpI (sz l (f'' (m + 1))) (sz l (f'' m)) < 0) := rfl
          have HCO := Lib.hid hcond
          have hgl : g < wr.heap.size := World.rowIs.lt hS2.out.row
          have hfr := fun k => World.rowIs.frozen hS2.out.row k
          have HFR := Lib.hid hfr
          clear hfr
          clear hbs hcond hB
          obtain ⟨X, hX⟩ : ∃ X, X = f'' (m + 1) := ⟨_, rfl⟩
          obtain ⟨Y, hY⟩ : ∃ Y, Y = f'' m := ⟨_, rfl⟩
          rw [← hX] at c1 v1 v1' HBS HCO
          rw [← hY] at c0 v0 v0' HBS HCO
          have HX := Lib.hid hX
          have HY := Lib.hid hY
          clear hX hY
          obtain ⟨x, rfl⟩ := Int.eq_ofNat_of_zero_le v1
          obtain ⟨y, rfl⟩ := Int.eq_ofNat_of_zero_le v0
          cases hlt2 : decide (cmpI (sz l x) (sz l y) < 0)
          · go_wp2_with fail
            refine wp_region_calm (by kernel_rfl) (by kernel_rfl) ?_
            repeat (go_big_quiet_step ((go_at_call 27; exact calm (cmp_any β ao ac l Bs Bl x y _ (Cap.below HCW.out (grown_at β (BW.below _))) (by omega) (by omega) hl))))
            refine wpQuiet_nil ?_
            rintro _ ⟨z, rfl⟩
            go_wp2_with fail
            go_roundw
            case rel => exact ⟨i + 1, f'', by omega, by omega, by go_num, Lib.hid (by have h := HBS.out; rw [HCO.out, hlt2, Bool.and_false, if_neg (by decide)] at h; rw [h]; exact HFS.out), Lib.hid (hS2.out.below z.below)⟩
            case measure => simp [intOf]; omega
          · go_wp2_with fail
            refine wp_region_calm (by kernel_rfl) (by kernel_rfl) ?_
            repeat (go_big_quiet_step ((go_at_call 27; exact calm (cmp_any β ao ac l Bs Bl x y _ (Cap.below HCW.out (grown_at β (BW.below _))) (by omega) (by omega) hl))))
            refine wpQuiet_nil ?_
            rintro _ ⟨z, rfl⟩
            have hzs := z.below.size
            have S3 := Lib.hid (hS2.out.below z.below)
            have d1 := (z.cell hgl (m + 1)).trans c1
            have d0 := (z.cell hgl m).trans c0
            obtain ⟨W3, hW3⟩ : ∃ W3, W3 = z.at := ⟨_, rfl⟩
            rw [← hW3] at d1 d0 hzs S3 ⊢
            have hf1 := World.rowIs.frozen S3.out.row (m + 1)
            have hf0 := World.rowIs.frozen S3.out.row m
            have hg3 : g < W3.heap.size := by omega
            clear hW3 z c1 c0
            go_wp2_with fail
            go_region
            all_goals
              go_wp2_with fail
              go_roundw
              case rel => exact ⟨m, swp f'' (m + 1) m, by omega, by omega, rfl, Lib.hid (by have h := HBS.out; rw [HCO.out, hlt2] at h; exact h), Lib.hid (S3.out.swap (by omega) (by omega) HX.out HY.out)⟩
              case measure => simp [intOf]
        · obtain rfl : j = a := by omega
          have hja' : decide ((j : Int) < j) = false := by simp
          go_wp2_with fail
          refine wp_region_calm (by kernel_rfl) (by kernel_rfl) ?_
          repeat (go_big_quiet_step (fail))
          refine wpQuiet_nil ?_
          rintro _ ⟨z, rfl⟩
          go_wp2_with fail
          go_roundw
          case rel => exact ⟨i + 1, f'', by omega, by omega, by go_num, Lib.hid (by have h := hB.out; rw [← HFS.out, ← h]; cases j <;> simp [bub]), Lib.hid (hS2.out.below z.below)⟩
          case measure => simp [intOf]; omega
    · obtain rfl | hle : i = b ∨ b < i := by omega
      · go_wp2_with fail
        go_end0
        exact ⟨rfl, by have := hF.out; rw [Nat.sub_self] at this; rw [← this]; exact hS'.out⟩
      · go_wp2_with fail
        go_end0
        exact ⟨rfl, by have := hF.out; rw [show b - i = 0 by omega] at this; rw [← this]; exact hS'.out⟩

/-- The row is sorted, and holds what it held. -/
def Done (l : List Int) (W0 : World) (g cap n : Nat) (f : Nat → Int) (G : Nat → Value) (w' : World) : Prop :=
  ∃ f', St W0 w' g cap n f' G l.length ∧ On (R l) f' 0 n ∧ Same f f' 0 n

theorem isort_done {l : List Int} {W0 w' : World} {g cap n : Nat} {f : Nat → Int} {G : Nat → Value} (hf : ∀ p q, p < q → q < n → f p < f q) (h : St W0 w' g cap n (isort (ltK l) 0 (n - 1) 1 f) G l.length) : Done l W0 g cap n f G w' := by
  by_cases h0 : n = 0
  · subst h0
    exact ⟨_, h, fun p q _ _ hq => by omega, ⟨fun v => ⟨fun ⟨k, _, h2, _⟩ => by omega, fun ⟨k, _, h2, _⟩ => by omega⟩, fun k hk => rfl⟩⟩
  · obtain ⟨q1, q2⟩ := isort_sorts (lt := ltK l) (r := R l) (a := 0) (b := n) (n - 1) 1 f (by omega) (by omega) (fun _ _ _ => R_trans) (ltK_spec l) (fun p q _ _ hq => by omega) (fun p q _ hpq _ hq => hf p q hpq hq)
    exact ⟨_, h, q1, q2⟩

set_option maxRecDepth 100000 in
set_option maxHeartbeats 1000000 in
theorem stable_small (β : Nat) (W0 : World) (g cap n : Nat) (f : Nat → Int) (G : Nat → Value) (ao : Option Addr) (ac : Nat) (l : List Int) (Bs Bl : Nat) (hC : Cap β W0 ao ac l Bs Bl) (hg : Hid (g = β)) (hn : n ≤ cap) (hn2 : n < 20) (hl : l.length ≤ 100000)
    (hf : ∀ p q, p < q → q < n → f p < f q) (w : World) (hS : St W0 w g cap n f G l.length) :
    Calls Try.prog 56 #[.slice (some ⟨g, 0, none⟩) n cap, .int .i64 n, .func (.func 27) #[] #[.pointer (some ⟨Bs, 0, none⟩)]] w fun e w' =>
      e = .returned (.tuple #[]) ∧ Done l W0 g cap n f G w' := by
  have HC := Lib.hid hC
  have HS := Lib.hid hS
  have HF := Lib.hid hf
  clear hC hS hf
  go_enter Try.func56, Try.ntmps56
  go_wp2_with fail
  go_loopw [7, 8] (fun av bv wr => av = .int .i64 0 ∧ bv = .int .i64 20 ∧ wr = w) (fun _ _ _ => 0)
  case atStart => exact ⟨rfl, rfl, rfl⟩
  case round =>
    obtain ⟨rfl, rfl, rfl⟩ := hrel
    have hlt : ¬ ((20 : Int) ≤ n) := by omega
    go_wp2_with fail
    refine (isort_any β W0 g cap n 0 n f G ao ac l Bs Bl HC.out hg hn (by omega) (Nat.le_refl _) (by omega) hl _ HS.out).mono ?_
    rintro e w1 ⟨rfl, hS1⟩
    have HS1 := Lib.hid (isort_done HF.out hS1)
    clear hS1
    go_wp2_with fail
    go_loopw [6] (fun bv wr => bv = .int .i64 20 ∧ wr = w1) (fun _ _ => 0)
    case atStart => exact ⟨rfl, rfl⟩
    case round =>
      obtain ⟨rfl, rfl⟩ := hrel
      have hlt2 : ¬ ((20 : Int) < n) := by omega
      go_wp2_with fail
      go_end0
      exact ⟨rfl, HS1.out⟩

theorem sort_small (β : Nat) (W0 : World) (g cap n : Nat) (f : Nat → Int) (G : Nat → Value) (ao : Option Addr) (ac : Nat) (l : List Int) (Bs Bl : Nat) (hC : Cap β W0 ao ac l Bs Bl) (hg : Hid (g = β)) (hn : n ≤ cap) (hn2 : n < 20) (hl : l.length ≤ 100000)
    (hf : ∀ p q, p < q → q < n → f p < f q) (w : World) (hS : St W0 w g cap n f G l.length) :
    Calls Try.prog 26 #[.slice (some ⟨g, 0, none⟩) n cap, .func (.func 27) #[] #[.pointer (some ⟨Bs, 0, none⟩)]] w fun e w' =>
      e = .returned (.tuple #[]) ∧ Done l W0 g cap n f G w' := by
  have HST := Lib.hid (stable_small β W0 g cap n f G ao ac l Bs Bl hC hg hn hn2 hl hf w hS)
  clear hC hS hf
  go_enter Try.func26, Try.ntmps26
  go_wp2_with fail
  refine HST.out.mono ?_
  rintro e w1 ⟨rfl, hd⟩
  have HD := Lib.hid hd
  clear hd
  go_wp2_with fail
  go_end0
  exact ⟨rfl, HD.out⟩
end Go.Proofs.Ytihfcohebgemdaa.Tier
