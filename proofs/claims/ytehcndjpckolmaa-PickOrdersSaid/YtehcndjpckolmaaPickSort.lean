/- The walks of layer 43 (pick): the comparison of Order; insertion sort by it. -/
import Derived.Test.YtehcndjpckolmaaPickOrder
import Derived.Test.YtehcndjpckolmaaSortPlain
namespace Go.Proofs.Ytehcndjpckolmaa.Pick
open Go.RowKit Go.Proofs.Ytehcndjpckolmaa.Ints Go.Proofs.Ytehcndjpckolmaa.Sort

theorem key_bd (now : Int) (l : List Need) (i : Int) : 0 ≤ key now l i ∧ key now l i ≤ 1099511628786 := scoreF_bd _ _

/-- What the comparison reads: the two captured boxes, the row of ranges; all of it lies below β. -/
structure Cap (β : Nat) (W : World) (ao : Option Addr) (ac : Nat) (l : List Need) (now : Int) (Bl Bn : Nat) : Prop where
  cl : W.cell? ⟨Bl, 0, none⟩ = some (.slice ao l.length ac)
  cn : W.cell? ⟨Bn, 0, none⟩ = some (.int .i64 now)
  row : NRow W (.slice ao l.length ac) l
  hl : Bl < β
  hn : Bn < β
  ha : 0 < l.length → ∀ b off, ao = some ⟨b, off, none⟩ → b < β
  hb : β ≤ W.heap.size
theorem Cap.below {β : Nat} {W W' : World} {ao : Option Addr} {ac : Nat} {l : List Need} {now : Int} {Bl Bn : Nat} (h : Cap β W ao ac l now Bl Bn) (hb : Below β W W') : Cap β W' ao ac l now Bl Bn := by
  refine ⟨(hb.cell (p := ⟨Bl, 0, none⟩) h.hl).trans h.cl, (hb.cell (p := ⟨Bn, 0, none⟩) h.hn).trans h.cn, ?_, h.hl, h.hn, h.ha, Nat.le_trans h.hb hb.size⟩
  obtain ⟨ao', cap, hv, h1, h2, h3⟩ := h.row
  cases hv
  refine ⟨ao, ac, rfl, h1, h2, ?_⟩
  by_cases h0 : l.length = 0
  · exact Or.inl h0
  rcases h3 with h3 | ⟨b, off, hA, hlt, hc⟩
  · exact Or.inl h3
  · exact Or.inr ⟨b, off, hA, Nat.lt_of_lt_of_le hlt hb.size, fun i x hi j hj => (hb.cell (p := ⟨b, off + i * 3 + j, none⟩) (h.ha (by omega) _ _ hA)).trans (hc i x hi j hj)⟩

set_option maxHeartbeats 1000000 in
theorem cmp_any (β : Nat) (ao : Option Addr) (ac : Nat) (l : List Need) (now : Int) (Bl Bn : Nat) (x y : Nat) (W : World) (h : Cap β W ao ac l now Bl Bn) (hx : x < l.length) (hy : y < l.length) (hl : l.length ≤ 100000) :
    Calls Try.prog 90 #[.int .i64 x, .int .i64 y, .pointer (some ⟨Bl, 0, none⟩), .pointer (some ⟨Bn, 0, none⟩)] W fun e W' => e = .returned (.int .i64 (key now l y - key now l x)) ∧ Below W.heap.size W W' := by
  obtain ⟨cl, cn, row, h1, h2, h3, h4⟩ := h
  have gx := nd_get l (x : Int) (by omega) (by omega)
  have gy := nd_get l (y : Int) (by omega) (by omega)
  rw [Int.toNat_natCast] at gx gy
  obtain ⟨xb, xoff, rfl, hxb, x0, x1, x2⟩ := need_at row gx
  obtain ⟨yb, yoff, hye, hyb, y0, y1, y2⟩ := need_at row gy
  cases hye
  obtain ⟨kx0, kx1⟩ := key_bd now l x
  obtain ⟨ky0, ky1⟩ := key_bd now l y
  have hkx : key now l x = scoreF (nd l x) now := rfl
  have hky : key now l y = scoreF (nd l y) now := rfl
  rw [hkx] at kx0 kx1
  rw [hky] at ky0 ky1
  rw [hkx, hky]
  generalize nd l (x : Int) = X at *
  generalize nd l (y : Int) = Y at *
  have hBl : Bl < W.heap.size := by omega
  have hBn : Bn < W.heap.size := by omega
  clear row hkx hky gx gy h3
  go_enter Try.func90, Try.ntmps90
  go_wp2
  refine wp_region_calm (by kernel_rfl) (by kernel_rfl) ?_
  repeat (go_big_quiet_step ((go_at_call 23; exact calm (score_n _ _ _))))
  refine wpQuiet_nil ?_
  rintro _ ⟨z, rfl⟩
  go_wp2
  go_ret
  exact ⟨rfl, z.below⟩

/-- A row of ints, at whose end there may be other cells. -/
def RowF (w : World) (g cap n : Nat) (f : Nat → Int) (G : Nat → Value) : Prop := w.rowIs g 3 cap (fun k => if k < n then .int .i64 (f k) else G k)
theorem RowF.cell {w : World} {g cap n : Nat} {f : Nat → Int} {G : Nat → Value} (h : RowF w g cap n f G) {k : Nat} (hk : k < n) (hc : k < cap) : w.cell? ⟨g, k, none⟩ = some (.int .i64 (f k)) := by
  have := World.rowIs.cell h hc
  rwa [if_pos hk] at this
theorem RowF.below {w w' : World} {g cap n : Nat} {f : Nat → Int} {G : Nat → Value} (h : RowF w g cap n f G) (hb : Below w.heap.size w w') : RowF w' g cap n f G := World.rowIs.of_block h (hb.block g (World.rowIs.lt h))
theorem RowF.swap {w : World} {g cap n : Nat} {f : Nat → Int} {G : Nat → Value} (h : RowF w g cap n f G) {i j : Nat} (hi : i < n) (hj : j < n) :
    RowF ((w.setCell ⟨g, i, none⟩ (.int .i64 (f j))).setCell ⟨g, j, none⟩ (.int .i64 (f i))) g cap n (swp f i j) G := by
  refine World.rowIs.congr (World.rowIs.set (World.rowIs.set h i _) j _) fun k hk => ?_
  unfold swp
  by_cases e1 : k = j
  · subst e1
    by_cases e2 : k = i
    · subst e2; simp [hi]
    · simp [hj, e2]
  · by_cases e2 : k = i
    · subst e2; simp [e1, hi]
    · by_cases hk2 : k < n <;> simp [e1, e2, hk2]
theorem RowF.swap' {w : World} {g cap n : Nat} {f : Nat → Int} {G : Nat → Value} (h : RowF w g cap n f G) {i j : Nat} (hi : i < n) (hj : j < n) :
    RowF ((w.setCell ⟨g, j, none⟩ (.int .i64 (f i))).setCell ⟨g, i, none⟩ (.int .i64 (f j))) g cap n (swp f i j) G := by
  refine World.rowIs.congr (World.rowIs.set (World.rowIs.set h j _) i _) fun k hk => ?_
  unfold swp
  by_cases e1 : k = i
  · subst e1; simp [hi]
  · by_cases e2 : k = j
    · subst e2; simp [e1, hj]
    · by_cases hk2 : k < n <;> simp [e1, e2, hk2]

theorem grown_below {a w w' : World} {row : Option Nat} (h : a.grownBy w row) (hb : Below w.heap.size w w') : a.grownBy w' row :=
  ⟨hb.os.trans h.os, hb.tape.trans h.tape, hb.output.trans h.output, Nat.le_trans h.size hb.size, fun i hi hne => (hb.block i (Nat.lt_of_lt_of_le hi h.size)).trans (h.block i hi hne)⟩

/-- Where the sort stands. -/
structure St (W0 W : World) (g cap n : Nat) (f : Nat → Int) (G : Nat → Value) (N : Nat) : Prop where
  row : RowF W g cap n f G
  gr : W0.grownBy W (some g)
  val : ∀ k, k < n → 0 ≤ f k ∧ f k < N
theorem St.bl {W0 W : World} {g cap n N : Nat} {f : Nat → Int} {G : Nat → Value} (h : St W0 W g cap n f G N) {β : Nat} (hg : β ≤ g) (hβ : β ≤ W0.heap.size) : Below β W0 W :=
  (Below.refl _ _).grown h.gr hβ (by rintro k ⟨⟩; exact hg)
theorem St.below {W0 W W' : World} {g cap n N : Nat} {f : Nat → Int} {G : Nat → Value} (h : St W0 W g cap n f G N) (hb : Below W.heap.size W W') : St W0 W' g cap n f G N := ⟨h.row.below hb, grown_below h.gr hb, h.val⟩
theorem St.swap {W0 W : World} {g cap n N : Nat} {f : Nat → Int} {G : Nat → Value} (h : St W0 W g cap n f G N) {i j : Nat} {x y : Int} (hi : i < n) (hj : j < n) (hx : x = f i) (hy : y = f j) :
    St W0 ((W.setCell ⟨g, i, none⟩ (.int .i64 y)).setCell ⟨g, j, none⟩ (.int .i64 x)).drew g cap n (swp f i j) G N := by
  subst hx; subst hy
  refine ⟨World.rowIs.drew (h.row.swap hi hj), grown_drew (grown_setCell (grown_setCell h.gr (p := ⟨g, i, none⟩) (Or.inl rfl) _) (p := ⟨g, j, none⟩) (Or.inl rfl) _), fun k hk => ?_⟩
  unfold swp
  split
  · exact h.val j hj
  · split
    · exact h.val i hi
    · exact h.val k hk

def ltK (now : Int) (l : List Need) (x y : Int) : Bool := decide (key now l y - key now l x < 0)

set_option maxRecDepth 100000 in
set_option maxHeartbeats 4000000 in
theorem isort_any (β : Nat) (W0 : World) (g cap n a b : Nat) (f : Nat → Int) (G : Nat → Value) (ao : Option Addr) (ac : Nat) (l : List Need) (now : Int) (Bl Bn : Nat) (hC : Cap β W0 ao ac l now Bl Bn) (hg : β ≤ g) (hn : n ≤ cap) (hn2 : n ≤ 100000) (hb : b ≤ n) (ha : a ≤ n) (hl : l.length ≤ 100000)
    (w : World) (hS : St W0 w g cap n f G l.length) :
    Calls Try.prog 116 #[.slice (some ⟨g, 0, none⟩) n cap, .int .i64 a, .int .i64 b, .func (.func 90) #[] #[.pointer (some ⟨Bl, 0, none⟩), .pointer (some ⟨Bn, 0, none⟩)]] w fun e w' =>
      e = .returned (.tuple #[]) ∧ St W0 w' g cap n (isort (ltK now l) a (b - (a + 1)) (a + 1) f) G l.length := by
  have HC := Lib.hid hC
  have HS := Lib.hid hS
  clear hC hS
  go_enter Try.func116, Try.ntmps116
  go_wp2_with fail
  go_loopw [8] (fun iv wr => ∃ (i : Nat) (f' : Nat → Int), a + 1 ≤ i ∧ i ≤ max (a + 1) b ∧ iv = .int .i64 i ∧ Hid (isort (ltK now l) a (b - i) i f' = isort (ltK now l) a (b - (a + 1)) (a + 1) f) ∧ Hid (St W0 wr g cap n f' G l.length)) (fun iv _ => b - (intOf iv).toNat)
  case atStart => exact ⟨a + 1, f, by omega, by omega, by go_num, Lib.hid rfl, HS⟩
  case round =>
    obtain ⟨i, f', hi1, hi2, rfl, hF, hS'⟩ := hrel
    by_cases hlt : i < b
    · obtain ⟨W1, rfl⟩ : ∃ W1 : World, W1 = wr := ⟨_, rfl⟩
      have hFs : isort (ltK now l) a (b - i) i f' = isort (ltK now l) a (b - (i + 1)) (i + 1) (bub (ltK now l) a i f') := by
        rw [show b - i = (b - (i + 1)) + 1 by omega]; rfl
      have HFS := Lib.hid (hFs.symm.trans hF.out)
      clear hFs hF
      go_wp2_with fail
      go_loopw [9] (fun jv wr => ∃ (j : Nat) (f'' : Nat → Int), a ≤ j ∧ j ≤ i ∧ jv = .int .i64 j ∧ Hid (bub (ltK now l) a j f'' = bub (ltK now l) a i f') ∧ Hid (St W0 wr g cap n f'' G l.length)) (fun jv _ => (intOf jv).toNat)
      case atStart => exact ⟨i, f', by omega, by omega, rfl, Lib.hid rfl, hS'⟩
      case round =>
        obtain ⟨j, f'', hj1, hj2, rfl, hB, hS2⟩ := hrel
        have hβ : β ≤ wr.heap.size := Nat.le_trans HC.out.hb (hS2.out.bl hg HC.out.hb).size
        have HCW := Lib.hid (HC.out.below (hS2.out.bl hg HC.out.hb))
        by_cases hja : a < j
        · obtain ⟨m, rfl⟩ : ∃ m, j = m + 1 := ⟨j - 1, by omega⟩
          have c1 := hS2.out.row.cell (k := m + 1) (by omega) (by omega)
          have c0 := hS2.out.row.cell (k := m) (by omega) (by omega)
          obtain ⟨v1, v1'⟩ := hS2.out.val (m + 1) (by omega)
          obtain ⟨v0, v0'⟩ := hS2.out.val m (by omega)
          have hja' : ((a : Int) < (m : Int) + 1) := by omega
          have hbs : bub (ltK now l) a (m + 1) f'' = if decide (a < m + 1) && ltK now l (f'' (m + 1)) (f'' m) then bub (ltK now l) a m (swp f'' (m + 1) m) else f'' := rfl
          rw [decide_eq_true hja] at hbs
          have HBS := Lib.hid (hbs.symm.trans hB.out)
          have hcond : ltK now l (f'' (m + 1)) (f'' m) = decide (key now l (f'' m) - key now l (f'' (m + 1)) < 0) := rfl
          have HCO := Lib.hid hcond
          have hgl : g < wr.heap.size := World.rowIs.lt hS2.out.row
          have hfr := fun k => World.rowIs.frozen hS2.out.row k
          have HFR := Lib.hid hfr
          clear hfr
          clear hbs hcond hB
          obtain ⟨X, hX⟩ : ∃ X, X = f'' (m + 1) := ⟨_, rfl⟩
          obtain ⟨Y, hY⟩ : ∃ Y, Y = f'' m := ⟨_, rfl⟩
          rw [← hX] at c1 v1 v1' HBS HCO
          rw [← hY] at c0 v0 v0' HBS HCO
          have HX := Lib.hid hX
          have HY := Lib.hid hY
          clear hX hY
          obtain ⟨x, rfl⟩ := Int.eq_ofNat_of_zero_le v1
          obtain ⟨y, rfl⟩ := Int.eq_ofNat_of_zero_le v0
          cases hlt2 : decide (key now l y - key now l x < 0)
          · go_wp2_with fail
            refine wp_region_calm (by kernel_rfl) (by kernel_rfl) ?_
            repeat (go_big_quiet_step ((go_at_call 90; exact calm (cmp_any β ao ac l now Bl Bn x y _ (Cap.below HCW.out ((BW.below _).mono hβ)) (by omega) (by omega) hl))))
            refine wpQuiet_nil ?_
            rintro _ ⟨z, rfl⟩
            go_wp2_with fail
            go_roundw
            case rel => exact ⟨i + 1, f'', by omega, by omega, by go_num, Lib.hid (by have h := HBS.out; rw [HCO.out, hlt2, Bool.and_false, if_neg (by decide)] at h; rw [h]; exact HFS.out), Lib.hid (hS2.out.below z.below)⟩
            case measure => simp [intOf]; omega
          · go_wp2_with fail
            refine wp_region_calm (by kernel_rfl) (by kernel_rfl) ?_
            repeat (go_big_quiet_step ((go_at_call 90; exact calm (cmp_any β ao ac l now Bl Bn x y _ (Cap.below HCW.out ((BW.below _).mono hβ)) (by omega) (by omega) hl))))
            refine wpQuiet_nil ?_
            rintro _ ⟨z, rfl⟩
            have hzs := z.below.size
            have S3 := Lib.hid (hS2.out.below z.below)
            have d1 := (z.cell hgl (m + 1)).trans c1
            have d0 := (z.cell hgl m).trans c0
            obtain ⟨W3, hW3⟩ : ∃ W3, W3 = z.at := ⟨_, rfl⟩
            rw [← hW3] at d1 d0 hzs S3 ⊢
            have hf1 := World.rowIs.frozen S3.out.row (m + 1)
            have hf0 := World.rowIs.frozen S3.out.row m
            have hg3 : g < W3.heap.size := by omega
            clear hW3 z c1 c0
            go_wp2_with fail
            go_region
            all_goals
              go_wp2_with fail
              go_roundw
              case rel => exact ⟨m, swp f'' (m + 1) m, by omega, by omega, rfl, Lib.hid (by have h := HBS.out; rw [HCO.out, hlt2] at h; exact h), Lib.hid (S3.out.swap (by omega) (by omega) HX.out HY.out)⟩
              case measure => simp [intOf]
        · obtain rfl : j = a := by omega
          have hja' : decide ((j : Int) < j) = false := by simp
          go_wp2_with fail
          refine wp_region_calm (by kernel_rfl) (by kernel_rfl) ?_
          repeat (go_big_quiet_step (fail))
          refine wpQuiet_nil ?_
          rintro _ ⟨z, rfl⟩
          go_wp2_with fail
          go_roundw
          case rel => exact ⟨i + 1, f'', by omega, by omega, by go_num, Lib.hid (by have h := hB.out; rw [← HFS.out, ← h]; cases j <;> simp [bub]), Lib.hid (hS2.out.below z.below)⟩
          case measure => simp [intOf]; omega
    · obtain rfl | hle : i = b ∨ b < i := by omega
      · go_wp2_with fail
        go_end0
        exact ⟨rfl, by have := hF.out; rw [Nat.sub_self] at this; rw [← this]; exact hS'.out⟩
      · go_wp2_with fail
        go_end0
        exact ⟨rfl, by have := hF.out; rw [show b - i = 0 by omega] at this; rw [← this]; exact hS'.out⟩
end Go.Proofs.Ytehcndjpckolmaa.Pick
