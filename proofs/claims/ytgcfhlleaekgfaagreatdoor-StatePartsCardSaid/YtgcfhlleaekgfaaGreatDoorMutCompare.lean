/- The walks of slices.CompareFunc at stamps, mut.Compare, mut.Same, siblings (layers 7, 8). -/
import Derived.Test.YtgcfhlleaekgfaaGreatDoorMutRow
namespace Go.Proofs.YtgcfhlleaekgfaaGreatDoor.Mut
open Go.RowKit Go.Sort Go.Proofs.YtgcfhlleaekgfaaGreatDoor.Ord

set_option maxHeartbeats 2000000 in
set_option maxRecDepth 100000 in
theorem rowc_any (a b : List Stp) (va vb : Value) (w : World) (ha : SRow w va a) (hb : SRow w vb b) (h1 : a.length ≤ 1000000) (h2 : b.length ≤ 1000000) :
    Calls Tryz.prog 112 #[va, vb, .func (.func 99) #[] #[]] w fun e w' => e = .returned (.int .i64 (rowC stC a b)) ∧ Lays w w' := by
  obtain ⟨ao, ac, rfl, -, -⟩ := Lst.form ha
  obtain ⟨bo, bc, rfl, -, -⟩ := Lst.form hb
  obtain ⟨n, hn⟩ : ∃ n, n = a.length := ⟨_, rfl⟩
  obtain ⟨m, hm⟩ : ∃ n, n = b.length := ⟨_, rfl⟩
  rw [← hn] at ha h1 ⊢
  rw [← hm] at hb h2 ⊢
  obtain ⟨R, hR⟩ : ∃ R, R = rowC stC a b := ⟨_, rfl⟩
  rw [← hR]
  have HA := Lib.hid ha
  have HB := Lib.hid hb
  have HN := Lib.hid hn
  have HM := Lib.hid hm
  have HR := Lib.hid hR
  clear ha hb hn hm hR
  go_enter Tryz.func112, Tryz.ntmps112
  go_wp2_with fail
  go_loopw [13] (fun iv wr => ∃ k : Nat, k ≤ n ∧ iv = .int .i64 k ∧ Hid (rowC stC (a.drop k) (b.drop k) = R) ∧ Lays w wr) (fun iv _ => n - (intOf iv).toNat)
  case atStart => exact ⟨0, by omega, rfl, Lib.hid (by rw [HR.out]; rfl), Lays.refl _⟩
  case round =>
    obtain ⟨k, hk, rfl, hrow, hl⟩ := hrel
    by_cases hlt : k < n
    · have hka : k < a.length := by have := HN.out; omega
      obtain ⟨x, hx⟩ : ∃ x, a[k]? = some x := ⟨_, List.getElem?_eq_getElem hka⟩
      have hxe : a[k] = x := (List.getElem?_eq_some_iff.1 hx).2
      obtain ⟨xb, xoff, rfl, hxb, x0, x1, x2⟩ := stamp_at (HA.out.below hl.below) hx
      have hda : a.drop k = x :: a.drop (k + 1) := by rw [List.drop_eq_getElem_cons hka, hxe]
      by_cases hltb : k < m
      · have hkb : k < b.length := by have := HM.out; omega
        obtain ⟨y, hy⟩ : ∃ y, b[k]? = some y := ⟨_, List.getElem?_eq_getElem hkb⟩
        have hye : b[k] = y := (List.getElem?_eq_some_iff.1 hy).2
        obtain ⟨yb, yoff, rfl, hyb, y0, y1, y2⟩ := stamp_at (HB.out.below hl.below) hy
        have hdb : b.drop k = y :: b.drop (k + 1) := by rw [List.drop_eq_getElem_cons hkb, hye]
        have hst := fun w => stamp_any x y w
        have hrow' : (if stC x y = 0 then rowC stC (a.drop (k + 1)) (b.drop (k + 1)) else stC x y) = R := by rw [← hrow.out, hda, hdb]; rfl
        obtain ⟨c, hc⟩ : ∃ c, c = stC x y := ⟨_, rfl⟩
        rw [← hc] at hst hrow'
        have HST := Lib.hid hst
        have HRR := Lib.hid hrow'
        clear hst hrow' hc hda hdb hx hy hxe hye hrow
        go_wp2_with fail
        refine (HST.out _).mono ?_
        rintro e w1 ⟨rfl, hb1⟩
        have hl1 : Lays w w1 := ((hl.alloc _).alloc _).trans hb1
        by_cases h0 : c = 0
        · have HRZ := Lib.hid (show rowC stC (a.drop (k + 1)) (b.drop (k + 1)) = R by have := HRR.out; rw [if_pos h0] at this; exact this)
          go_wp2_with fail
          go_roundw
          case rel => exact ⟨k + 1, by omega, by go_num, HRZ, hl1⟩
          case measure => simp [intOf]; omega
        · have HRZ := Lib.hid (show c = R by have := HRR.out; rw [if_neg h0] at this; exact this)
          go_wp2_with fail
          go_ret
          exact ⟨ret_int (by rw [← HRZ.out]), hl1⟩
      · have HRZ := Lib.hid (show (1 : Int) = R by rw [← hrow.out, hda, show List.drop k b = [] from List.drop_of_length_le (by have := HM.out; omega)]; rfl)
        clear hx hxe hda hrow
        go_wp2_with fail
        go_ret
        exact ⟨ret_int (by rw [← HRZ.out]), hl.alloc _⟩
    · obtain rfl : k = n := by omega
      by_cases hltb : k < m
      · have HRZ := Lib.hid (show (-1 : Int) = R by
          rw [← hrow.out, List.drop_of_length_le (by have := HN.out; omega)]
          cases hd : b.drop k with
          | nil => have := congrArg List.length hd; rw [List.length_drop] at this; simp at this; have := HM.out; omega
          | cons y l => rfl)
        clear hrow
        go_wp2_with fail
        go_ret
        exact ⟨ret_int (by rw [← HRZ.out]), hl⟩
      · have HRZ := Lib.hid (show (0 : Int) = R by rw [← hrow.out, List.drop_of_length_le (by have := HN.out; omega), List.drop_of_length_le (by have := HM.out; omega)]; rfl)
        clear hrow
        go_wp2_with fail
        go_ret
        exact ⟨ret_int (by rw [← HRZ.out]), hl⟩

set_option maxHeartbeats 4000000 in
set_option maxRecDepth 100000 in
theorem compare_any (x y : Ro) (w : World) (hx : Over w x) (hy : Over w y) (h1 : x.1.over.length ≤ 1000000) (h2 : y.1.over.length ≤ 1000000) :
    Calls Tryz.prog 60 #[vM x, vM y] w fun e w' => e = .returned (.int .i64 (muC x.1 y.1)) ∧ Lays w w' := by
  have hc0 := fun (z : World) (h : Lays w z) => rowc_any x.1.over y.1.over x.2 y.2 z (hx.below h.below) (hy.below h.below) h1 h2
  obtain ⟨⟨at1, ak1, akey1, afin1, aval1, aex1, ⟨ap1, al1, aw1⟩, aov1⟩, av1⟩ := x
  obtain ⟨⟨at2, ak2, akey2, afin2, aval2, aex2, ⟨ap2, al2, aw2⟩, aov2⟩, av2⟩ := y
  have hs := fun w => stamp_any ⟨ap1, al1, aw1⟩ ⟨ap2, al2, aw2⟩ w
  have hmu : muC ⟨at1, ak1, akey1, afin1, aval1, aex1, ⟨ap1, al1, aw1⟩, aov1⟩ ⟨at2, ak2, akey2, afin2, aval2, aex2, ⟨ap2, al2, aw2⟩, aov2⟩ = orL [stC ⟨ap1, al1, aw1⟩ ⟨ap2, al2, aw2⟩, cmpI at1 at2, cmpI ak1 ak2, cmpS akey1 akey2, cmpS afin1 afin2, cmpS aval1 aval2, cmpI aex1 aex2, rowC stC aov1 aov2] := rfl
  rw [hmu]
  obtain ⟨c1, hc1⟩ : ∃ c, c = stC ⟨ap1, al1, aw1⟩ ⟨ap2, al2, aw2⟩ := ⟨_, rfl⟩
  obtain ⟨c8, hc8⟩ : ∃ c, c = rowC stC aov1 aov2 := ⟨_, rfl⟩
  simp only [] at hc0 h1 h2
  rw [← hc1] at hs ⊢
  rw [← hc8] at hc0 ⊢
  have HS := Lib.hid hs
  have HC := Lib.hid hc0
  obtain ⟨ao1, ac1, e1, -, -⟩ := Over.form hx
  obtain ⟨ao2, ac2, e2, -, -⟩ := Over.form hy
  simp only [] at e1 e2
  subst e1 e2
  obtain ⟨n1, hn1⟩ : ∃ n, n = aov1.length := ⟨_, rfl⟩
  obtain ⟨n2, hn2⟩ : ∃ n, n = aov2.length := ⟨_, rfl⟩
  rw [← hn1, ← hn2] at HC
  unfold vM
  simp only []
  rw [← hn1, ← hn2]
  clear hs hc0 hc1 hc8 hmu hx hy h1 h2 hn1 hn2
  go_enter Tryz.func60, Tryz.ntmps60
  go_wp2_with fail
  have hl0 : Lays w ((w.alloc (.cells #[.int .i64 at1, .int .i64 ak1, .string akey1, .string afin1, .string aval1, .int .i64 aex1, .int .i64 ap1, .int .i64 al1, .int .i64 aw1, .slice ao1 n1 ac1] 29)).alloc (.cells #[.int .i64 at2, .int .i64 ak2, .string akey2, .string afin2, .string aval2, .int .i64 aex2, .int .i64 ap2, .int .i64 al2, .int .i64 aw2, .slice ao2 n2 ac2] 29)) := ((Lays.refl _).alloc _).alloc _
  have a0 : ∀ k, ((w.alloc (.cells #[.int .i64 at1, .int .i64 ak1, .string akey1, .string afin1, .string aval1, .int .i64 aex1, .int .i64 ap1, .int .i64 al1, .int .i64 aw1, .slice ao1 n1 ac1] 29)).alloc (.cells #[.int .i64 at2, .int .i64 ak2, .string akey2, .string afin2, .string aval2, .int .i64 aex2, .int .i64 ap2, .int .i64 al2, .int .i64 aw2, .slice ao2 n2 ac2] 29)).cell? ⟨w.heap.size, k, none⟩ = (#[Value.int .i64 at1, .int .i64 ak1, .string akey1, .string afin1, .string aval1, .int .i64 aex1, .int .i64 ap1, .int .i64 al1, .int .i64 aw1, .slice ao1 n1 ac1])[k]? := fun k => by
    rw [cell_of_row _ _ k _ 29 (0, 0) (push2 w.heap _ _).1]
  have b0 : ∀ k, ((w.alloc (.cells #[.int .i64 at1, .int .i64 ak1, .string akey1, .string afin1, .string aval1, .int .i64 aex1, .int .i64 ap1, .int .i64 al1, .int .i64 aw1, .slice ao1 n1 ac1] 29)).alloc (.cells #[.int .i64 at2, .int .i64 ak2, .string akey2, .string afin2, .string aval2, .int .i64 aex2, .int .i64 ap2, .int .i64 al2, .int .i64 aw2, .slice ao2 n2 ac2] 29)).cell? ⟨w.heap.size + 1, k, none⟩ = (#[Value.int .i64 at2, .int .i64 ak2, .string akey2, .string afin2, .string aval2, .int .i64 aex2, .int .i64 ap2, .int .i64 al2, .int .i64 aw2, .slice ao2 n2 ac2])[k]? := fun k => by
    rw [cell_of_row _ _ k _ 29 (0, 0) (push2 w.heap _ _).2]
  have hsz : w.heap.size + 1 < ((w.alloc (.cells #[.int .i64 at1, .int .i64 ak1, .string akey1, .string afin1, .string aval1, .int .i64 aex1, .int .i64 ap1, .int .i64 al1, .int .i64 aw1, .slice ao1 n1 ac1] 29)).alloc (.cells #[.int .i64 at2, .int .i64 ak2, .string akey2, .string afin2, .string aval2, .int .i64 aex2, .int .i64 ap2, .int .i64 al2, .int .i64 aw2, .slice ao2 n2 ac2] 29)).heap.size := by simp
  generalize ((w.alloc (.cells #[.int .i64 at1, .int .i64 ak1, .string akey1, .string afin1, .string aval1, .int .i64 aex1, .int .i64 ap1, .int .i64 al1, .int .i64 aw1, .slice ao1 n1 ac1] 29)).alloc (.cells #[.int .i64 at2, .int .i64 ak2, .string akey2, .string afin2, .string aval2, .int .i64 aex2, .int .i64 ap2, .int .i64 al2, .int .i64 aw2, .slice ao2 n2 ac2] 29)) = W at *
  obtain ⟨g, hg⟩ : ∃ g, g = w.heap.size := ⟨_, rfl⟩
  rw [← hg] at a0 b0 hsz
  have A0 := a0 0; have A1 := a0 1; have A2 := a0 2; have A3 := a0 3; have A4 := a0 4; have A5 := a0 5; have A6 := a0 6; have A7 := a0 7; have A8 := a0 8; have A9 := a0 9
  have B0 := b0 0; have B1 := b0 1; have B2 := b0 2; have B3 := b0 3; have B4 := b0 4; have B5 := b0 5; have B6 := b0 6; have B7 := b0 7; have B8 := b0 8; have B9 := b0 9
  have hs1 : g < W.heap.size := by omega
  have HG := Lib.hid hg
  clear a0 b0 hg
  rw [← HG.out]
  refine wp_region_lays_tail 40 (by kernel_rfl) (by kernel_rfl) ?_
  simp only [List.take_succ_cons, List.take_zero, List.drop_succ_cons, List.drop_zero]
  repeat (go_big_quiet_step (first
    | (go_at_call 99; exact laid (HS.out _))
    | (go_at_call 108; exact laid_same (cmpT_any _ _ _))
    | (go_at_call 109; exact laid_same (cmpK_any _ _ _))
    | (go_at_call 110; exact laid_same (cmpS_any _ _ _))
    | (go_at_call 111; exact laid_same (cmpI_any _ _ _))
    | (go_at_call 112; exact laid (HC.out _ (hl0.trans (GW.lays _))))))
  refine wpQuiet_nil ?_
  rintro _ ⟨y, rfl⟩
  go_wp2_with fail
  refine (or_any y.at.heap.size 0 8 [c1, cmpI at1 at2, cmpI ak1 ak2, cmpS akey1 akey2, cmpS afin1 afin2, cmpS aval1 aval2, cmpI aex1 aex2, c8] _ (ints_new _ _ [c1, cmpI at1 at2, cmpI ak1 ak2, cmpS akey1 akey2, cmpS afin1 afin2, cmpS aval1 aval2, cmpI aex1 aex2, c8]) (by simp)).mono ?_
  rintro e w2 ⟨rfl, rfl⟩
  go_wp2_with fail
  go_ret
  exact ⟨rfl, hl0.trans (y.lays.alloc _)⟩
end Go.Proofs.YtgcfhlleaekgfaaGreatDoor.Mut
