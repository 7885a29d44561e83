/- Rows of values; the reference's row, See, Same (layer 9). PRINTED by wip/genrefview2.py. -/
import Derived.Test.YtmfhmcegmeinnaaGreatDoorRefView
import Derived.Test.YtmfhmcegmeinnaaGreatDoorRegApp
set_option linter.unusedSimpArgs false
set_option linter.unusedVariables false
set_option linter.unnecessarySimpa false
namespace Go.Proofs.YtmfhmcegmeinnaaGreatDoor.Mut
open Go.RowKit Go.Sort Go.Proofs.YtmfhmcegmeinnaaGreatDoor.Ord
set_option linter.unusedSectionVars false
variable [Inhabited Lim]

/-! ## Rows of values -/
def enRw (x : Rw) : List Value := [.string x.key, .string x.val, .int .i64 x.at_.p, .int .i64 x.at_.l, .int .i64 x.at_.w]
def vRw (x : Rw) : Value := .agg #[.string x.key, .string x.val, .int .i64 x.at_.p, .int .i64 x.at_.l, .int .i64 x.at_.w]
theorem enRw_len (x : Rw) : (enRw x).length = 5 := rfl
instance : Inhabited Rw := ⟨⟨ByteArray.empty, ByteArray.empty, ⟨0, 0, 0⟩⟩⟩
abbrev WRow (w : World) (v : Value) (R : List Rw) : Prop := Lst 5 enRw w v R
/-- The five cells of a value that lies at a place. -/
structure AtW (w : World) (b o : Nat) (x : Rw) : Prop where
  lt : b < w.heap.size
  c0 : w.cell? ⟨b, o, none⟩ = some (.string x.key)
  c1 : w.cell? ⟨b, o + 1, none⟩ = some (.string x.val)
  c2 : w.cell? ⟨b, o + 2, none⟩ = some (.int .i64 x.at_.p)
  c3 : w.cell? ⟨b, o + 3, none⟩ = some (.int .i64 x.at_.l)
  c4 : w.cell? ⟨b, o + 4, none⟩ = some (.int .i64 x.at_.w)
theorem AtW.of {w : World} {b o : Nat} {x : Rw} (hb : b < w.heap.size) (h : ∀ j, j < 5 → w.cell? ⟨b, o + j, none⟩ = (enRw x)[j]?) : AtW w b o x :=
  ⟨hb, h 0 (by decide), h 1 (by decide), h 2 (by decide), h 3 (by decide), h 4 (by decide)⟩
theorem AtW.below {w w' : World} {b o : Nat} {x : Rw} (h : AtW w b o x) (hb : RowKit.Below w.heap.size w w') : AtW w' b o x := by
  have e : ∀ k, w'.cell? ⟨b, k, none⟩ = w.cell? ⟨b, k, none⟩ := fun k => hb.cell (p := ⟨b, k, none⟩) h.lt
  obtain ⟨h0, h1, h2, h3, h4, h5⟩ := h
  exact ⟨Nat.lt_of_lt_of_le h0 hb.size, (e _).trans h1, (e _).trans h2, (e _).trans h3, (e _).trans h4, (e _).trans h5⟩
theorem WRow.at_ {w : World} {ao : Option Addr} {n cap : Nat} {R : List Rw} {k : Nat} {x : Rw} (h : WRow w (.slice ao n cap) R) (hk : R[k]? = some x) : ∃ b off, ao = some ⟨b, off, none⟩ ∧ AtW w b (off + k * 5) x := by
  obtain ⟨hlt, he⟩ := List.getElem?_eq_some_iff.1 hk
  obtain ⟨b, off, ha, hb, hc⟩ := Lst.get h hlt
  rw [he] at hc
  exact ⟨b, off, ha, AtW.of hb hc⟩
theorem AtW.new (w : World) (t : TypeId) (x : Rw) : AtW (w.alloc (.cells (enRw x).toArray t)) w.heap.size 0 x :=
  AtW.of (by simp) fun j hj => by
    have h := new_cells w (enRw x) t j ((enRw x)[j]'(by rw [enRw_len]; exact hj)) (List.getElem?_eq_getElem _)
    rw [addr_add] at h
    rw [show (0 : Nat) + j = (⟨w.heap.size, 0, none⟩ : Addr).off + j from rfl]
    simpa using h
theorem one_rw {w : World} {x : Rw} {t : TypeId} : WRow (w.alloc (.cells ⟨enRw x⟩ t)) (.slice (some ⟨w.heap.size, 0, none⟩) 1 1) [x] := by
  refine ⟨_, 1, rfl, by simp, by decide, Or.inr ⟨_, _, rfl, by simp, fun i y hi j hj => ?_⟩⟩
  rw [cells_at (heap_alloc_new w _), Nat.zero_add]
  have := flatMap_get enRw_len [x] i y hi j hj
  simpa using this
theorem enRw_one (x : Rw) : ∀ u ∈ enRw x, u.oneCell' = true := by
  intro u hu
  unfold enRw at hu
  simp only [List.mem_cons, List.not_mem_nil, or_false] at hu
  rcases hu with rfl | rfl | rfl | rfl | rfl <;> rfl
theorem flatW_one (l : List Rw) : ∀ u ∈ l.flatMap enRw, u.oneCell' = true := by
  intro u hu
  obtain ⟨x, -, h⟩ := List.mem_flatMap.1 hu
  exact enRw_one x u h
def zeroRw : Value := .agg #[.string ByteArray.empty, .string ByteArray.empty, .int .i64 0, .int .i64 0, .int .i64 0]
theorem info_Rw : (Tryz.prog.info? 100).map (fun i => (i.zero, i.size, i.bytes)) = some (some zeroRw, 5, 56) := by kernel_rfl
theorem wpList_append_rws {w : World} {ops : Array Oper} {rest : List Oper} {o : Oper} {a : Act} {Q : Exit → Act → World → Prop} (hgd : o.guard = none) (s x : Operand)
    (ho : o.op = .call { callee := .builtin .append, args := #[s, x], argTypes := #[31, 31] }) (base : Nat) (v : Value) (n : Nat) (xs : List Value) (hs : a.eval s = v) (hown : w.ownsRow base 100 5 v n xs)
    (ad : Addr) (m c : Nat) (R : List Rw) (hx : a.eval x = .slice (some ad) m c) (hR : WRow w (.slice (some ad) m c) R) (hm : n + m ≤ 1000000) (hbase : base ≤ w.heap.size)
    (h : ∀ v' w', w'.ownsRow base 100 5 v' (n + m) (xs ++ R.flatMap enRw) → w.grownBy w' v.ownBlock → wpList Tryz.prog ops Q rest (a.put o.dst v') w') : wpList Tryz.prog ops Q (o :: rest) a w := by
  obtain ⟨i0, hi, hz0, hz1, hz2⟩ := info_parts info_Rw
  have hmR : m = R.length := Lst.len hR
  subst hmR
  exact wpList_append_own _ hgd s x 31 ho base 100 i0 zeroRw 5 56 Tryz.underlying31 hi hz0 hz1 hz2 rfl (by decide) v n xs hs hown ad R.length c (R.flatMap enRw) hx (flatMap_len enRw_len R) (Lst.news enRw_len (by decide) hR) (flatW_one R) (by unfold maxLen; omega) (by omega) hbase (fun v' w' h1 h2 _ => h v' w' h1 h2)
/-- A row of values comes back. -/
def RowW (w : World) (L : List Rw) (e : Ending) (w' : World) : Prop := ∃ v, e = .returned v ∧ WRow w' v L ∧ RowKit.Below w.heap.size w w'
theorem bkW_cons (x y : Rw) (inn : Bool) (t : List Rw) (c : Bool) (hc : c = lessS x.key y.key) : bkW x inn (y :: t) = (if !inn && c then [x] else []) ++ (y :: bkW x (inn || (!inn && c)) t) := by
  subst hc; rfl
theorem bkW_len (x : Rw) : ∀ (l : List Rw) inn, (bkW x inn l).length ≤ l.length + 1 ∧ (inn = true → (bkW x inn l).length ≤ l.length)
  | [], inn => by cases inn <;> simp [bkW]
  | y :: l, inn => by
    have h1 := bkW_len x l true
    have h2 := bkW_len x l (inn || (!inn && lessS x.key y.key))
    rw [bkW]
    cases inn
    · cases hc : lessS x.key y.key
      · simp only [hc] at h2
        simp at h2 ⊢
        omega
      · have := h1.2 rfl
        simp
        omega
    · have := h1.2 rfl
      simp
      omega

set_option maxHeartbeats 8000000 in
set_option maxRecDepth 100000 in
theorem row09_any (v : Value) (R : List Rw) (x : Rw) (w : World) (hv : WRow w v R) (hn : R.length ≤ 100000) :
    Calls Tryz.prog 54 #[v, vRw x] w (RowW w (bkW x false R)) := by
  obtain ⟨ao, cap, rfl, -, -⟩ := Lst.form hv
  obtain ⟨n, hN⟩ : ∃ n, n = R.length := ⟨_, rfl⟩
  rw [← hN] at hv hn ⊢
  obtain ⟨W0, hW0⟩ : ∃ W0, W0 = w.alloc (.cells (enRw x).toArray 100) := ⟨_, rfl⟩
  have HA := Lib.hid (show AtW W0 w.heap.size 0 x by rw [hW0]; exact AtW.new w 100 x)
  have HW := Lib.hid (show RowKit.Below w.heap.size w W0 by rw [hW0]; exact (Below.refl _ w).alloc (Nat.le_refl _) _)
  have HSW := Lib.hid (show W0.heap.size = w.heap.size + 1 by rw [hW0]; simp)
  have HV := Lib.hid hv
  have HN := Lib.hid hN
  obtain ⟨xkey, xval, ⟨xp, xl, xw⟩⟩ := x
  obtain ⟨I, hI⟩ : ∃ I : Bool → List Rw → List Rw, I = bkW (⟨xkey, xval, ⟨xp, xl, xw⟩⟩ : Rw) := ⟨_, rfl⟩
  rw [← hI]
  have HI := Lib.hid hI
  unfold enRw at hW0
  have HW0 := Lib.hid hW0
  clear hW0 hv hN hI
  unfold vRw
  simp only [] at HW0 ⊢
  go_enter Tryz.func54, Tryz.ntmps54
  go_wp2_with fail
  rw [← HW0.out]
  clear HW0
  go_loopw [5, 6, 7] (fun ov nv iv wr => ∃ (k : Nat) (inn : Bool) (out : List Rw) (on : Nat), k ≤ n ∧ iv = .int .i64 k ∧ nv = .bool inn ∧ Hid (out ++ I inn (R.drop k) = I false R ∧ on = out.length) ∧ on ≤ 2 * k ∧ Hid (wr.ownsRow (w.heap.size + 1) 100 5 ov on (out.flatMap enRw)) ∧ Hid (RowKit.Below (w.heap.size + 1) W0 wr)) (fun _ _ iv _ => n - (intOf iv).toNat)
  case atStart => exact ⟨0, false, [], 0, by omega, rfl, rfl, Lib.hid ⟨rfl, rfl⟩, by simp, Lib.hid (World.ownsRow_nil _ _ _ _), Lib.hid (Below.refl _ _)⟩
  case round =>
    obtain ⟨k, inn, out, on, hk, rfl, rfl, hput, hol, hown, hbl⟩ := hrel
    have hb0 : RowKit.Below W0.heap.size W0 wr := by rw [HSW.out]; exact hbl.out
    have HB0 := Lib.hid hb0
    have HBW := Lib.hid (below_then HW.out (Nat.le_refl _) hb0)
    have hsz : w.heap.size + 1 ≤ wr.heap.size := by have := hb0.size; have := HSW.out; omega
    have HA1 := Lib.hid (HA.out.below hb0)
    clear hb0 hbl
    by_cases hlt : k < n
    · have hkr : k < R.length := by have := HN.out; omega
      obtain ⟨y, hy⟩ : ∃ y, R[k]? = some y := ⟨_, List.getElem?_eq_getElem hkr⟩
      have hye : R[k] = y := (List.getElem?_eq_some_iff.1 hy).2
      obtain ⟨yb, yoff, hao, hat⟩ := WRow.at_ (HV.out.below HBW.out) hy
      cases hao
      have hdl : R.drop k = y :: R.drop (k + 1) := by rw [List.drop_eq_getElem_cons hkr, hye]
      obtain ⟨c, hc⟩ : ∃ c, c = lessS xkey y.key := ⟨_, rfl⟩
      have hst := bkW_cons (⟨xkey, xval, ⟨xp, xl, xw⟩⟩ : Rw) y inn (R.drop (k + 1)) c hc
      have hput1 := hput.out.1
      rw [hdl, HI.out, hst, ← HI.out] at hput1
      have HP := Lib.hid (And.intro hput1 hput.out.2)
      have HCC := Lib.hid hc
      have HYK := Lib.hid hy
      clear hput1 hst hc hdl hye hy hput
      obtain ⟨hbl, b0, b1, b2, b3, b4⟩ := hat
      obtain ⟨ykey, yval, ⟨yp, yl, yw⟩⟩ := y
      simp only [] at b0 b1 b2 b3 b4
      obtain ⟨-, a0, a1, a2, a3, a4⟩ := HA1.out
      simp only [Nat.zero_add] at a0 a1 a2 a3 a4
      have hcc : Op.bytesLess xkey.toList ykey.toList = c := HCC.out.symm
      have hi0 : (0 : Int) ≤ (k : Int) := by omega
      have hi1 : (k : Int) < (n : Int) := by omega
      have hw1 : w.heap.size < wr.heap.size := by omega
      cases inn
      · cases c
        · skip
          go_wp2_with fail
          refine wp_region_calm (by kernel_rfl) (by kernel_rfl) ?_
          repeat (go_big_quiet_step (fail))
          refine wpQuiet_nil ?_
          rintro _ ⟨z, rfl⟩
          obtain ⟨W1, hW1⟩ : ∃ W1, W1 = z.at := ⟨_, rfl⟩
          have hz := z.below
          rw [← hW1] at hz ⊢
          have HO1 := Lib.hid (row_below hown.out hz)
          have hzs := hz.size
          have HB1 := Lib.hid (below_then HB0.out (Nat.le_refl _) hz)
          have HAT := Lib.hid (show AtW W1 yb (yoff + k * 5) (⟨ykey, yval, ⟨yp, yl, yw⟩⟩ : Rw) from (AtW.below ⟨hbl, b0, b1, b2, b3, b4⟩ hz))
          have HA2 := Lib.hid (HA1.out.below hz)
          clear hW1 z hz a0 a1 a2 a3 a4 b0 b1 b2 b3 b4 hbl hown HA1
          obtain ⟨hl2, b0, b1, b2, b3, b4⟩ := HAT.out
          obtain ⟨hl1, a0, a1, a2, a3, a4⟩ := HA2.out
          simp only [Nat.zero_add] at a0 a1 a2 a3 a4 b0 b1 b2 b3 b4
          have HBf := Lib.hid (show RowKit.Below (w.heap.size + 1) W0 W1 by have h := HB1.out; rw [HSW.out] at h; exact h)
          have hws : w.heap.size + 1 ≤ W1.heap.size := by omega
          go_wp2_with (at_builtin; refine wpList_append_rws rfl (.tmp 30) (.tmp 35) rfl (w.heap.size + 1) u5 on _ rfl (HO1.out.alloc _) ⟨W1.heap.size, 0, none⟩ 1 1 [(⟨ykey, yval, ⟨yp, yl, yw⟩⟩ : Rw)] rfl one_rw (by omega) (by simp; omega) ?_)
          intro v4 w4 hown4 hgr4
          have HO4 := Lib.hid (show w4.ownsRow (w.heap.size + 1) 100 5 v4 (on + 1) ((out ++ [(⟨ykey, yval, ⟨yp, yl, yw⟩⟩ : Rw)]).flatMap enRw) by rw [List.flatMap_append]; exact hown4)
          have HB4 := Lib.hid ((HBf.out.alloc hws _).grown hgr4 (by simp; omega) (fun k hk => (HO1.out.lt k hk).1))
          clear hown4 hgr4 b0 b1 b2 b3 b4 a0 a1 a2 a3 a4
          go_wp2_with fail
          go_roundw
          case rel => exact ⟨k + 1, false, out ++ [(⟨ykey, yval, ⟨yp, yl, yw⟩⟩ : Rw)], on + 1, by omega, by go_num, rfl, Lib.hid ⟨by have h := HP.out.1; simpa using h, by have := HP.out.2; simp; omega⟩, by omega, HO4, HB4⟩
          case measure => simp [intOf]; omega
        · skip
          go_wp2_with fail
          refine wp_region_calm (by kernel_rfl) (by kernel_rfl) ?_
          repeat (go_big_quiet_step (fail))
          refine wpQuiet_nil ?_
          rintro _ ⟨z, rfl⟩
          obtain ⟨W1, hW1⟩ : ∃ W1, W1 = z.at := ⟨_, rfl⟩
          have hz := z.below
          rw [← hW1] at hz ⊢
          have HO1 := Lib.hid (row_below hown.out hz)
          have hzs := hz.size
          have HB1 := Lib.hid (below_then HB0.out (Nat.le_refl _) hz)
          have HAT := Lib.hid (show AtW W1 yb (yoff + k * 5) (⟨ykey, yval, ⟨yp, yl, yw⟩⟩ : Rw) from (AtW.below ⟨hbl, b0, b1, b2, b3, b4⟩ hz))
          have HA2 := Lib.hid (HA1.out.below hz)
          clear hW1 z hz a0 a1 a2 a3 a4 b0 b1 b2 b3 b4 hbl hown HA1
          obtain ⟨hl2, b0, b1, b2, b3, b4⟩ := HAT.out
          obtain ⟨hl1, a0, a1, a2, a3, a4⟩ := HA2.out
          simp only [Nat.zero_add] at a0 a1 a2 a3 a4 b0 b1 b2 b3 b4
          have HBf := Lib.hid (show RowKit.Below (w.heap.size + 1) W0 W1 by have h := HB1.out; rw [HSW.out] at h; exact h)
          have hws : w.heap.size + 1 ≤ W1.heap.size := by omega
          go_wp2_with (at_builtin; refine wpList_append_rws rfl (.tmp 26) (.tmp 28) rfl (w.heap.size + 1) u5 on _ rfl (HO1.out.alloc _) ⟨W1.heap.size, 0, none⟩ 1 1 [(⟨xkey, xval, ⟨xp, xl, xw⟩⟩ : Rw)] rfl one_rw (by omega) (by simp; omega) ?_)
          intro v3 w3 hown3 hgr3
          have HO3 := Lib.hid (show w3.ownsRow (w.heap.size + 1) 100 5 v3 (on + 1) ((out ++ [(⟨xkey, xval, ⟨xp, xl, xw⟩⟩ : Rw)]).flatMap enRw) by rw [List.flatMap_append]; exact hown3)
          have hb3 : RowKit.Below (w.heap.size + 1) W0 w3 := (HBf.out.alloc hws _).grown hgr3 (by simp; omega) (fun k hk => (HO1.out.lt k hk).1)
          have HB3 := Lib.hid hb3
          have hb3' : RowKit.Below w.heap.size w w3 := below_then HW.out (Nat.le_refl _) (by rw [HSW.out]; exact hb3)
          have hs3 := hb3'.size
          have hs4 : w.heap.size + 1 ≤ w3.heap.size := by have h := hb3.size; rw [HSW.out] at h; exact h
          obtain ⟨yb3, yoff3, hao3, hat3⟩ := WRow.at_ (HV.out.below hb3') HYK.out
          cases hao3
          clear hown3 hgr3 hb3 hb3' b0 b1 b2 b3 b4 a0 a1 a2 a3 a4
          obtain ⟨hl3, b0, b1, b2, b3, b4⟩ := hat3
          simp only [] at b0 b1 b2 b3 b4
          go_wp2_with (at_builtin; refine wpList_append_rws rfl (.tmp 30) (.tmp 35) rfl (w.heap.size + 1) v3 (on + 1) _ rfl (HO3.out.alloc _) ⟨w3.heap.size, 0, none⟩ 1 1 [(⟨ykey, yval, ⟨yp, yl, yw⟩⟩ : Rw)] rfl one_rw (by omega) (by simp; omega) ?_)
          intro v4 w4 hown4 hgr4
          have HO4 := Lib.hid (show w4.ownsRow (w.heap.size + 1) 100 5 v4 (on + 1 + 1) ((out ++ [(⟨xkey, xval, ⟨xp, xl, xw⟩⟩ : Rw)] ++ [(⟨ykey, yval, ⟨yp, yl, yw⟩⟩ : Rw)]).flatMap enRw) by simpa [List.flatMap_append] using hown4)
          have HB4 := Lib.hid ((HB3.out.alloc hs4 _).grown hgr4 (by simp; omega) (fun k hk => (HO3.out.lt k hk).1))
          clear hown4 hgr4 b0 b1 b2 b3 b4
          go_wp2_with fail
          go_roundw
          case rel => exact ⟨k + 1, true, out ++ [(⟨xkey, xval, ⟨xp, xl, xw⟩⟩ : Rw)] ++ [(⟨ykey, yval, ⟨yp, yl, yw⟩⟩ : Rw)], on + 1 + 1, by omega, by go_num, rfl, Lib.hid ⟨by have h := HP.out.1; simpa using h, by have := HP.out.2; simp; omega⟩, by omega, HO4, HB4⟩
          case measure => simp [intOf]; omega
      · skip
        go_wp2_with fail
        refine wp_region_calm (by kernel_rfl) (by kernel_rfl) ?_
        repeat (go_big_quiet_step (fail))
        refine wpQuiet_nil ?_
        rintro _ ⟨z, rfl⟩
        obtain ⟨W1, hW1⟩ : ∃ W1, W1 = z.at := ⟨_, rfl⟩
        have hz := z.below
        rw [← hW1] at hz ⊢
        have HO1 := Lib.hid (row_below hown.out hz)
        have hzs := hz.size
        have HB1 := Lib.hid (below_then HB0.out (Nat.le_refl _) hz)
        have HAT := Lib.hid (show AtW W1 yb (yoff + k * 5) (⟨ykey, yval, ⟨yp, yl, yw⟩⟩ : Rw) from (AtW.below ⟨hbl, b0, b1, b2, b3, b4⟩ hz))
        have HA2 := Lib.hid (HA1.out.below hz)
        clear hW1 z hz a0 a1 a2 a3 a4 b0 b1 b2 b3 b4 hbl hown HA1
        obtain ⟨hl2, b0, b1, b2, b3, b4⟩ := HAT.out
        obtain ⟨hl1, a0, a1, a2, a3, a4⟩ := HA2.out
        simp only [Nat.zero_add] at a0 a1 a2 a3 a4 b0 b1 b2 b3 b4
        have HBf := Lib.hid (show RowKit.Below (w.heap.size + 1) W0 W1 by have h := HB1.out; rw [HSW.out] at h; exact h)
        have hws : w.heap.size + 1 ≤ W1.heap.size := by omega
        go_wp2_with (at_builtin; refine wpList_append_rws rfl (.tmp 30) (.tmp 35) rfl (w.heap.size + 1) u5 on _ rfl (HO1.out.alloc _) ⟨W1.heap.size, 0, none⟩ 1 1 [(⟨ykey, yval, ⟨yp, yl, yw⟩⟩ : Rw)] rfl one_rw (by omega) (by simp; omega) ?_)
        intro v4 w4 hown4 hgr4
        have HO4 := Lib.hid (show w4.ownsRow (w.heap.size + 1) 100 5 v4 (on + 1) ((out ++ [(⟨ykey, yval, ⟨yp, yl, yw⟩⟩ : Rw)]).flatMap enRw) by rw [List.flatMap_append]; exact hown4)
        have HB4 := Lib.hid ((HBf.out.alloc hws _).grown hgr4 (by simp; omega) (fun k hk => (HO1.out.lt k hk).1))
        clear hown4 hgr4 b0 b1 b2 b3 b4 a0 a1 a2 a3 a4
        go_wp2_with fail
        go_roundw
        case rel => exact ⟨k + 1, true, out ++ [(⟨ykey, yval, ⟨yp, yl, yw⟩⟩ : Rw)], on + 1, by omega, by go_num, rfl, Lib.hid ⟨by have h := HP.out.1; simpa using h, by have := HP.out.2; simp; omega⟩, by omega, HO4, HB4⟩
        case measure => simp [intOf]; omega
    · obtain rfl : k = n := by omega
      have hdr : R.drop k = [] := List.drop_of_length_le (by have := HN.out; omega)
      have hput1 := hput.out.1
      rw [hdr] at hput1
      have HOL := Lib.hid hput.out.2
      obtain ⟨hl1, a0, a1, a2, a3, a4⟩ := HA1.out
      simp only [Nat.zero_add] at a0 a1 a2 a3 a4
      have hb : RowKit.Below (w.heap.size + 1) W0 wr := by have h := HB0.out; rw [HSW.out] at h; exact h
      have HBl := Lib.hid hb
      cases inn
      · have HPP := Lib.hid (show out ++ [(⟨xkey, xval, ⟨xp, xl, xw⟩⟩ : Rw)] = I false R by rw [← hput1, HI.out]; rfl)
        clear hput1 hdr hput hb
        go_wp2_with (at_builtin; refine wpList_append_rws rfl (.tmp 39) (.tmp 41) rfl (w.heap.size + 1) u5 on _ rfl (hown.out.alloc _) ⟨wr.heap.size, 0, none⟩ 1 1 [(⟨xkey, xval, ⟨xp, xl, xw⟩⟩ : Rw)] rfl one_rw (by omega) (by simp; omega) ?_)
        intro v4 w4 hown4 hgr4
        have HO4 := Lib.hid (show w4.ownsRow (w.heap.size + 1) 100 5 v4 (on + 1) ((I false R).flatMap enRw) by rw [← HPP.out, List.flatMap_append]; exact hown4)
        have HB4 := Lib.hid ((HBl.out.alloc hsz _).grown hgr4 (by simp; omega) (fun k hk => (hown.out.lt k hk).1))
        have HLL := Lib.hid (show on + 1 = (I false R).length by rw [← HPP.out, HOL.out]; simp)
        clear hown4 hgr4 a0 a1 a2 a3 a4
        go_wp2_with fail
        go_ret
        exact ⟨_, rfl, Lst.owned enRw_len (by decide) HLL.out HO4.out, below_then HW.out (Nat.le_refl _) (by rw [HSW.out]; exact HB4.out)⟩
      · have HPP := Lib.hid (show out = I false R by rw [← hput1, HI.out]; simp [bkW])
        have HFIN := Lib.hid (show WRow wr u5 (I false R) from by rw [← HPP.out]; exact Lst.owned enRw_len (by decide) HOL.out hown.out)
        clear hput1 hdr hput hb
        go_wp2_with fail
        go_ret
        exact ⟨_, rfl, HFIN.out, below_then HW.out (Nat.le_refl _) (by rw [HSW.out]; exact HBl.out)⟩

theorem seeW_step (f : Mu → Bool) (m : Mu) (all : List Mu) (acc : List Rw) : seeW f acc (m :: all) = seeW f (if f m then bkW (rwOf m) false acc else acc) all := rfl

set_option maxHeartbeats 8000000 in
set_option maxRecDepth 100000 in
theorem see09_any (v : Value) (R : List Ro) (t : Int) (from_ to_ : ByteArray) (phys : Int) (w : World) (hv : MRow w v R) (hs : ∀ y ∈ R, y.1.over.length ≤ 1000000) (hn : R.length ≤ 10000) :
    Calls Tryz.prog 12 #[v, .int .i64 t, .string from_, .string to_, .int .i64 phys] w (RowW w (seeW (seeB (R.map (·.1)) t from_ to_ phys) [] (R.map (·.1)))) := by
  obtain ⟨ao, cap, rfl, -, -⟩ := hv.form
  obtain ⟨n, hN⟩ : ∃ n, n = R.length := ⟨_, rfl⟩
  rw [← hN] at hv hn ⊢
  obtain ⟨f, hf⟩ : ∃ f, f = seeB (R.map (·.1)) t from_ to_ phys := ⟨_, rfl⟩
  obtain ⟨Q, hQ⟩ : ∃ Q, Q = seeW f [] (R.map (·.1)) := ⟨_, rfl⟩
  rw [← hf, ← hQ]
  have HSE := Lib.hid (fun (x : Ro) (hx : ∃ ao n cap, x.2 = .slice ao n cap) W => seen09_any x phys W hx)
  have HHI := Lib.hid (fun (x : Ro) (W : World) (hx : Over W x) (hxl : x.1.over.length ≤ 1000000) (hW : RowKit.Below w.heap.size w W) => hides09_any x (.slice ao n cap) R W hx (hv.below hW) hxl hs (by omega))
  have HROW := Lib.hid (fun (v : Value) (l : List Rw) (x : Rw) (W : World) (h : WRow W v l) (hl : l.length ≤ 100000) => row09_any v l x W h hl)
  have HV := Lib.hid hv
  have HN := Lib.hid hN
  have HF := Lib.hid hf
  have HQ := Lib.hid hQ
  have HS := Lib.hid hs
  clear hv hN hf hQ hs
  unfold RetB at HSE HHI
  go_enter Tryz.func12, Tryz.ntmps12
  go_wp2_with fail
  go_loopw [11, 12] (fun ov iv wr => ∃ (k : Nat) (acc : List Rw), k ≤ n ∧ iv = .int .i64 k ∧ Hid (seeW f acc ((R.drop k).map (·.1)) = Q) ∧ acc.length ≤ k ∧ Hid (WRow wr ov acc) ∧ Hid (RowKit.Below w.heap.size w wr)) (fun _ iv _ => n - (intOf iv).toNat)
  case atStart => exact ⟨0, [], by omega, rfl, Lib.hid (by rw [HQ.out]; rfl), by simp, Lib.hid (Lst.nil _), Lib.hid (Below.refl _ _)⟩
  case round =>
    obtain ⟨k, acc, hk, rfl, hput, hal, hacc, hl⟩ := hrel
    obtain ⟨oo, oc, hov, -, -⟩ := Lst.form hacc.out
    subst hov
    by_cases hlt : k < n
    · have hkr : k < R.length := by have := HN.out; omega
      obtain ⟨x, hx⟩ : ∃ x, R[k]? = some x := ⟨_, List.getElem?_eq_getElem hkr⟩
      have hxe : R[k] = x := (List.getElem?_eq_some_iff.1 hx).2
      have hxm := List.mem_of_getElem? hx
      have hxo := (HV.out.below hl.out).over x hxm
      obtain ⟨xb, xoff, hao, hat⟩ := (HV.out.below hl.out).at_ hx
      cases hao
      have hst := hput.out
      rw [List.drop_eq_getElem_cons hkr, hxe, List.map_cons, seeW_step] at hst
      have hfx : f x.1 = (decide (x.1.table = t) && (seenB x.1 phys && !(R.map (·.1)).any (hiddenB x.1)) && (!lessS x.1.key from_ && lessS x.1.key to_)) := by rw [HF.out]; rfl
      obtain ⟨D, hD⟩ : ∃ D, D = f x.1 := ⟨_, rfl⟩
      rw [← hD] at hst hfx
      obtain ⟨S, hS⟩ : ∃ S, S = seenB x.1 phys := ⟨_, rfl⟩
      obtain ⟨H, hH⟩ : ∃ H, H = (R.map (·.1)).any (hiddenB x.1) := ⟨_, rfl⟩
      rw [← hS, ← hH] at hfx
      have HSX := Lib.hid (fun W => HSE.out x (by obtain ⟨a, b, e, -, -⟩ := Over.form hxo; exact ⟨_, _, _, e⟩) W)
      have HHX := Lib.hid (fun W (hW : RowKit.Below wr.heap.size wr W) => HHI.out x W (hxo.below hW) (HS.out x hxm) (below_then hl.out (Nat.le_refl _) hW))
      rw [← hS] at HSX
      rw [← hH] at HHX
      obtain ⟨r, hr⟩ : ∃ r, r = rwOf x.1 := ⟨_, rfl⟩
      rw [← hr] at hst
      have HRO := Lib.hid (fun W (hW : RowKit.Below wr.heap.size wr W) => HROW.out _ acc r W (hacc.out.below hW) (by omega))
      have HST := Lib.hid hst
      have HFX := Lib.hid hfx
      have HRR := Lib.hid (show r = ⟨x.1.key, x.1.val, x.1.at_⟩ from hr)
      have HBL := Lib.hid (show (bkW r false acc).length ≤ k + 1 by have := (bkW_len r acc false).1; omega)
      obtain ⟨xo, xc, ex, -, -⟩ := Over.form hxo
      have HBX := Lib.hid (show RowKit.Below wr.heap.size wr (wr.alloc (.cells (enM x).toArray 51)) from (Below.refl _ _).alloc (Nat.le_refl _) _)
      have HAX := Lib.hid (At.new wr 51 x)
      clear hst hfx hD hS hH hr hx hxe hxm hxo hput
      obtain ⟨⟨at1, ak1, akey1, afin1, aval1, aex1, ⟨ap1, al1, aw1⟩, aov1⟩, av1⟩ := x
      simp only [] at ex
      obtain ⟨xn, hxn⟩ : ∃ k, k = aov1.length := ⟨_, rfl⟩
      rw [← hxn] at ex
      subst ex
      clear hxn
      unfold vM at HSX HHX
      unfold enM at HBX HAX
      simp only [] at HSX HHX HFX HRR HBX HAX
      obtain ⟨hbl, b0, b1, b2, b3, b4, b5, b6, b7, b8, b9⟩ := hat
      simp only [] at b0 b1 b2 b3 b4 b5 b6 b7 b8 b9
      have j0 : (0 : Int) ≤ (k : Int) := by omega
      have j1 : (k : Int) < (n : Int) := by omega
      obtain ⟨Wx, hWx⟩ : ∃ W, W = wr.alloc (.cells #[.int .i64 at1, .int .i64 ak1, .string akey1, .string afin1, .string aval1, .int .i64 aex1, .int .i64 ap1, .int .i64 al1, .int .i64 aw1, .slice xo xn xc] 51) := ⟨_, rfl⟩
      rw [show (wr.alloc (.cells #[.int .i64 at1, .int .i64 ak1, .string akey1, .string afin1, .string aval1, .int .i64 aex1, .int .i64 ap1, .int .i64 al1, .int .i64 aw1, .slice xo xn xc] 51)) = Wx from hWx.symm] at HBX HAX
      have HWX := Lib.hid hWx
      clear hWx
      go_upto_region 6 with fail
      rw [← HWX.out]
      clear HWX b0 b1 b2 b3 b4 b5 b6 b7 b8 b9
      obtain ⟨hl1, a0, a1, a2, a3, a4, a5, a6, a7, a8, a9⟩ := HAX.out
      simp only [Nat.zero_add] at a0 a1 a2 a3 a4 a5 a6 a7 a8 a9
      by_cases ht : at1 = t
      rotate_left
      · have hk1 := ne_flag ht
        have HD := Lib.hid (show D = false by rw [HFX.out]; simp [ht])
        clear ht
        have HS2 := Lib.hid (show seeW f acc ((R.drop (k + 1)).map (·.1)) = Q by have h := HST.out; rw [HD.out] at h; exact h)
        go_wp2_with fail
        go_roundw
        case rel => exact ⟨k + 1, acc, by omega, by go_num, HS2, by omega, Lib.hid (hacc.out.below HBX.out), Lib.hid (below_then hl.out (Nat.le_refl _) HBX.out)⟩
        case measure => simp [intOf]; omega
      have hk1 := eq_flag ht
      have HTE := Lib.hid ht
      clear ht
      cases h2 : lessS akey1 from_
      rotate_left
      · have e2 : Op.bytesLess akey1.toList from_.toList = true := h2
        have HD := Lib.hid (show D = false by rw [HFX.out]; simp [h2])
        have HS2 := Lib.hid (show seeW f acc ((R.drop (k + 1)).map (·.1)) = Q by have h := HST.out; rw [HD.out] at h; exact h)
        go_wp2_with fail
        go_roundw
        case rel => exact ⟨k + 1, acc, by omega, by go_num, HS2, by omega, Lib.hid (hacc.out.below HBX.out), Lib.hid (below_then hl.out (Nat.le_refl _) HBX.out)⟩
        case measure => simp [intOf]; omega
      have e2 : Op.bytesLess akey1.toList from_.toList = false := h2
      cases h3 : lessS akey1 to_
      · have e3 : Op.bytesLess akey1.toList to_.toList = false := h3
        have HD := Lib.hid (show D = false by rw [HFX.out]; simp [h3])
        have HS2 := Lib.hid (show seeW f acc ((R.drop (k + 1)).map (·.1)) = Q by have h := HST.out; rw [HD.out] at h; exact h)
        go_wp2_with fail
        go_roundw
        case rel => exact ⟨k + 1, acc, by omega, by go_num, HS2, by omega, Lib.hid (hacc.out.below HBX.out), Lib.hid (below_then hl.out (Nat.le_refl _) HBX.out)⟩
        case measure => simp [intOf]; omega
      have e3 : Op.bytesLess akey1.toList to_.toList = true := h3
      have HD := Lib.hid (show D = (S && !H) by rw [HFX.out]; simp [HTE.out, h2, h3])
      clear h2 h3
      go_wp2_with fail
      refine (HSX.out Wx).mono ?_
      rintro e w1 ⟨rfl, hb1⟩
      have HBY := Lib.hid (below_then HBX.out (Nat.le_refl _) hb1)
      have HAY := Lib.hid (HAX.out.below hb1)
      clear hb1 a0 a1 a2 a3 a4 a5 a6 a7 a8 a9
      obtain ⟨-, a0, a1, a2, a3, a4, a5, a6, a7, a8, a9⟩ := HAY.out
      simp only [Nat.zero_add] at a0 a1 a2 a3 a4 a5 a6 a7 a8 a9
      cases S
      · have HS2 := Lib.hid (show seeW f acc ((R.drop (k + 1)).map (·.1)) = Q by have h := HST.out; rw [HD.out] at h; exact h)
        go_wp2_with fail
        go_roundw
        case rel => exact ⟨k + 1, acc, by omega, by go_num, HS2, by omega, Lib.hid (hacc.out.below HBY.out), Lib.hid (below_then hl.out (Nat.le_refl _) HBY.out)⟩
        case measure => simp [intOf]; omega
      go_wp2_with fail
      refine (HHX.out _ HBY.out).mono ?_
      rintro e w2 ⟨rfl, hb2⟩
      have HBZ := Lib.hid (below_then HBY.out (Nat.le_refl _) hb2)
      have HAZ := Lib.hid (HAY.out.below hb2)
      clear hb2 a0 a1 a2 a3 a4 a5 a6 a7 a8 a9
      obtain ⟨-, a0, a1, a2, a3, a4, a5, a6, a7, a8, a9⟩ := HAZ.out
      simp only [Nat.zero_add] at a0 a1 a2 a3 a4 a5 a6 a7 a8 a9
      cases H
      rotate_left
      · have HS2 := Lib.hid (show seeW f acc ((R.drop (k + 1)).map (·.1)) = Q by have h := HST.out; rw [HD.out] at h; exact h)
        go_wp2_with fail
        go_roundw
        case rel => exact ⟨k + 1, acc, by omega, by go_num, HS2, by omega, Lib.hid (hacc.out.below HBZ.out), Lib.hid (below_then hl.out (Nat.le_refl _) HBZ.out)⟩
        case measure => simp [intOf]; omega
      have HS2 := Lib.hid (show seeW f (bkW r false acc) ((R.drop (k + 1)).map (·.1)) = Q by have h := HST.out; rw [HD.out] at h; exact h)
      have HRZ := Lib.hid (HRO.out _ HBZ.out)
      rw [HRR.out] at HRZ
      unfold vRw RowW at HRZ
      simp only [] at HRZ
      go_wp2_with fail
      refine HRZ.out.mono ?_
      rintro e w3 ⟨v3, rfl, hr3, hb3⟩
      have HR3 := Lib.hid (show WRow w3 v3 (bkW r false acc) by rw [HRR.out]; exact hr3)
      have HB3 := Lib.hid (below_then HBZ.out (Nat.le_refl _) hb3)
      clear hr3 hb3 a0 a1 a2 a3 a4 a5 a6 a7 a8 a9
      go_wp2_with fail
      go_roundw
      case rel => exact ⟨k + 1, _, by omega, by go_num, HS2, HBL.out, HR3, Lib.hid (below_then hl.out (Nat.le_refl _) HB3.out)⟩
      case measure => simp [intOf]; omega
    · obtain rfl : k = n := by omega
      have HQ2 := Lib.hid (show acc = Q by have h := hput.out; rw [List.drop_of_length_le (by have := HN.out; omega)] at h; exact h)
      go_wp2_with fail
      go_ret
      exact ⟨_, rfl, by rw [← HQ2.out]; exact hacc.out, hl.out⟩

/-! ## Are two rows of values the same? -/
def eqRw (x y : Rw) : Bool := (x.key.toList == y.key.toList) && ((x.val.toList == y.val.toList) && eqT x.at_ y.at_)
theorem eqRw_iff (x y : Rw) : eqRw x y = true ↔ x = y := by
  unfold eqRw
  rw [Bool.and_eq_true, Bool.and_eq_true, key_beq, key_beq, eqT_iff]
  obtain ⟨a, b, c⟩ := x
  obtain ⟨d, e, f⟩ := y
  simp
def eqWs : List Rw → List Rw → Bool
  | [], [] => true
  | x :: a, y :: b => eqRw x y && eqWs a b
  | _, _ => false
theorem eqWs_iff : ∀ a b : List Rw, eqWs a b = true ↔ a = b
  | [], [] => by simp [eqWs]
  | [], _ :: _ => by simp [eqWs]
  | _ :: _, [] => by simp [eqWs]
  | x :: a, y :: b => by simp [eqWs, eqRw_iff, eqWs_iff a b]
theorem eqWs_len (a b : List Rw) (h : a.length ≠ b.length) : eqWs a b = false := by
  cases e : eqWs a b with
  | false => rfl
  | true => exact absurd (congrArg List.length ((eqWs_iff a b).1 e)) h
theorem heldRw : Tryz.prog.stoodInHeld 100 = false := by kernel_rfl
theorem guardRw : Tryz.prog.eqGuardType Tryz.prog.depth 100 = false := by kernel_rfl
theorem fieldsRw : Tryz.prog.underlying 100 = some (.struct (Tryz.prog.fieldsOf 100)) := by unfold Program.fieldsOf; rw [Tryz.underlying100]
theorem eqRw_run (x y : Rw) (w : World) : (Op.equalIn 10000 100 (vRw x) (vRw y)).run Tryz.prog w = .ok (eqRw x y) w := by
  unfold vRw
  rw [run_equalIn_agg w 9999 _ _ _ fieldsRw heldRw]
  unfold Program.fieldsOf
  rw [Tryz.underlying100]
  unfold eqRw eqT
  go_simp
  by_cases h1 : x.key.toList = y.key.toList <;> by_cases h2 : x.val.toList = y.val.toList <;> by_cases h3 : x.at_.p = y.at_.p <;> by_cases h4 : x.at_.l = y.at_.l <;> by_cases h5 : x.at_.w = y.at_.w <;> simp [h1, h2, h3, h4, h5]
theorem neqRw_run (x y : Rw) (q : Bool) (h : eqRw x y = q) (w : World) : (binOp .neq 100 (vRw x) (vRw y)).run Tryz.prog w = .ok (.bool (!q)) w := by
  unfold vRw
  rw [run_neq_struct]
  have := eqRw_run x y w
  unfold vRw at this
  rw [this, h]; rfl
theorem guardRw_run (op : BinOp) (a b : Operand) (xs ys : Array Value) (w : World) : (eqGuard op 100 a b (.agg xs) (.agg ys)).run Tryz.prog w = .ok () w := run_eqGuard_agg w op _ a b xs ys guardRw
set_option maxHeartbeats 2000000 in
set_option maxRecDepth 100000 in
theorem same09_any (v1 v2 : Value) (A B : List Rw) (w : World) (hA : WRow w v1 A) (hB : WRow w v2 B) (lA : A.length ≤ 1000000) (lB : B.length ≤ 1000000) :
    Calls Tryz.prog 13 #[v1, v2] w (RetB (eqWs A B) w) := by
  obtain ⟨ao, ac, rfl, -, -⟩ := Lst.form hA
  obtain ⟨bo, bc, rfl, -, -⟩ := Lst.form hB
  by_cases hl : A.length = B.length
  · obtain ⟨n, hN⟩ : ∃ n, n = A.length := ⟨_, rfl⟩
    rw [← hl, ← hN] at hB ⊢
    rw [← hN] at hA lA
    have hnB : n = B.length := hN.trans hl
    obtain ⟨Q, hQ⟩ : ∃ Q, Q = eqWs A B := ⟨_, rfl⟩
    rw [← hQ]
    have HA := Lib.hid hA
    have HB := Lib.hid hB
    have HN := Lib.hid hN
    have HNB := Lib.hid hnB
    have HQ := Lib.hid hQ
    clear hA hB hN hnB hQ hl lB
    go_enter Tryz.func13, Tryz.ntmps13
    go_wp2_with fail
    go_loopw [5] (fun iv wr => ∃ k : Nat, k ≤ n ∧ iv = .int .i64 k ∧ Hid (eqWs (A.drop k) (B.drop k) = Q) ∧ Hid (RowKit.Below w.heap.size w wr)) (fun iv _ => n - (intOf iv).toNat)
    case atStart => exact ⟨0, by omega, rfl, Lib.hid (by rw [HQ.out]; rfl), Lib.hid (Below.refl _ _)⟩
    case round =>
      obtain ⟨k, hk, rfl, hput, hl⟩ := hrel
      by_cases hlt : k < n
      · have hka : k < A.length := by have := HN.out; omega
        have hkb : k < B.length := by have := HNB.out; omega
        obtain ⟨xb, xoff, hao, hat⟩ := WRow.at_ (HA.out.below hl.out) (List.getElem?_eq_getElem hka)
        cases hao
        obtain ⟨yb, yoff, hbo, hbt⟩ := WRow.at_ (HB.out.below hl.out) (List.getElem?_eq_getElem hkb)
        cases hbo
        have hst := hput.out
        rw [List.drop_eq_getElem_cons hka, List.drop_eq_getElem_cons hkb] at hst
        generalize A[k] = x at hat hst
        generalize B[k] = y at hbt hst
        obtain ⟨q, hq⟩ : ∃ q, eqRw x y = q := ⟨_, rfl⟩
        have hneq := fun w => neqRw_run x y q hq w
        have hgd := fun a b xs ys w => guardRw_run .neq a b xs ys w
        have HST := Lib.hid (show (q && eqWs (A.drop (k + 1)) (B.drop (k + 1))) = Q by rw [← hst, ← hq]; rfl)
        clear hst hq hput
        obtain ⟨xkey, xval, ⟨xp, xl, xw⟩⟩ := x
        obtain ⟨ykey, yval, ⟨yp, yl, yw⟩⟩ := y
        unfold vRw at hneq
        simp only [] at hneq
        obtain ⟨hl1, a0, a1, a2, a3, a4⟩ := hat
        obtain ⟨hl2, b0, b1, b2, b3, b4⟩ := hbt
        simp only [] at a0 a1 a2 a3 a4 b0 b1 b2 b3 b4
        have j0 : (0 : Int) ≤ (k : Int) := by omega
        have j1 : (k : Int) < (n : Int) := by omega
        go_wp2_with fail
        refine wp_region_calm (by kernel_rfl) (by kernel_rfl) ?_
        repeat (go_big_quiet_step (fail))
        refine wpQuiet_nil ?_
        rintro _ ⟨z, rfl⟩
        obtain ⟨W1, hW1⟩ : ∃ W1, W1 = z.at := ⟨_, rfl⟩
        have hz := z.below
        rw [← hW1] at hz ⊢
        have HZ := Lib.hid (below_then hl.out (Nat.le_refl _) hz)
        clear hW1 z hz a0 a1 a2 a3 a4 b0 b1 b2 b3 b4 hneq hgd
        cases q
        · have HR := Lib.hid (show false = Q from HST.out)
          go_wp2_with fail
          go_ret
          exact ⟨ret_bool HR.out, HZ.out⟩
        · have HR := Lib.hid (show eqWs (A.drop (k + 1)) (B.drop (k + 1)) = Q from HST.out)
          go_wp2_with fail
          go_roundw
          case rel => exact ⟨k + 1, by omega, by go_num, HR, HZ⟩
          case measure => simp [intOf]; omega
      · obtain rfl : k = n := by omega
        have HR := Lib.hid (show true = Q by have h := hput.out; rw [List.drop_of_length_le (by have := HN.out; omega), List.drop_of_length_le (by have := HNB.out; omega)] at h; exact h)
        go_wp2_with fail
        go_ret
        exact ⟨ret_bool HR.out, hl.out⟩
  · have HE := Lib.hid (eqWs_len A B hl)
    obtain ⟨na, hna⟩ : ∃ k, k = A.length := ⟨_, rfl⟩
    obtain ⟨nb, hnb⟩ : ∃ k, k = B.length := ⟨_, rfl⟩
    rw [← hna, ← hnb] at hl ⊢
    rw [HE.out]
    have hne : ((na : Int) != (nb : Int)) = true := by simp; omega
    clear hA hB hna hnb
    go_enter Tryz.func13, Tryz.ntmps13
    go_wp2_with fail
    go_ret
    exact ⟨rfl, Below.refl _ _⟩
end Go.Proofs.YtmfhmcegmeinnaaGreatDoor.Mut
