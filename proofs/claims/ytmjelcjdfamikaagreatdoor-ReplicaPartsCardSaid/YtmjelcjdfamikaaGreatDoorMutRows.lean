/- MutCmp, MutRow, MutCompare, MutSmall: in one text. -/
import Derived.Test.YtmjelcjdfamikaaGreatDoorMuts
import Derived.Test.YtmjelcjdfamikaaGreatDoorLays
import Derived.Test.YtmjelcjdfamikaaGreatDoorLst
import Derived.Test.YtmjelcjdfamikaaGreatDoorLstMore
set_option linter.unusedSimpArgs false
set_option linter.unusedVariables false
/- The walks of the comparisons (layers 4, 7): cmp.Compare, cmp.Or, stamp.Compare, slices.CompareFunc at stamps, mut.Compare. -/
namespace Go.Proofs.YtmjelcjdfamikaaGreatDoor.Mut
open Go.RowKit Go.Sort Go.Proofs.YtmjelcjdfamikaaGreatDoor.Ord

abbrev enS (s : Stp) : List Value := [.int .i64 s.p, .int .i64 s.l, .int .i64 s.w]
theorem enS_len (s : Stp) : (enS s).length = 3 := rfl
abbrev vS (s : Stp) : Value := .agg #[.int .i64 s.p, .int .i64 s.l, .int .i64 s.w]
abbrev SRow (w : World) (v : Value) (l : List Stp) : Prop := Lst 3 enS w v l
theorem stamp_at {w : World} {ao : Option Addr} {n cap : Nat} {l : List Stp} {k : Nat} {x : Stp} (h : SRow w (.slice ao n cap) l) (hk : l[k]? = some x) :
    ∃ b off, ao = some ⟨b, off, none⟩ ∧ b < w.heap.size ∧ w.cell? ⟨b, off + k * 3, none⟩ = some (.int .i64 x.p) ∧ w.cell? ⟨b, off + k * 3 + 1, none⟩ = some (.int .i64 x.l) ∧ w.cell? ⟨b, off + k * 3 + 2, none⟩ = some (.int .i64 x.w) := by
  obtain ⟨hlt, he⟩ := List.getElem?_eq_some_iff.1 hk
  obtain ⟨b, off, ha, hb, hc⟩ := Lst.get h hlt
  rw [he] at hc
  exact ⟨b, off, ha, hb, hc 0 (by decide), hc 1 (by decide), hc 2 (by decide)⟩

theorem cmpI_any (a b : Int) (w : World) : Calls Tryz.prog 106 #[.int .i64 a, .int .i64 b] w fun e w' => e = .returned (.int .i64 (cmpI a b)) ∧ w = w' := by
  by_cases h : a < b
  · go_enter Tryz.func106, Tryz.ntmps106
    go_wp2
    go_ret
    exact ⟨ret_int (by unfold cmpI; repeat' split; all_goals omega), rfl⟩
  · by_cases h2 : b < a
    · go_enter Tryz.func106, Tryz.ntmps106
      go_wp2
      go_ret
      exact ⟨ret_int (by unfold cmpI; repeat' split; all_goals omega), rfl⟩
    · go_enter Tryz.func106, Tryz.ntmps106
      go_wp2
      go_ret
      exact ⟨ret_int (by unfold cmpI; repeat' split; all_goals omega), rfl⟩

theorem cmpT_any (a b : Int) (w : World) : Calls Tryz.prog 104 #[.int .i64 a, .int .i64 b] w fun e w' => e = .returned (.int .i64 (cmpI a b)) ∧ w = w' := by
  by_cases h : a < b
  · go_enter Tryz.func104, Tryz.ntmps104
    go_wp2
    go_ret
    exact ⟨ret_int (by unfold cmpI; repeat' split; all_goals omega), rfl⟩
  · by_cases h2 : b < a
    · go_enter Tryz.func104, Tryz.ntmps104
      go_wp2
      go_ret
      exact ⟨ret_int (by unfold cmpI; repeat' split; all_goals omega), rfl⟩
    · go_enter Tryz.func104, Tryz.ntmps104
      go_wp2
      go_ret
      exact ⟨ret_int (by unfold cmpI; repeat' split; all_goals omega), rfl⟩

theorem cmpK_any (a b : Int) (w : World) : Calls Tryz.prog 105 #[.int .i64 a, .int .i64 b] w fun e w' => e = .returned (.int .i64 (cmpI a b)) ∧ w = w' := by
  by_cases h : a < b
  · go_enter Tryz.func105, Tryz.ntmps105
    go_wp2
    go_ret
    exact ⟨ret_int (by unfold cmpI; repeat' split; all_goals omega), rfl⟩
  · by_cases h2 : b < a
    · go_enter Tryz.func105, Tryz.ntmps105
      go_wp2
      go_ret
      exact ⟨ret_int (by unfold cmpI; repeat' split; all_goals omega), rfl⟩
    · go_enter Tryz.func105, Tryz.ntmps105
      go_wp2
      go_ret
      exact ⟨ret_int (by unfold cmpI; repeat' split; all_goals omega), rfl⟩

theorem cmpS_any (a b : ByteArray) (w : World) : Calls Tryz.prog 99 #[.string a, .string b] w fun e w' => e = .returned (.int .i64 (cmpS a b)) ∧ w = w' := by
  cases h : Op.bytesLess a.toList b.toList
  · cases h2 : (a.toList == b.toList)
    all_goals
      go_enter Tryz.func99, Tryz.ntmps99
      go_wp2
      go_ret
      exact ⟨ret_int (by unfold cmpS lessS; rw [h, h2]; rfl), rfl⟩
  · go_enter Tryz.func99, Tryz.ntmps99
    go_wp2
    go_ret
    exact ⟨ret_int (by unfold cmpS lessS; rw [h]; rfl), rfl⟩

/-- A slice of ints that is read: cell i is (l[i]). -/
theorem or_any (b off cap : Nat) (l : List Int) (w : World) (hc : ∀ i (h : i < l.length), w.cell? ⟨b, off + i, none⟩ = some (.int .i64 l[i])) (hl : l.length ≤ 1000) :
    Calls Tryz.prog 98 #[.slice (some ⟨b, off, none⟩) l.length cap] w fun e w' => e = .returned (.int .i64 (orL l)) ∧ w = w' := by
  have HC := Lib.hid hc
  clear hc
  go_enter Tryz.func98, Tryz.ntmps98
  go_wp2
  go_loop [8] (fun iv => ∃ k : Nat, k ≤ l.length ∧ iv = .int .i64 k ∧ Hid (orL (l.drop k) = orL l)) (fun iv => l.length - (intOf iv).toNat)
  case atStart => exact ⟨0, by omega, rfl, Lib.hid (by rw [List.drop_zero])⟩
  case round =>
    obtain ⟨k, hk, rfl, hd⟩ := hrel
    by_cases hlt : k < l.length
    · have c0 := HC.out k hlt
      have hdr := List.drop_eq_getElem_cons hlt
      obtain ⟨x, hx⟩ : ∃ x, x = l[k] := ⟨_, rfl⟩
      rw [← hx] at c0 hdr
      have HD := Lib.hid hdr
      clear hdr hx
      cases h0 : (x != 0)
      · go_wp2
        go_round
        case rel => exact ⟨k + 1, by omega, by go_num, Lib.hid (by rw [← hd.out, HD.out]; show _ = if x = 0 then orL (l.drop (k + 1)) else x; rw [if_pos (by simpa using h0)])⟩
        case measure => simp [intOf]; omega
      · go_wp2
        go_ret
        exact ⟨ret_int (by rw [← hd.out, HD.out]; show _ = if x = 0 then orL (l.drop (k + 1)) else x; rw [if_neg (by simpa using h0)]), rfl⟩
    · obtain rfl : k = l.length := by omega
      go_wp2
      go_ret
      exact ⟨ret_int (by rw [← hd.out, List.drop_length]; rfl), rfl⟩

theorem ints_new (w : World) (t : TypeId) (l : List Int) : ∀ i (h : i < l.length), (w.alloc (.cells ⟨l.map (Value.int .i64)⟩ t)).cell? ⟨w.heap.size, 0 + i, none⟩ = some (.int .i64 l[i]) := by
  intro i h
  have := new_cells w (l.map (Value.int .i64)) t i (.int .i64 l[i]) (by simp [h])
  rw [← this, Nat.zero_add]
  unfold Addr.add
  split
  · rename_i h0; rw [h0]
  · simp

set_option maxHeartbeats 400000 in
theorem stamp_any (a b : Stp) (w : World) : Calls Tryz.prog 78 #[vS a, vS b] w fun e w' => e = .returned (.int .i64 (stC a b)) ∧ Lays w w' := by
  obtain ⟨p, l, h⟩ := a
  obtain ⟨p', l', h'⟩ := b
  go_enter Tryz.func78, Tryz.ntmps78
  go_wp2_with fail
  refine wp_region_lays_tail 15 (by kernel_rfl) (by kernel_rfl) ?_
  simp only [List.take_succ_cons, List.take_zero, List.drop_succ_cons, List.drop_zero]
  repeat (go_big_quiet_step (first | (go_at_call 106; exact laid_same (cmpI_any _ _ _))))
  refine wpQuiet_nil ?_
  rintro _ ⟨y, rfl⟩
  go_wp2_with fail
  refine (or_any y.at.heap.size 0 3 [cmpI p p', cmpI l l', cmpI h h'] _ (ints_new _ _ [cmpI p p', cmpI l l', cmpI h h']) (by simp)).mono ?_
  rintro e w2 ⟨rfl, rfl⟩
  go_wp2_with fail
  go_ret
  exact ⟨rfl, (((Lays.refl _).alloc _).alloc _).trans (y.lays.alloc _)⟩

theorem stless_any (a b : Stp) (w : World) : Calls Tryz.prog 42 #[vS a, vS b] w fun e w' => e = .returned (.bool (decide (stC a b < 0))) ∧ Lays w w' := by
  have H := Lib.hid (fun w => stamp_any a b w)
  obtain ⟨c, hc⟩ : ∃ c, c = stC a b := ⟨_, rfl⟩
  rw [← hc] at H ⊢
  obtain ⟨p, l, h⟩ := a
  obtain ⟨p', l', h'⟩ := b
  clear hc
  go_enter Tryz.func42, Tryz.ntmps42
  go_wp2_with fail
  refine (H.out _).mono ?_
  rintro e w1 ⟨rfl, hb⟩
  go_wp2_with fail
  go_ret
  exact ⟨rfl, (((Lays.refl _).alloc _).alloc _).trans hb⟩
end Go.Proofs.YtmjelcjdfamikaaGreatDoor.Mut

/- Mutations in memory: ten cells, the last of which is a slice of stamps; rows of them. -/
namespace Go.Proofs.YtmjelcjdfamikaaGreatDoor.Mut
open Go.RowKit Go.Sort Go.Proofs.YtmjelcjdfamikaaGreatDoor.Ord

/-- A mutation and the value of its slice of stamps. -/
abbrev Ro := Mu × Value
def enM (x : Ro) : List Value := [.int .i64 x.1.table, .int .i64 x.1.kind, .string x.1.key, .string x.1.fin, .string x.1.val, .int .i64 x.1.expiry, .int .i64 x.1.at_.p, .int .i64 x.1.at_.l, .int .i64 x.1.at_.w, x.2]
theorem enM_len (x : Ro) : (enM x).length = 10 := rfl
def vM (x : Ro) : Value := .agg #[.int .i64 x.1.table, .int .i64 x.1.kind, .string x.1.key, .string x.1.fin, .string x.1.val, .int .i64 x.1.expiry, .int .i64 x.1.at_.p, .int .i64 x.1.at_.l, .int .i64 x.1.at_.w, x.2]
theorem vM_eq (x : Ro) : vM x = .agg (enM x).toArray := rfl
/-- Where a law begins: what lies in the blocks ahead of it came with the call (each law gives its own number, as an instance). -/
structure Lim where
  n : Nat
set_option linter.unusedSectionVars false
variable [Inhabited Lim]
/-- A slice that begins a block, or came with the call. -/
def ZN (v : Value) : Prop := ∀ (a : Addr) (n c : Nat), v = .slice (some a) n c → n = 0 ∨ a.off = 0 ∨ a.block < (default : Lim).n
theorem ZN.none (n c : Nat) : ZN (.slice Option.none n c) := fun _ _ _ h => by cases h
theorem ZN.own {w : World} {base : Nat} {e : TypeId} {sz n : Nat} {v : Value} {xs : List Value} (h : w.ownsRow base e sz v n xs) : ZN v := by
  rcases h.2 with ⟨rfl, _⟩ | ⟨g, cap, cur, rfl, _⟩
  · exact ZN.none _ _
  · intro a n c h
    cases h
    exact Or.inr (Or.inl rfl)
theorem ZN.came {α : Type} {sz : Nat} {en : α → List Value} {w : World} {v : Value} {l : List α} (h : Lst sz en w v l) (hN : w.heap.size ≤ (default : Lim).n) : ZN v := by
  obtain ⟨ao, cap, rfl, -, -, h3⟩ := h
  intro a n c e
  cases e
  rcases h3 with h3 | ⟨b, off, e, hb, -⟩
  · exact Or.inl h3
  · cases e
    exact Or.inr (Or.inr (Nat.lt_of_lt_of_le hb hN))
/-- Its stamps are read there. -/
structure Over (w : World) (x : Ro) : Prop where
  lst : SRow w x.2 x.1.over
  zn : ZN x.2
theorem Over.below {w w' : World} {x : Ro} (h : Over w x) (hb : Below w.heap.size w w') : Over w' x := ⟨Lst.below h.lst hb, h.zn⟩
theorem Over.form {w : World} {x : Ro} (h : Over w x) : ∃ ao cap, x.2 = .slice ao x.1.over.length cap ∧ x.1.over.length ≤ cap ∧ cap ≤ maxLen := Lst.form h.lst
theorem Over.own {w : World} {base : Nat} {x : Ro} (h : w.ownsRow base 37 3 x.2 x.1.over.length (x.1.over.flatMap enS)) : Over w x := ⟨Lst.owned enS_len (by decide) rfl h, ZN.own h⟩
/-- A row of mutations. -/
structure MRow (w : World) (v : Value) (R : List Ro) : Prop where
  row : Lst 10 enM w v R
  over : ∀ x ∈ R, Over w x
theorem MRow.below {w w' : World} {v : Value} {R : List Ro} (h : MRow w v R) (hb : Below w.heap.size w w') : MRow w' v R := ⟨h.row.below hb, fun x hx => (h.over x hx).below hb⟩
theorem MRow.nil (w : World) : MRow w (.slice none 0 0) [] := ⟨Lst.nil w, fun _ h => by cases h⟩
theorem MRow.form {w : World} {v : Value} {R : List Ro} (h : MRow w v R) : ∃ ao cap, v = .slice ao R.length cap ∧ R.length ≤ cap ∧ cap ≤ maxLen := Lst.form h.row

theorem push2 {α : Type} (H : Array α) (x0 x1 : α) : ((H.push x0).push x1)[H.size]? = some x0 ∧ ((H.push x0).push x1)[H.size + 1]? = some x1 := by
  refine ⟨?_, ?_⟩ <;> simp only [Array.getElem?_push, Array.size_push] <;> (repeat' split) <;> (first | rfl | (exfalso; omega) | exact absurd trivial (by assumption))
/-- The ten cells of a mutation that lies at a place. -/
structure At (w : World) (b o : Nat) (x : Ro) : Prop where
  lt : b < w.heap.size
  c0 : w.cell? ⟨b, o, none⟩ = some (.int .i64 x.1.table)
  c1 : w.cell? ⟨b, o + 1, none⟩ = some (.int .i64 x.1.kind)
  c2 : w.cell? ⟨b, o + 2, none⟩ = some (.string x.1.key)
  c3 : w.cell? ⟨b, o + 3, none⟩ = some (.string x.1.fin)
  c4 : w.cell? ⟨b, o + 4, none⟩ = some (.string x.1.val)
  c5 : w.cell? ⟨b, o + 5, none⟩ = some (.int .i64 x.1.expiry)
  c6 : w.cell? ⟨b, o + 6, none⟩ = some (.int .i64 x.1.at_.p)
  c7 : w.cell? ⟨b, o + 7, none⟩ = some (.int .i64 x.1.at_.l)
  c8 : w.cell? ⟨b, o + 8, none⟩ = some (.int .i64 x.1.at_.w)
  c9 : w.cell? ⟨b, o + 9, none⟩ = some x.2
theorem At.of {w : World} {b o : Nat} {x : Ro} (hb : b < w.heap.size) (h : ∀ j, j < 10 → w.cell? ⟨b, o + j, none⟩ = (enM x)[j]?) : At w b o x :=
  ⟨hb, h 0 (by decide), h 1 (by decide), h 2 (by decide), h 3 (by decide), h 4 (by decide), h 5 (by decide), h 6 (by decide), h 7 (by decide), h 8 (by decide), h 9 (by decide)⟩
theorem At.below {w w' : World} {b o : Nat} {x : Ro} (h : At w b o x) (hb : Below w.heap.size w w') : At w' b o x := by
  have e : ∀ k, w'.cell? ⟨b, k, none⟩ = w.cell? ⟨b, k, none⟩ := fun k => hb.cell (p := ⟨b, k, none⟩) h.lt
  obtain ⟨h0, h1, h2, h3, h4, h5, h6, h7, h8, h9, h10⟩ := h
  exact ⟨Nat.lt_of_lt_of_le h0 hb.size, (e _).trans h1, (e _).trans h2, (e _).trans h3, (e _).trans h4, (e _).trans h5, (e _).trans h6, (e _).trans h7, (e _).trans h8, (e _).trans h9, (e _).trans h10⟩
theorem MRow.at_ {w : World} {ao : Option Addr} {n cap : Nat} {R : List Ro} {k : Nat} {x : Ro} (h : MRow w (.slice ao n cap) R) (hk : R[k]? = some x) : ∃ b off, ao = some ⟨b, off, none⟩ ∧ At w b (off + k * 10) x := by
  obtain ⟨hlt, he⟩ := List.getElem?_eq_some_iff.1 hk
  obtain ⟨b, off, ha, hb, hc⟩ := Lst.get h.row hlt
  rw [he] at hc
  exact ⟨b, off, ha, At.of hb hc⟩
/-- A mutation in a variable of its own, just laid. -/
theorem At.new (w : World) (t : TypeId) (x : Ro) : At (w.alloc (.cells (enM x).toArray t)) w.heap.size 0 x :=
  At.of (by simp) fun j hj => by
    have h := new_cells w (enM x) t j ((enM x)[j]'(by rw [enM_len]; exact hj)) (List.getElem?_eq_getElem _)
    rw [addr_add] at h
    rw [h, List.getElem?_eq_getElem]
end Go.Proofs.YtmjelcjdfamikaaGreatDoor.Mut

/- The walks of slices.CompareFunc at stamps, mut.Compare, mut.Same, siblings (layers 7, 8). -/
namespace Go.Proofs.YtmjelcjdfamikaaGreatDoor.Mut
open Go.RowKit Go.Sort Go.Proofs.YtmjelcjdfamikaaGreatDoor.Ord
set_option linter.unusedSectionVars false
variable [Inhabited Lim]

set_option maxHeartbeats 2000000 in
set_option maxRecDepth 100000 in
theorem rowc_any (a b : List Stp) (va vb : Value) (w : World) (ha : SRow w va a) (hb : SRow w vb b) (h1 : a.length ≤ 1000000) (h2 : b.length ≤ 1000000) :
    Calls Tryz.prog 107 #[va, vb, .func (.func 78) #[] #[]] w fun e w' => e = .returned (.int .i64 (rowC stC a b)) ∧ Lays w w' := by
  obtain ⟨ao, ac, rfl, -, -⟩ := Lst.form ha
  obtain ⟨bo, bc, rfl, -, -⟩ := Lst.form hb
  obtain ⟨n, hn⟩ : ∃ n, n = a.length := ⟨_, rfl⟩
  obtain ⟨m, hm⟩ : ∃ n, n = b.length := ⟨_, rfl⟩
  rw [← hn] at ha h1 ⊢
  rw [← hm] at hb h2 ⊢
  obtain ⟨R, hR⟩ : ∃ R, R = rowC stC a b := ⟨_, rfl⟩
  rw [← hR]
  have HA := Lib.hid ha
  have HB := Lib.hid hb
  have HN := Lib.hid hn
  have HM := Lib.hid hm
  have HR := Lib.hid hR
  clear ha hb hn hm hR
  go_enter Tryz.func107, Tryz.ntmps107
  go_wp2_with fail
  go_loopw [13] (fun iv wr => ∃ k : Nat, k ≤ n ∧ iv = .int .i64 k ∧ Hid (rowC stC (a.drop k) (b.drop k) = R) ∧ Lays w wr) (fun iv _ => n - (intOf iv).toNat)
  case atStart => exact ⟨0, by omega, rfl, Lib.hid (by rw [HR.out]; rfl), Lays.refl _⟩
  case round =>
    obtain ⟨k, hk, rfl, hrow, hl⟩ := hrel
    by_cases hlt : k < n
    · have hka : k < a.length := by have := HN.out; omega
      obtain ⟨x, hx⟩ : ∃ x, a[k]? = some x := ⟨_, List.getElem?_eq_getElem hka⟩
      have hxe : a[k] = x := (List.getElem?_eq_some_iff.1 hx).2
      obtain ⟨xb, xoff, rfl, hxb, x0, x1, x2⟩ := stamp_at (HA.out.below hl.below) hx
      have hda : a.drop k = x :: a.drop (k + 1) := by rw [List.drop_eq_getElem_cons hka, hxe]
      by_cases hltb : k < m
      · have hkb : k < b.length := by have := HM.out; omega
        obtain ⟨y, hy⟩ : ∃ y, b[k]? = some y := ⟨_, List.getElem?_eq_getElem hkb⟩
        have hye : b[k] = y := (List.getElem?_eq_some_iff.1 hy).2
        obtain ⟨yb, yoff, rfl, hyb, y0, y1, y2⟩ := stamp_at (HB.out.below hl.below) hy
        have hdb : b.drop k = y :: b.drop (k + 1) := by rw [List.drop_eq_getElem_cons hkb, hye]
        have hst := fun w => stamp_any x y w
        have hrow' : (if stC x y = 0 then rowC stC (a.drop (k + 1)) (b.drop (k + 1)) else stC x y) = R := by rw [← hrow.out, hda, hdb]; rfl
        obtain ⟨c, hc⟩ : ∃ c, c = stC x y := ⟨_, rfl⟩
        rw [← hc] at hst hrow'
        have HST := Lib.hid hst
        have HRR := Lib.hid hrow'
        clear hst hrow' hc hda hdb hx hy hxe hye hrow
        go_wp2_with fail
        refine (HST.out _).mono ?_
        rintro e w1 ⟨rfl, hb1⟩
        have hl1 : Lays w w1 := ((hl.alloc _).alloc _).trans hb1
        by_cases h0 : c = 0
        · have HRZ := Lib.hid (show rowC stC (a.drop (k + 1)) (b.drop (k + 1)) = R by have := HRR.out; rw [if_pos h0] at this; exact this)
          go_wp2_with fail
          go_roundw
          case rel => exact ⟨k + 1, by omega, by go_num, HRZ, hl1⟩
          case measure => simp [intOf]; omega
        · have HRZ := Lib.hid (show c = R by have := HRR.out; rw [if_neg h0] at this; exact this)
          go_wp2_with fail
          go_ret
          exact ⟨ret_int (by rw [← HRZ.out]), hl1⟩
      · have HRZ := Lib.hid (show (1 : Int) = R by rw [← hrow.out, hda, show List.drop k b = [] from List.drop_of_length_le (by have := HM.out; omega)]; rfl)
        clear hx hxe hda hrow
        go_wp2_with fail
        go_ret
        exact ⟨ret_int (by rw [← HRZ.out]), hl.alloc _⟩
    · obtain rfl : k = n := by omega
      by_cases hltb : k < m
      · have HRZ := Lib.hid (show (-1 : Int) = R by
          rw [← hrow.out, List.drop_of_length_le (by have := HN.out; omega)]
          cases hd : b.drop k with
          | nil => have := congrArg List.length hd; rw [List.length_drop] at this; simp at this; have := HM.out; omega
          | cons y l => rfl)
        clear hrow
        go_wp2_with fail
        go_ret
        exact ⟨ret_int (by rw [← HRZ.out]), hl⟩
      · have HRZ := Lib.hid (show (0 : Int) = R by rw [← hrow.out, List.drop_of_length_le (by have := HN.out; omega), List.drop_of_length_le (by have := HM.out; omega)]; rfl)
        clear hrow
        go_wp2_with fail
        go_ret
        exact ⟨ret_int (by rw [← HRZ.out]), hl⟩

set_option maxHeartbeats 4000000 in
set_option maxRecDepth 100000 in
theorem compare_any (x y : Ro) (w : World) (hx : Over w x) (hy : Over w y) (h1 : x.1.over.length ≤ 1000000) (h2 : y.1.over.length ≤ 1000000) :
    Calls Tryz.prog 65 #[vM x, vM y] w fun e w' => e = .returned (.int .i64 (muC x.1 y.1)) ∧ Lays w w' := by
  have hc0 := fun (z : World) (h : Lays w z) => rowc_any x.1.over y.1.over x.2 y.2 z (hx.below h.below).lst (hy.below h.below).lst h1 h2
  obtain ⟨⟨at1, ak1, akey1, afin1, aval1, aex1, ⟨ap1, al1, aw1⟩, aov1⟩, av1⟩ := x
  obtain ⟨⟨at2, ak2, akey2, afin2, aval2, aex2, ⟨ap2, al2, aw2⟩, aov2⟩, av2⟩ := y
  have hs := fun w => stamp_any ⟨ap1, al1, aw1⟩ ⟨ap2, al2, aw2⟩ w
  have hmu : muC ⟨at1, ak1, akey1, afin1, aval1, aex1, ⟨ap1, al1, aw1⟩, aov1⟩ ⟨at2, ak2, akey2, afin2, aval2, aex2, ⟨ap2, al2, aw2⟩, aov2⟩ = orL [stC ⟨ap1, al1, aw1⟩ ⟨ap2, al2, aw2⟩, cmpI at1 at2, cmpI ak1 ak2, cmpS akey1 akey2, cmpS afin1 afin2, cmpS aval1 aval2, cmpI aex1 aex2, rowC stC aov1 aov2] := rfl
  rw [hmu]
  obtain ⟨c1, hc1⟩ : ∃ c, c = stC ⟨ap1, al1, aw1⟩ ⟨ap2, al2, aw2⟩ := ⟨_, rfl⟩
  obtain ⟨c8, hc8⟩ : ∃ c, c = rowC stC aov1 aov2 := ⟨_, rfl⟩
  simp only [] at hc0 h1 h2
  rw [← hc1] at hs ⊢
  rw [← hc8] at hc0 ⊢
  have HS := Lib.hid hs
  have HC := Lib.hid hc0
  obtain ⟨ao1, ac1, e1, -, -⟩ := Over.form hx
  obtain ⟨ao2, ac2, e2, -, -⟩ := Over.form hy
  simp only [] at e1 e2
  subst e1 e2
  obtain ⟨n1, hn1⟩ : ∃ n, n = aov1.length := ⟨_, rfl⟩
  obtain ⟨n2, hn2⟩ : ∃ n, n = aov2.length := ⟨_, rfl⟩
  rw [← hn1, ← hn2] at HC
  unfold vM
  simp only []
  rw [← hn1, ← hn2]
  clear hs hc0 hc1 hc8 hmu hx hy h1 h2 hn1 hn2
  go_enter Tryz.func65, Tryz.ntmps65
  go_wp2_with fail
  have hl0 : Lays w ((w.alloc (.cells #[.int .i64 at1, .int .i64 ak1, .string akey1, .string afin1, .string aval1, .int .i64 aex1, .int .i64 ap1, .int .i64 al1, .int .i64 aw1, .slice ao1 n1 ac1] 40)).alloc (.cells #[.int .i64 at2, .int .i64 ak2, .string akey2, .string afin2, .string aval2, .int .i64 aex2, .int .i64 ap2, .int .i64 al2, .int .i64 aw2, .slice ao2 n2 ac2] 40)) := ((Lays.refl _).alloc _).alloc _
  have a0 : ∀ k, ((w.alloc (.cells #[.int .i64 at1, .int .i64 ak1, .string akey1, .string afin1, .string aval1, .int .i64 aex1, .int .i64 ap1, .int .i64 al1, .int .i64 aw1, .slice ao1 n1 ac1] 40)).alloc (.cells #[.int .i64 at2, .int .i64 ak2, .string akey2, .string afin2, .string aval2, .int .i64 aex2, .int .i64 ap2, .int .i64 al2, .int .i64 aw2, .slice ao2 n2 ac2] 40)).cell? ⟨w.heap.size, k, none⟩ = (#[Value.int .i64 at1, .int .i64 ak1, .string akey1, .string afin1, .string aval1, .int .i64 aex1, .int .i64 ap1, .int .i64 al1, .int .i64 aw1, .slice ao1 n1 ac1])[k]? := fun k => by
    rw [cell_of_row _ _ k _ 40 (0, 0) (push2 w.heap _ _).1]
  have b0 : ∀ k, ((w.alloc (.cells #[.int .i64 at1, .int .i64 ak1, .string akey1, .string afin1, .string aval1, .int .i64 aex1, .int .i64 ap1, .int .i64 al1, .int .i64 aw1, .slice ao1 n1 ac1] 40)).alloc (.cells #[.int .i64 at2, .int .i64 ak2, .string akey2, .string afin2, .string aval2, .int .i64 aex2, .int .i64 ap2, .int .i64 al2, .int .i64 aw2, .slice ao2 n2 ac2] 40)).cell? ⟨w.heap.size + 1, k, none⟩ = (#[Value.int .i64 at2, .int .i64 ak2, .string akey2, .string afin2, .string aval2, .int .i64 aex2, .int .i64 ap2, .int .i64 al2, .int .i64 aw2, .slice ao2 n2 ac2])[k]? := fun k => by
    rw [cell_of_row _ _ k _ 40 (0, 0) (push2 w.heap _ _).2]
  have hsz : w.heap.size + 1 < ((w.alloc (.cells #[.int .i64 at1, .int .i64 ak1, .string akey1, .string afin1, .string aval1, .int .i64 aex1, .int .i64 ap1, .int .i64 al1, .int .i64 aw1, .slice ao1 n1 ac1] 40)).alloc (.cells #[.int .i64 at2, .int .i64 ak2, .string akey2, .string afin2, .string aval2, .int .i64 aex2, .int .i64 ap2, .int .i64 al2, .int .i64 aw2, .slice ao2 n2 ac2] 40)).heap.size := by simp
  generalize ((w.alloc (.cells #[.int .i64 at1, .int .i64 ak1, .string akey1, .string afin1, .string aval1, .int .i64 aex1, .int .i64 ap1, .int .i64 al1, .int .i64 aw1, .slice ao1 n1 ac1] 40)).alloc (.cells #[.int .i64 at2, .int .i64 ak2, .string akey2, .string afin2, .string aval2, .int .i64 aex2, .int .i64 ap2, .int .i64 al2, .int .i64 aw2, .slice ao2 n2 ac2] 40)) = W at *
  obtain ⟨g, hg⟩ : ∃ g, g = w.heap.size := ⟨_, rfl⟩
  rw [← hg] at a0 b0 hsz
  have A0 := a0 0; have A1 := a0 1; have A2 := a0 2; have A3 := a0 3; have A4 := a0 4; have A5 := a0 5; have A6 := a0 6; have A7 := a0 7; have A8 := a0 8; have A9 := a0 9
  have B0 := b0 0; have B1 := b0 1; have B2 := b0 2; have B3 := b0 3; have B4 := b0 4; have B5 := b0 5; have B6 := b0 6; have B7 := b0 7; have B8 := b0 8; have B9 := b0 9
  have hs1 : g < W.heap.size := by omega
  have HG := Lib.hid hg
  clear a0 b0 hg
  rw [← HG.out]
  refine wp_region_lays_tail 40 (by kernel_rfl) (by kernel_rfl) ?_
  simp only [List.take_succ_cons, List.take_zero, List.drop_succ_cons, List.drop_zero]
  repeat (go_big_quiet_step (first
    | (go_at_call 78; exact laid (HS.out _))
    | (go_at_call 104; exact laid_same (cmpT_any _ _ _))
    | (go_at_call 105; exact laid_same (cmpK_any _ _ _))
    | (go_at_call 99; exact laid_same (cmpS_any _ _ _))
    | (go_at_call 106; exact laid_same (cmpI_any _ _ _))
    | (go_at_call 107; exact laid (HC.out _ (hl0.trans (GW.lays _))))))
  refine wpQuiet_nil ?_
  rintro _ ⟨y, rfl⟩
  go_wp2_with fail
  refine (or_any y.at.heap.size 0 8 [c1, cmpI at1 at2, cmpI ak1 ak2, cmpS akey1 akey2, cmpS afin1 afin2, cmpS aval1 aval2, cmpI aex1 aex2, c8] _ (ints_new _ _ [c1, cmpI at1 at2, cmpI ak1 ak2, cmpS akey1 akey2, cmpS afin1 afin2, cmpS aval1 aval2, cmpI aex1 aex2, c8]) (by simp)).mono ?_
  rintro e w2 ⟨rfl, rfl⟩
  go_wp2_with fail
  go_ret
  exact ⟨rfl, hl0.trans (y.lays.alloc _)⟩
end Go.Proofs.YtmjelcjdfamikaaGreatDoor.Mut

/- The walks of mut.Same, siblings, mut.Covers, within (layers 7, 8). -/
namespace Go.Proofs.YtmjelcjdfamikaaGreatDoor.Mut
open Go.RowKit Go.Sort Go.Proofs.YtmjelcjdfamikaaGreatDoor.Ord
set_option linter.unusedSectionVars false
variable [Inhabited Lim]

def coversB (w : Mu) (key : ByteArray) : Bool := decide (w.kind = 3) && (!lessS key w.key && lessS key w.fin)
def withinB (a b : Mu) : Bool := !lessS b.key a.key && (!lessS a.fin b.fin && !decide (stC a.at_ b.at_ < 0))
theorem le_less (a b : ByteArray) : cmpS a b ≤ 0 ↔ lessS b a = false := by
  have := cmpS_gt a b
  unfold lessS
  cases h : Op.bytesLess b.toList a.toList
  · rw [h] at this; simp at this ⊢; omega
  · rw [h] at this; simp at this ⊢; omega
theorem le_or (a b : ByteArray) : (Op.bytesLess a.toList b.toList || a.toList == b.toList) = !lessS b a := by
  unfold lessS
  rcases less_total a.toList b.toList with h | h | h
  · rw [h, less_asymm h]; rfl
  · rw [h, less_irrefl]; simp
  · rw [h, less_asymm h]; simpa using (less_ne h).symm
theorem lt_less (a b : ByteArray) : cmpS a b < 0 ↔ lessS a b = true := cmpS_lt a b
theorem covers_iff (w : Mu) (key : ByteArray) : covers w key ↔ coversB w key = true := by
  unfold covers coversB
  rw [Bool.and_eq_true, Bool.and_eq_true, decide_eq_true_iff, le_less, lt_less, Bool.not_eq_true']
theorem within_iff (a b : Mu) : within a b ↔ withinB a b = true := by
  unfold within withinB
  rw [Bool.and_eq_true, Bool.and_eq_true, Bool.not_eq_true', Bool.not_eq_true', Bool.not_eq_true', decide_eq_false_iff_not, le_less, le_less]

set_option maxHeartbeats 1000000 in
set_option maxRecDepth 100000 in
theorem same_any (x y : Ro) (w : World) (hx : Over w x) (hy : Over w y) (h1 : x.1.over.length ≤ 1000000) (h2 : y.1.over.length ≤ 1000000) :
    Calls Tryz.prog 229 #[vM x, vM y] w fun e w' => e = .returned (.bool (decide (muC x.1 y.1 = 0))) ∧ Lays w w' := by
  have hc := fun (z : World) (h : Lays w z) => compare_any x y z (hx.below h.below) (hy.below h.below) h1 h2
  obtain ⟨c, hce⟩ : ∃ c, c = muC x.1 y.1 := ⟨_, rfl⟩
  rw [← hce] at hc ⊢
  obtain ⟨ao1, ac1, e1, -, -⟩ := Over.form hx
  obtain ⟨ao2, ac2, e2, -, -⟩ := Over.form hy
  obtain ⟨⟨at1, ak1, akey1, afin1, aval1, aex1, ⟨ap1, al1, aw1⟩, aov1⟩, av1⟩ := x
  obtain ⟨⟨at2, ak2, akey2, afin2, aval2, aex2, ⟨ap2, al2, aw2⟩, aov2⟩, av2⟩ := y
  simp only [] at e1 e2
  subst e1 e2
  unfold vM at hc ⊢
  simp only [] at hc ⊢
  generalize aov1.length = n1 at *
  generalize aov2.length = n2 at *
  have HC := Lib.hid hc
  clear hc hx hy h1 h2 hce
  go_enter Tryz.func229, Tryz.ntmps229
  go_wp2_with fail
  refine (HC.out _ (((Lays.refl _).alloc _).alloc _)).mono ?_
  rintro e w1 ⟨rfl, hb⟩
  go_wp2_with fail
  go_ret
  exact ⟨ret_bool (by by_cases h : c = 0 <;> simp [h]), (((Lays.refl _).alloc _).alloc _).trans hb⟩

set_option maxHeartbeats 1000000 in
set_option maxRecDepth 100000 in
theorem covers_any (x : Ro) (key : ByteArray) (w : World) (hx : ∃ ao n cap, x.2 = .slice ao n cap) :
    Calls Tryz.prog 67 #[vM x, .string key] w fun e w' => e = .returned (.bool (coversB x.1 key)) ∧ Lays w w' := by
  obtain ⟨ao, n, cap, e1⟩ := hx
  obtain ⟨⟨at1, ak1, akey1, afin1, aval1, aex1, ⟨ap1, al1, aw1⟩, aov1⟩, av1⟩ := x
  simp only [] at e1
  subst e1
  unfold vM coversB
  simp only []
  by_cases hk : ak1 = 3
  · cases h2 : lessS key akey1
    · have e2 : (Op.bytesLess akey1.toList key.toList || akey1.toList == key.toList) = true := by rw [le_or, h2]; rfl
      cases h3 : lessS key afin1
      all_goals
        unfold lessS at h3
        go_enter Tryz.func67, Tryz.ntmps67
        go_wp2_with fail
        go_ret
        exact ⟨ret_bool (by simp [hk, h3]), (Lays.refl _).alloc _⟩
    · have e2 : (Op.bytesLess akey1.toList key.toList || akey1.toList == key.toList) = false := by rw [le_or, h2]; rfl
      go_enter Tryz.func67, Tryz.ntmps67
      go_wp2_with fail
      go_ret
      exact ⟨ret_bool (by simp [hk]), (Lays.refl _).alloc _⟩
  · go_enter Tryz.func67, Tryz.ntmps67
    go_wp2_with fail
    go_ret
    exact ⟨ret_bool (by simp [hk]), (Lays.refl _).alloc _⟩

set_option maxHeartbeats 1000000 in
set_option maxRecDepth 100000 in
theorem within_any (x y : Ro) (w : World) (hx : ∃ ao n cap, x.2 = .slice ao n cap) (hy : ∃ ao n cap, y.2 = .slice ao n cap) :
    Calls Tryz.prog 62 #[vM x, vM y] w fun e w' => e = .returned (.bool (withinB x.1 y.1)) ∧ Lays w w' := by
  obtain ⟨ao, n, cap, e1⟩ := hx
  obtain ⟨bo, m, bcap, e2⟩ := hy
  obtain ⟨⟨at1, ak1, akey1, afin1, aval1, aex1, ⟨ap1, al1, aw1⟩, aov1⟩, av1⟩ := x
  obtain ⟨⟨at2, ak2, akey2, afin2, aval2, aex2, ⟨ap2, al2, aw2⟩, aov2⟩, av2⟩ := y
  simp only [] at e1 e2
  subst e1 e2
  have HS := Lib.hid (fun w => stless_any ⟨ap1, al1, aw1⟩ ⟨ap2, al2, aw2⟩ w)
  unfold vM withinB
  simp only []
  obtain ⟨d, hd⟩ : ∃ d, d = decide (stC ⟨ap1, al1, aw1⟩ ⟨ap2, al2, aw2⟩ < 0) := ⟨_, rfl⟩
  rw [← hd] at HS ⊢
  clear hd
  cases h2 : lessS akey2 akey1
  · have e2 : (Op.bytesLess akey1.toList akey2.toList || akey1.toList == akey2.toList) = true := by rw [le_or, h2]; rfl
    cases h3 : lessS afin1 afin2
    · have e3 : (Op.bytesLess afin2.toList afin1.toList || afin2.toList == afin1.toList) = true := by rw [le_or, h3]; rfl
      go_enter Tryz.func62, Tryz.ntmps62
      go_wp2_with fail
      refine (HS.out _).mono ?_
      rintro e w1 ⟨rfl, hb⟩
      go_wp2_with fail
      go_ret
      exact ⟨ret_bool (by simp), (((Lays.refl _).alloc _).alloc _).trans hb⟩
    · have e3 : (Op.bytesLess afin2.toList afin1.toList || afin2.toList == afin1.toList) = false := by rw [le_or, h3]; rfl
      go_enter Tryz.func62, Tryz.ntmps62
      go_wp2_with fail
      go_ret
      exact ⟨ret_bool (by simp), ((Lays.refl _).alloc _).alloc _⟩
  · have e2 : (Op.bytesLess akey1.toList akey2.toList || akey1.toList == akey2.toList) = false := by rw [le_or, h2]; rfl
    go_enter Tryz.func62, Tryz.ntmps62
    go_wp2_with fail
    go_ret
    exact ⟨ret_bool (by simp), ((Lays.refl _).alloc _).alloc _⟩

set_option maxHeartbeats 1000000 in
set_option maxRecDepth 100000 in
theorem siblings_any (x y : Ro) (w : World) (hx : Over w x) (hy : Over w y) (h1 : x.1.over.length ≤ 1000000) (h2 : y.1.over.length ≤ 1000000) :
    Calls Tryz.prog 57 #[vM x, vM y] w fun e w' => e = .returned (.int .i64 (sibC x.1 y.1)) ∧ Lays w w' := by
  have hc := fun (z : World) (h : Lays w z) => compare_any x y z (hx.below h.below) (hy.below h.below) h1 h2
  have hsib : sibC x.1 y.1 = orL [cmpS x.1.key y.1.key, muC x.1 y.1] := rfl
  rw [hsib]
  obtain ⟨c, hce⟩ : ∃ c, c = muC x.1 y.1 := ⟨_, rfl⟩
  rw [← hce] at hc ⊢
  obtain ⟨ao1, ac1, e1, -, -⟩ := Over.form hx
  obtain ⟨ao2, ac2, e2, -, -⟩ := Over.form hy
  obtain ⟨⟨at1, ak1, akey1, afin1, aval1, aex1, ⟨ap1, al1, aw1⟩, aov1⟩, av1⟩ := x
  obtain ⟨⟨at2, ak2, akey2, afin2, aval2, aex2, ⟨ap2, al2, aw2⟩, aov2⟩, av2⟩ := y
  simp only [] at e1 e2 hsib
  subst e1 e2
  unfold vM at hc ⊢
  simp only [] at hc ⊢
  generalize aov1.length = n1 at *
  generalize aov2.length = n2 at *
  have HC := Lib.hid hc
  clear hc hx hy h1 h2 hce hsib
  go_enter Tryz.func57, Tryz.ntmps57
  go_wp2_with fail
  refine wp_region_lays_tail 8 (by kernel_rfl) (by kernel_rfl) ?_
  simp only [List.take_succ_cons, List.take_zero, List.drop_succ_cons, List.drop_zero]
  repeat (go_big_quiet_step (first
    | (go_at_call 99; exact laid_same (cmpS_any _ _ _))
    | (go_at_call 65; exact laid (HC.out _ ((((Lays.refl _).alloc _).alloc _).trans (GW.lays _))))))
  refine wpQuiet_nil ?_
  rintro _ ⟨y, rfl⟩
  go_wp2_with fail
  refine (or_any y.at.heap.size 0 2 [cmpS akey1 akey2, c] _ (ints_new _ _ [cmpS akey1 akey2, c]) (by simp)).mono ?_
  rintro e w2 ⟨rfl, rfl⟩
  go_wp2_with fail
  go_ret
  exact ⟨rfl, (((Lays.refl _).alloc _).alloc _).trans (y.lays.alloc _)⟩
end Go.Proofs.YtmjelcjdfamikaaGreatDoor.Mut
