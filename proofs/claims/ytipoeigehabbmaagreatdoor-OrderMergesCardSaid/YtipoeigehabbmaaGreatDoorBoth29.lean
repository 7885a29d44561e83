/- GrowY, Both29: in one text. -/
import Derived.Test.YtipoeigehabbmaaGreatDoorKeepRow
import Derived.Test.YtipoeigehabbmaaGreatDoorReply
import Derived.Test.YtipoeigehabbmaaGreatDoorTold
/- Rows of replies that grow (layer 29). PRINTED by wip/genboth29.py. -/
set_option linter.unusedSimpArgs false
set_option linter.unusedVariables false
namespace Go.Proofs.YtipoeigehabbmaaGreatDoor.Mut
open Go.RowKit Go.Sort Go.Proofs.YtipoeigehabbmaaGreatDoor.Ord Go.Proofs.YtipoeigehabbmaaGreatDoor.RegInv Go.Proofs.YtipoeigehabbmaaGreatDoor.Spare
set_option linter.unusedSectionVars false
variable [Inhabited Lim]

def zY : List Value := [.int .i64 0, .int .i64 0, .slice none 0 0, .slice none 0 0, .slice none 0 0, .int .i64 0, .int .i64 0, .int .i64 0]
def FormsY (x : Ry) : Prop := (∃ ao n c, x.a = .slice ao n c) ∧ (∃ ao n c, x.b = .slice ao n c) ∧ ∃ ao n c, x.d = .slice ao n c
theorem LiesY.forms {w : World} {x : Ry} (h : Lies w x.a x.b x.d x.c) : FormsY x := ⟨h.cells.slice, h.wipes.slice, h.sibs.slice⟩
theorem flatY_str {R : List Ry} (h : ∀ x ∈ R, FormsY x) (s : ByteArray) : Value.string s ∉ R.flatMap enY := by
  intro hm
  obtain ⟨x, hx, h1⟩ := List.mem_flatMap.1 hm
  obtain ⟨⟨_, _, _, e1⟩, ⟨_, _, _, e2⟩, ⟨_, _, _, e3⟩⟩ := h x hx
  unfold enY at h1
  simp [e1, e2, e3] at h1
theorem flatY_one {R : List Ry} (h : ∀ x ∈ R, FormsY x) : ∀ u ∈ R.flatMap enY, u.oneCell' = true := by
  intro u hm
  obtain ⟨x, hx, h1⟩ := List.mem_flatMap.1 hm
  obtain ⟨⟨_, _, _, e1⟩, ⟨_, _, _, e2⟩, ⟨_, _, _, e3⟩⟩ := h x hx
  unfold enY at h1
  simp only [e1, e2, e3, List.mem_cons, List.not_mem_nil, or_false] at h1
  rcases h1 with rfl | rfl | rfl | rfl | rfl | rfl | rfl | rfl <;> rfl
theorem flatY_j {R : List Ry} (h : ∀ x ∈ R, FormsY x) (i : Int) : (R.flatMap enY)[2]? ≠ some (.int .i64 i) := by
  cases R with
  | nil => simp
  | cons x R =>
    obtain ⟨⟨_, _, _, e1⟩, -⟩ := h x (List.mem_cons_self ..)
    simp [enY, e1]
theorem plain_Y {R : List Ry} (h : ∀ x ∈ R, FormsY x) : Plainly zY (R.flatMap enY) 2 :=
  ⟨by decide, by decide, fun s hs => by simp [zY] at hs, flatY_str h, fun i => by simp [zY], flatY_j h⟩
theorem info_Reply : (Tryz.prog.info? 81).map (fun i => (i.zero, i.size, i.bytes)) = some (some (.agg ⟨zY⟩), 8, 112) := by kernel_rfl
theorem one_reply {w : World} {x : Ry} {t : TypeId} (h : Lies w x.a x.b x.d x.c) : YRow (w.alloc (.cells ⟨enY x⟩ t)) (.slice (some ⟨w.heap.size, 0, none⟩) 1 1) [x] := by
  refine ⟨⟨_, 1, rfl, by simp, by decide, Or.inr ⟨_, _, rfl, by simp, fun i y hi j hj => ?_⟩⟩, fun y hy => ?_⟩
  · rw [cells_at (heap_alloc_new w _), Nat.zero_add]
    have := flatMap_get enY_len [x] i y hi j hj
    simpa using this
  · rw [List.mem_singleton.1 hy]
    exact h.below ((Below.refl _ _).alloc (Nat.le_refl _) _)
theorem wpList_append_replies {w : World} {ops : Array Oper} {rest : List Oper} {o : Oper} {a : Act} {Q : Exit → Act → World → Prop} (hgd : o.guard = none) (s x : Operand) {t e : TypeId}
    (ho : o.op = .call { callee := .builtin .append, args := #[s, x], argTypes := #[t, t] }) (ht : Tryz.prog.underlying t = some (.slice e))
    (hinfo : (Tryz.prog.info? e).map (fun i => (i.zero, i.size, i.bytes)) = some (some (.agg ⟨zY⟩), 8, 112)) (base : Nat) (v : Value) (n : Nat) (xs : List Value) (hs : a.eval s = v) (hown : Spare w base e zY v n xs)
    (ad : Addr) (m c : Nat) (R : List Ry) (hx : a.eval x = .slice (some ad) m c) (hR : Lst 8 enY w (.slice (some ad) m c) R) (hF : ∀ x ∈ R, FormsY x) (hm0 : 0 < m ∨ v ≠ .slice none 0 0) (hm : n + m ≤ 1000000) (hbase : base ≤ w.heap.size)
    (h : ∀ v' w', Spare w' base e zY v' (n + m) (xs ++ R.flatMap enY) → w.grownBy w' v.ownBlock → Kept w w' zY v n → SpareLoc w v v' → wpList Tryz.prog ops Q rest (a.put o.dst v') w') : wpList Tryz.prog ops Q (o :: rest) a w := by
  obtain ⟨i0, hi, hz0, hz1, hz2⟩ := info_parts hinfo
  have hmR : m = R.length := Lst.len hR
  subst hmR
  exact wpList_append_spare hgd s x t ho base e i0 (.agg ⟨zY⟩) zY 112 ht hi hz0 rfl hz1 hz2 (by decide) v n xs hs hown ad R.length c (R.flatMap enY) hx hm0 (flatMap_len enY_len R) (Lst.news enY_len (by decide) hR) (flatY_one hF) (by unfold maxLen; omega) (by omega) hbase h
/-- Reports in a row that grows. -/
structure GrowY (w : World) (base : Nat) (e : TypeId) (v : Value) (n : Nat) (R : List Ry) : Prop where
  row : Spare w base e zY v n (R.flatMap enY)
  con : ∀ x ∈ R, Lies w x.a x.b x.d x.c
  len : n = R.length
theorem GrowY.forms {w : World} {base : Nat} {e : TypeId} {v : Value} {n : Nat} {R : List Ry} (h : GrowY w base e v n R) : ∀ x ∈ R, FormsY x := fun x hx => LiesY.forms (h.con x hx)
theorem GrowY.nil (w : World) (base : Nat) (e : TypeId) : GrowY w base e (.slice none 0 0) 0 [] := ⟨Spare.nil w base e zY, fun x hx => (by cases hx), rfl⟩
theorem GrowY.below {w w' : World} {base : Nat} {e : TypeId} {v : Value} {n : Nat} {R : List Ry} (h : GrowY w base e v n R) (hb : RowKit.Below w.heap.size w w') : GrowY w' base e v n R := ⟨h.row.below hb, fun x hx => (h.con x hx).below hb, h.len⟩
theorem GrowY.yrow {w : World} {base : Nat} {e : TypeId} {v : Value} {n : Nat} {R : List Ry} (h : GrowY w base e v n R) : YRow w v R := ⟨Lst.owned enY_len (by decide) h.len h.row.own, h.con⟩
/-- Behind an append to this row: itself with one more, and what lies beside it. -/
theorem GrowY.more {w w' : World} {base : Nat} {e : TypeId} {v v' : Value} {n : Nat} {R : List Ry} {x : Ry} (h : GrowY w base e v n R) (hN : (default : Lim).n ≤ base) (hx : Lies w x.a x.b x.d x.c) (hsp : Spare w' base e zY v' (n + 1) (R.flatMap enY ++ [x].flatMap enY)) (hg : w.grownBy w' v.ownBlock) : GrowY w' base e v' (n + 1) (R ++ [x]) := by
  refine ⟨by rw [List.flatMap_append]; exact hsp, fun y hy => ?_, by rw [List.length_append, ← h.len]; rfl⟩
  rcases List.mem_append.1 hy with g | g
  · exact lies_keptZ (h.con y g) hN h.row (plain_Y h.forms) hg
  · rw [List.mem_singleton.1 g]
    exact lies_keptZ hx hN h.row (plain_Y h.forms) hg
theorem GrowY.beside {w w' : World} {base base2 : Nat} {e e2 : TypeId} {v v2 : Value} {n n2 : Nat} {R R2 : List Ry} (h2 : GrowY w base2 e2 v2 n2 R2) (h : GrowY w base e v n R) (hN : (default : Lim).n ≤ base) (hne : e ≠ e2) (hg : w.grownBy w' v.ownBlock) : GrowY w' base2 e2 v2 n2 R2 :=
  ⟨h2.row.kept hg (rows_apart h2.row.own h.row.own (fun e => hne e.symm)), fun y hy => lies_keptZ (h2.con y hy) hN h.row (plain_Y h.forms) hg, h2.len⟩
theorem GrowY.belowB {w0 w w' : World} {base : Nat} {e : TypeId} {v : Value} {n : Nat} {R : List Ry} (h : GrowY w base e v n R) (hb : RowKit.Below base w0 w) (hg : w.grownBy w' v.ownBlock) (hs : base ≤ w.heap.size) : RowKit.Below base w0 w' := hb.grown hg hs (fun k hk => (h.row.own.lt k hk).1)

theorem Grow.besideY {w w' : World} {base base2 : Nat} {e e2 : TypeId} {v v2 : Value} {n n2 : Nat} {R : List Ry} {R2 : List Rp} (h2 : Grow w base2 e2 v2 n2 R2) (h : GrowY w base e v n R) (hN : (default : Lim).n ≤ base) (hne : e ≠ e2) (hg : w.grownBy w' v.ownBlock) : Grow w' base2 e2 v2 n2 R2 :=
  ⟨h2.row.kept hg (rows_apart h2.row.own h.row.own (fun e => hne e.symm)), fun y hy => lies_keptZ (h2.con y hy) hN h.row (plain_Y h.forms) hg, h2.len⟩
theorem GrowY.besideR {w w' : World} {base base2 : Nat} {e e2 : TypeId} {v v2 : Value} {n n2 : Nat} {R : List Rp} {R2 : List Ry} (h2 : GrowY w base2 e2 v2 n2 R2) (h : Grow w base e v n R) (hN : (default : Lim).n ≤ base) (hne : e ≠ e2) (hg : w.grownBy w' v.ownBlock) : GrowY w' base2 e2 v2 n2 R2 :=
  ⟨h2.row.kept hg (rows_apart h2.row.own h.row.own (fun e => hne e.symm)), fun y hy => lies_keptZ (h2.con y hy) hN h.row (plain_R h.forms) hg, h2.len⟩
end Go.Proofs.YtipoeigehabbmaaGreatDoor.Mut

/- The walk of the law's both (layer 29): replies, of both. PRINTED by wip/genboth29.py. -/
set_option linter.unusedSimpArgs false
set_option linter.unusedVariables false
namespace Go.Proofs.YtipoeigehabbmaaGreatDoor.Mut
open Go.RowKit Go.Sort Go.Proofs.YtipoeigehabbmaaGreatDoor.Ord Go.Proofs.YtipoeigehabbmaaGreatDoor.RegInv Go.Proofs.YtipoeigehabbmaaGreatDoor.Spare
set_option linter.unusedSectionVars false
variable [Inhabited Lim]

/-- What a reply says. -/
def coreY (x : Ry) : Int × Int × Con × Stp := (x.from_, x.no, x.c, x.f)
def coresY : Nat → List Td → List (Int × Int × Con × Stp)
  | _, [] => []
  | i, x :: t => ((i : Int) + 3, 10 * (i : Int), leftOf (x.l.map (·.1)), x.f) :: coresY (i + 1) t
theorem coresY_snoc (x : Td) : ∀ (T : List Td) (i : Nat), coresY i (T ++ [x]) = coresY i T ++ [(((i + T.length : Nat) : Int) + 3, 10 * ((i + T.length : Nat) : Int), leftOf (x.l.map (·.1)), x.f)]
  | [], i => by simp [coresY]
  | y :: T, i => by
    rw [List.cons_append, coresY, coresY, coresY_snoc x T (i + 1), List.cons_append, List.length_cons]
    rw [show i + 1 + T.length = i + (T.length + 1) by omega]
def coreZ (x : Td) : Con × Stp × Bool := (leftOf (x.l.map (·.1)), x.f, false)
structure AtT (w : World) (b o : Nat) (x : Td) : Prop where
  lt : b < w.heap.size
  c0 : w.cell? ⟨b, o, none⟩ = some x.v
  c1 : w.cell? ⟨b, o + 1, none⟩ = some (.int .i64 x.f.p)
  c2 : w.cell? ⟨b, o + 2, none⟩ = some (.int .i64 x.f.l)
  c3 : w.cell? ⟨b, o + 3, none⟩ = some (.int .i64 x.f.w)
  c4 : w.cell? ⟨b, o + 4, none⟩ = some (.bool x.q)
theorem AtT.below {w w' : World} {b o : Nat} {x : Td} (h : AtT w b o x) (hb : RowKit.Below w.heap.size w w') : AtT w' b o x := by
  have e : ∀ k, w'.cell? ⟨b, k, none⟩ = w.cell? ⟨b, k, none⟩ := fun k => hb.cell (p := ⟨b, k, none⟩) h.lt
  obtain ⟨h0, h1, h2, h3, h4, h5⟩ := h
  exact ⟨Nat.lt_of_lt_of_le h0 hb.size, (e _).trans h1, (e _).trans h2, (e _).trans h3, (e _).trans h4, (e _).trans h5⟩
theorem TRow.at_ {w : World} {ao : Option Addr} {n cap : Nat} {T : List Td} (h : TRow w (.slice ao n cap) T) {k : Nat} {x : Td} (hk : T[k]? = some x) : ∃ b off, ao = some ⟨b, off, none⟩ ∧ AtT w b (off + k * 5) x := by
  obtain ⟨hlt, he⟩ := List.getElem?_eq_some_iff.1 hk
  obtain ⟨b, off, e, hb, h0, h1, h2, h3, h4⟩ := h.get hlt
  rw [he] at h0 h1 h2 h3 h4
  exact ⟨b, off, e, hb, h0, h1, h2, h3, h4⟩

set_option maxHeartbeats 8000000 in
set_option maxRecDepth 100000 in
theorem both29_any (v : Value) (T : List Td) (w : World) (hT : Tabs w) (hv : TRow w v T) (hN0 : (default : Lim).n ≤ w.heap.size) (hn : T.length ≤ 1000) (hl : ∀ x ∈ T, (x.l.map (·.1)).length ≤ 10000 ∧ ∀ m ∈ x.l.map (·.1), Small m) :
    Calls Tryz.prog 27 #[v] w fun e w' => ∃ va vb RA RB, e = .returned (.tuple #[va, vb]) ∧ YRow w' va RA ∧ RRow w' vb RB ∧ RA.map coreY = coresY 0 T ∧ RB.map core = T.map coreZ ∧ RowKit.Below w.heap.size w w' := by
  obtain ⟨ao, cap, rfl, hc1, hc2⟩ := hv.form
  obtain ⟨n, hN⟩ : ∃ n, n = T.length := ⟨_, rfl⟩
  rw [← hN] at hv hn ⊢
  have HV := Lib.hid hv
  have HN := Lib.hid hN
  have HT := Lib.hid hT
  have HL := Lib.hid hl
  have HN0 := Lib.hid hN0
  clear hv hN hT hl hN0 hc1 hc2
  go_enter Tryz.func27, Tryz.ntmps27
  go_wp2_with fail
  go_loopw [4, 5, 6] (fun av bv iv wr => ∃ (k : Nat) (RA : List Ry) (RB : List Rp), k ≤ n ∧ iv = .int .i64 k ∧ Hid (RA.map coreY = coresY 0 (T.take k)) ∧ Hid (RB.map core = (T.take k).map coreZ) ∧ Hid (GrowY wr w.heap.size 81 av k RA) ∧ Hid (Grow wr w.heap.size 71 bv k RB) ∧ Hid (RowKit.Below w.heap.size w wr)) (fun _ _ iv _ => n - (intOf iv).toNat)
  case atStart => exact ⟨0, [], [], by omega, rfl, Lib.hid rfl, Lib.hid rfl, Lib.hid (GrowY.nil _ _ _), Lib.hid (Grow.nil _ _ _), Lib.hid (Below.refl _ _)⟩
  case round =>
    obtain ⟨k, RA, RB, hk, rfl, ha, hbc, hga, hgb, hw⟩ := hrel
    by_cases hlt : k < n
    · have hkr : k < T.length := by have := HN.out; omega
      obtain ⟨x, hx⟩ : ∃ x, T[k]? = some x := ⟨_, List.getElem?_eq_getElem hkr⟩
      have hxm := List.mem_of_getElem? hx
      have hvw := HV.out.below hw.out
      obtain ⟨xb, xoff, hao, hat⟩ := hvw.at_ hx
      cases hao
      have hxo := hvw.ro x hxm
      have htk : (T.take (k + 1)).map coreZ = (T.take k).map coreZ ++ [coreZ x] := by rw [List.take_add_one, hx]; simp
      have htk2 : coresY 0 (T.take (k + 1)) = coresY 0 (T.take k) ++ [((k : Int) + 3, 10 * (k : Int), leftOf (x.l.map (·.1)), x.f)] := by
        rw [List.take_add_one, hx, Option.toList_some, coresY_snoc, List.length_take, Nat.min_eq_left (by omega), Nat.zero_add]
      obtain ⟨y, hy⟩ : ∃ y, y = leftOf (x.l.map (·.1)) := ⟨_, rfl⟩
      have hcx : coreZ x = (y, x.f, false) := by rw [hy]; rfl
      rw [← hy] at htk2
      have HTK2 := Lib.hid htk2
      have HO := Lib.hid (fun W (h : RowKit.Below w.heap.size w W) => show Calls Tryz.prog 15 #[x.v] W (RetC y W) from by
        rw [hy]; exact c_of (HT.out.below h) ⟨x.l, rfl, (HV.out.below h).ro x hxm⟩ (HL.out x hxm).1 (HL.out x hxm).2)
      have HRO := Lib.hid (fun W (h : RowKit.Below w.heap.size w W) => show Calls Tryz.prog 20 #[x.v] W (RetC y W) from by
        rw [hy]; exact c_refof (HT.out.below h) ⟨x.l, rfl, (HV.out.below h).ro x hxm⟩ (HL.out x hxm).1 (HL.out x hxm).2)
      have HAT := Lib.hid (fun W (h : RowKit.Below w.heap.size w W) => show AtT W xb (xoff + k * 5) x from by
        obtain ⟨b', o', e', h'⟩ := (HV.out.below h).at_ hx
        cases e'
        exact h')
      rw [hcx] at htk
      have HTK := Lib.hid htk
      obtain ⟨xo, xc, ex, -, -⟩ := hxo.form
      clear hat htk htk2 hcx hy hx hxm hxo hvw
      obtain ⟨xv, xl, ⟨fp, fl, fw⟩, xq⟩ := x
      simp only [] at ex
      obtain ⟨xn, hxn⟩ : ∃ k, k = xl.length := ⟨_, rfl⟩
      rw [← hxn] at ex
      subst ex
      clear hxn
      simp only [] at HO HRO HTK HTK2
      have j0 : (0 : Int) ≤ (k : Int) := by omega
      have j1 : (k : Int) < (n : Int) := by omega
      have hwsz := hw.out.size
      go_wp2_with fail
      refine wp_region_told [] 18 [false, false, false, false, false, false, false, false, false, false, false, false, false, true, true, true, true, true, true, true, true, true, true, true, true, true, true, true, true, true, true, false, false, false, false, false, false, false, false, false, false, false, false, false, false, false, false, false, false]
        [sLit (u4),
    sLit (.int .i64 k),
    sLit (.int .i64 ((k : Int) + 3)),
    sLit (.int .i64 k),
    sLit (.int .i64 (10 * (k : Int))),
    sLit (.slice (some ⟨xb, xoff, none⟩) n cap),
    sLit (.int .i64 k),
    sLit (.pointer (some ⟨xb, xoff + k * 5, none⟩)),
    sLit (.pointer (some ⟨xb, xoff + k * 5, none⟩)),
    sLit (.slice xo xn xc),
    sOne (IsC (y)) (fun _ _ _ h hb => h.below hb),
    sLit (.slice (some ⟨xb, xoff, none⟩) n cap),
    sLit (.int .i64 k),
    sLit (.pointer (some ⟨xb, xoff + k * 5, none⟩)),
    sLit (.pointer (some ⟨xb, xoff + k * 5 + 1, none⟩)),
    sLit (.agg #[.int .i64 fp, .int .i64 fl, .int .i64 fw]),
    sOne (fun v W => ∃ a b d, v = vY ⟨(k : Int) + 3, 10 * (k : Int), a, b, d, y, ⟨fp, fl, fw⟩⟩ ∧ Lies W a b d y) (fun _ _ _ h hb => h.elim fun a h => h.elim fun b h => h.elim fun d h => ⟨a, b, d, h.1, h.2.below hb⟩),
    sOne (fun v W => ∃ g a b d, v = .slice (some ⟨g, 0, none⟩) 1 1 ∧ YRow W v [⟨(k : Int) + 3, 10 * (k : Int), a, b, d, y, ⟨fp, fl, fw⟩⟩]) (fun _ _ _ h hb => h.elim fun g h => h.elim fun a h => h.elim fun b h => h.elim fun d h => ⟨g, a, b, d, h.1, h.2.below hb⟩)] (by kernel_rfl) (by kernel_rfl) (by kernel_rfl) (fun F hF => ?_)
      simp only [over, overL, Nat.reduceAdd] at hF
      obtain rfl := funext hF
      clear hF
      refine ⟨⟨?_, ?_, ?_, ?_, ?_, ?_, ?_, ?_, ?_, ?_, ?_, ?_, ?_, ?_, ?_, ?_, ?_, ?_, trivial⟩, ?_⟩
      · intro V W hb hd K hK _
        clear hd
        go_wp2_with fail
        refine hK _ _ ?_ ?_ ?_ ?_
        · rfl
        · exact Below.refl _ _
        · exact rfl
        · trivial
      · intro V W hb hd K hK _
        clear hd
        go_wp2_with fail
        refine hK _ _ ?_ ?_ ?_ ?_
        · rfl
        · exact Below.refl _ _
        · exact rfl
        · trivial
      · intro V W hb hd K hK _
        have h1 : (V 14) = .int .i64 k := hd 1 (by kernel_rfl)
        clear hd
        go_wp2_with fail
        refine hK _ _ ?_ ?_ ?_ ?_
        · rfl
        · exact Below.refl _ _
        · exact rfl
        · trivial
      · intro V W hb hd K hK _
        clear hd
        go_wp2_with fail
        refine hK _ _ ?_ ?_ ?_ ?_
        · rfl
        · exact Below.refl _ _
        · exact rfl
        · trivial
      · intro V W hb hd K hK _
        have h3 : (V 16) = .int .i64 k := hd 3 (by kernel_rfl)
        clear hd
        go_wp2_with fail
        refine hK _ _ ?_ ?_ ?_ ?_
        · rfl
        · exact Below.refl _ _
        · exact rfl
        · trivial
      · intro V W hb hd K hK _
        clear hd
        go_wp2_with fail
        refine hK _ _ ?_ ?_ ?_ ?_
        · rfl
        · exact Below.refl _ _
        · exact rfl
        · trivial
      · intro V W hb hd K hK _
        clear hd
        go_wp2_with fail
        refine hK _ _ ?_ ?_ ?_ ?_
        · rfl
        · exact Below.refl _ _
        · exact rfl
        · trivial
      · intro V W hb hd K hK _
        have h5 : (V 18) = .slice (some ⟨xb, xoff, none⟩) n cap := hd 5 (by kernel_rfl)
        have h6 : (V 19) = .int .i64 k := hd 6 (by kernel_rfl)
        clear hd
        go_wp2_with fail
        refine hK _ _ ?_ ?_ ?_ ?_
        · rfl
        · exact Below.refl _ _
        · exact rfl
        · trivial
      · intro V W hb hd K hK _
        have h7 : (V 20) = .pointer (some ⟨xb, xoff + k * 5, none⟩) := hd 7 (by kernel_rfl)
        clear hd
        go_wp2_with fail
        refine hK _ _ ?_ ?_ ?_ ?_
        · rfl
        · exact Below.refl _ _
        · exact rfl
        · trivial
      · intro V W hb hd K hK _
        have h8 : (V 21) = .pointer (some ⟨xb, xoff + k * 5, none⟩) := hd 8 (by kernel_rfl)
        clear hd
        obtain ⟨hbl, a0, a1, a2, a3, a4⟩ := HAT.out W (below_then hw.out (Nat.le_refl _) hb)
        simp only [] at a0 a1 a2 a3 a4
        go_wp2_with fail
        refine hK _ _ ?_ ?_ ?_ ?_
        · rfl
        · exact Below.refl _ _
        · exact rfl
        · trivial
      · intro V W hb hd K hK _
        have h9 : (V 22) = .slice xo xn xc := hd 9 (by kernel_rfl)
        clear hd
        go_wp2_with fail
        refine (HO.out W (below_then hw.out (Nat.le_refl _) hb)).mono ?_
        rintro e w1 ⟨v1, rfl, hv1, hb1⟩
        go_wp2_with fail
        refine hK _ _ ?_ ?_ ?_ ?_
        · rfl
        · exact hb1
        · exact hv1
        · trivial
      · intro V W hb hd K hK _
        clear hd
        go_wp2_with fail
        refine hK _ _ ?_ ?_ ?_ ?_
        · rfl
        · exact Below.refl _ _
        · exact rfl
        · trivial
      · intro V W hb hd K hK _
        clear hd
        go_wp2_with fail
        refine hK _ _ ?_ ?_ ?_ ?_
        · rfl
        · exact Below.refl _ _
        · exact rfl
        · trivial
      · intro V W hb hd K hK _
        have h11 : (V 24) = .slice (some ⟨xb, xoff, none⟩) n cap := hd 11 (by kernel_rfl)
        have h12 : (V 25) = .int .i64 k := hd 12 (by kernel_rfl)
        clear hd
        go_wp2_with fail
        refine hK _ _ ?_ ?_ ?_ ?_
        · rfl
        · exact Below.refl _ _
        · exact rfl
        · trivial
      · intro V W hb hd K hK _
        have h13 : (V 26) = .pointer (some ⟨xb, xoff + k * 5, none⟩) := hd 13 (by kernel_rfl)
        clear hd
        go_wp2_with fail
        refine hK _ _ ?_ ?_ ?_ ?_
        · rfl
        · exact Below.refl _ _
        · exact rfl
        · trivial
      · intro V W hb hd K hK _
        have h14 : (V 27) = .pointer (some ⟨xb, xoff + k * 5 + 1, none⟩) := hd 14 (by kernel_rfl)
        clear hd
        obtain ⟨hbl, a0, a1, a2, a3, a4⟩ := HAT.out W (below_then hw.out (Nat.le_refl _) hb)
        simp only [] at a0 a1 a2 a3 a4
        go_wp2_with fail
        refine hK _ _ ?_ ?_ ?_ ?_
        · rfl
        · exact Below.refl _ _
        · exact rfl
        · trivial
      · intro V W hb hd K hK _
        have h2 : (V 15) = .int .i64 ((k : Int) + 3) := hd 2 (by kernel_rfl)
        have h4 : (V 17) = .int .i64 (10 * (k : Int)) := hd 4 (by kernel_rfl)
        have h10 : IsC (y) (V 23) W := hd 10 (by kernel_rfl)
        have h15 : (V 28) = .agg #[.int .i64 fp, .int .i64 fl, .int .i64 fw] := hd 15 (by kernel_rfl)
        clear hd
        obtain ⟨p1, q1, r1, p2, q2, r2, p3, q3, r3, e6, hl6⟩ := h10.form
        clear h10
        go_wp2_with fail
        refine hK _ _ ?_ ?_ ?_ ?_
        · rfl
        · exact Below.refl _ _
        · exact ⟨_, _, _, rfl, hl6⟩
        · trivial
      · intro V W hb hd K hK _
        have h16 : ∃ a b d, (V 29) = vY ⟨(k : Int) + 3, 10 * (k : Int), a, b, d, y, ⟨fp, fl, fw⟩⟩ ∧ Lies W a b d y := hd 16 (by kernel_rfl)
        clear hd
        obtain ⟨a, b, d, e17, hl17⟩ := h16
        obtain ⟨⟨p1, q1, r1, e1⟩, ⟨p2, q2, r2, e2⟩, ⟨p3, q3, r3, e3⟩⟩ := LiesY.forms (x := ⟨(k : Int) + 3, 10 * (k : Int), a, b, d, y, ⟨fp, fl, fw⟩⟩) hl17
        simp only [] at e1 e2 e3
        subst e1 e2 e3
        unfold vY at e17
        simp only [] at e17
        have HL17 := Lib.hid hl17
        clear hl17
        go_wp2_with fail
        refine hK _ _ ?_ ?_ ?_ ?_
        · rfl
        · exact (Below.refl _ _).alloc (Nat.le_refl _) _
        · exact ⟨_, _, _, _, rfl, one_reply (x := ⟨(k : Int) + 3, 10 * (k : Int), _, _, _, y, ⟨fp, fl, fw⟩⟩) HL17.out⟩
        · trivial
      · intro V W hb hd hap
        have h0 : (V 13) = u4 := hd 0 (by decide)
        have h17 : ∃ g a b d, (V 30) = .slice (some ⟨g, 0, none⟩) 1 1 ∧ YRow W (V 30) [⟨(k : Int) + 3, 10 * (k : Int), a, b, d, y, ⟨fp, fl, fw⟩⟩] := hd 17 (by decide)
        clear hd hap
        simp only [List.drop_succ_cons, List.drop_zero]
        obtain ⟨g, a, b, d, e30, hone⟩ := h17
        rw [e30] at hone
        have HON := Lib.hid hone
        have HGA := Lib.hid (hga.out.below hb)
        have HGB := Lib.hid (hgb.out.below hb)
        have HW := Lib.hid (below_then hw.out (Nat.le_refl _) hb)
        have hsz := HW.out.size
        clear hone hb
        go_wp2_with (at_builtin; refine wpList_append_replies rfl (.tmp 13) (.tmp 30) rfl Tryz.underlying54 info_Reply w.heap.size u4 k _ (by first | exact h0 | rfl) HGA.out.row ⟨g, 0, none⟩ 1 1 [⟨(k : Int) + 3, 10 * (k : Int), a, b, d, y, ⟨fp, fl, fw⟩⟩] (by first | exact e30 | rfl) HON.out.row (fun x hx => LiesY.forms (HON.out.con x hx)) (Or.inl (by decide)) (by omega) hsz ?_)
        intro v4 w4 hsp hgr hkp hloc
        have HX1 := Lib.hid (HON.out.con _ (List.mem_singleton.2 rfl))
        have HG4 := Lib.hid (HGA.out.more HN0.out HX1.out hsp hgr)
        have HB4 := Lib.hid (HGB.out.besideY HGA.out HN0.out (by decide) hgr)
        have HW4 := Lib.hid (HGA.out.belowB HW.out hgr hsz)
        have hw4s := HW4.out.size
        clear hsp hgr hkp hloc e30 HGA HGB HW HON
        go_wp2_with fail
        refine wp_region_told [] 14 [false, false, false, false, false, false, false, false, false, false, false, false, false, false, false, false, false, false, false, false, false, false, false, false, false, false, false, false, false, false, false, false, true, true, true, true, true, true, true, true, true, true, true, true, true, true, false, false, false]
          [sLit (u5),
    sLit (.slice (some ⟨xb, xoff, none⟩) n cap),
    sLit (.int .i64 k),
    sLit (.pointer (some ⟨xb, xoff + k * 5, none⟩)),
    sLit (.pointer (some ⟨xb, xoff + k * 5, none⟩)),
    sLit (.slice xo xn xc),
    sOne (IsC (y)) (fun _ _ _ h hb => h.below hb),
    sLit (.slice (some ⟨xb, xoff, none⟩) n cap),
    sLit (.int .i64 k),
    sLit (.pointer (some ⟨xb, xoff + k * 5, none⟩)),
    sLit (.pointer (some ⟨xb, xoff + k * 5 + 1, none⟩)),
    sLit (.agg #[.int .i64 fp, .int .i64 fl, .int .i64 fw]),
    sOne (fun v W => ∃ a b d, v = vR ⟨a, b, d, y, ⟨fp, fl, fw⟩, false⟩ ∧ Lies W a b d y) (fun _ _ _ h hb => h.elim fun a h => h.elim fun b h => h.elim fun d h => ⟨a, b, d, h.1, h.2.below hb⟩),
    sOne (fun v W => ∃ g a b d, v = .slice (some ⟨g, 0, none⟩) 1 1 ∧ RRow W v [⟨a, b, d, y, ⟨fp, fl, fw⟩, false⟩]) (fun _ _ _ h hb => h.elim fun g h => h.elim fun a h => h.elim fun b h => h.elim fun d h => ⟨g, a, b, d, h.1, h.2.below hb⟩)] (by kernel_rfl) (by kernel_rfl) (by kernel_rfl) (fun F hF => ?_)
        simp only [over, overL, Nat.reduceAdd] at hF
        obtain rfl := funext hF
        clear hF
        refine ⟨⟨?_, ?_, ?_, ?_, ?_, ?_, ?_, ?_, ?_, ?_, ?_, ?_, ?_, ?_, trivial⟩, ?_⟩
        · intro V W hb hd K hK _
          clear hd
          go_wp2_with fail
          refine hK _ _ ?_ ?_ ?_ ?_
          · rfl
          · exact Below.refl _ _
          · exact rfl
          · trivial
        · intro V W hb hd K hK _
          clear hd
          go_wp2_with fail
          refine hK _ _ ?_ ?_ ?_ ?_
          · rfl
          · exact Below.refl _ _
          · exact rfl
          · trivial
        · intro V W hb hd K hK _
          clear hd
          go_wp2_with fail
          refine hK _ _ ?_ ?_ ?_ ?_
          · rfl
          · exact Below.refl _ _
          · exact rfl
          · trivial
        · intro V W hb hd K hK _
          have h1 : (V 33) = .slice (some ⟨xb, xoff, none⟩) n cap := hd 1 (by kernel_rfl)
          have h2 : (V 34) = .int .i64 k := hd 2 (by kernel_rfl)
          clear hd
          go_wp2_with fail
          refine hK _ _ ?_ ?_ ?_ ?_
          · rfl
          · exact Below.refl _ _
          · exact rfl
          · trivial
        · intro V W hb hd K hK _
          have h3 : (V 35) = .pointer (some ⟨xb, xoff + k * 5, none⟩) := hd 3 (by kernel_rfl)
          clear hd
          go_wp2_with fail
          refine hK _ _ ?_ ?_ ?_ ?_
          · rfl
          · exact Below.refl _ _
          · exact rfl
          · trivial
        · intro V W hb hd K hK _
          have h4 : (V 36) = .pointer (some ⟨xb, xoff + k * 5, none⟩) := hd 4 (by kernel_rfl)
          clear hd
          obtain ⟨hbl, a0, a1, a2, a3, a4⟩ := HAT.out W (below_then HW4.out (Nat.le_refl _) hb)
          simp only [] at a0 a1 a2 a3 a4
          go_wp2_with fail
          refine hK _ _ ?_ ?_ ?_ ?_
          · rfl
          · exact Below.refl _ _
          · exact rfl
          · trivial
        · intro V W hb hd K hK _
          have h5 : (V 37) = .slice xo xn xc := hd 5 (by kernel_rfl)
          clear hd
          go_wp2_with fail
          refine (HRO.out W (below_then HW4.out (Nat.le_refl _) hb)).mono ?_
          rintro e w1 ⟨v1, rfl, hv1, hb1⟩
          go_wp2_with fail
          refine hK _ _ ?_ ?_ ?_ ?_
          · rfl
          · exact hb1
          · exact hv1
          · trivial
        · intro V W hb hd K hK _
          clear hd
          go_wp2_with fail
          refine hK _ _ ?_ ?_ ?_ ?_
          · rfl
          · exact Below.refl _ _
          · exact rfl
          · trivial
        · intro V W hb hd K hK _
          clear hd
          go_wp2_with fail
          refine hK _ _ ?_ ?_ ?_ ?_
          · rfl
          · exact Below.refl _ _
          · exact rfl
          · trivial
        · intro V W hb hd K hK _
          have h7 : (V 39) = .slice (some ⟨xb, xoff, none⟩) n cap := hd 7 (by kernel_rfl)
          have h8 : (V 40) = .int .i64 k := hd 8 (by kernel_rfl)
          clear hd
          go_wp2_with fail
          refine hK _ _ ?_ ?_ ?_ ?_
          · rfl
          · exact Below.refl _ _
          · exact rfl
          · trivial
        · intro V W hb hd K hK _
          have h9 : (V 41) = .pointer (some ⟨xb, xoff + k * 5, none⟩) := hd 9 (by kernel_rfl)
          clear hd
          go_wp2_with fail
          refine hK _ _ ?_ ?_ ?_ ?_
          · rfl
          · exact Below.refl _ _
          · exact rfl
          · trivial
        · intro V W hb hd K hK _
          have h10 : (V 42) = .pointer (some ⟨xb, xoff + k * 5 + 1, none⟩) := hd 10 (by kernel_rfl)
          clear hd
          obtain ⟨hbl, a0, a1, a2, a3, a4⟩ := HAT.out W (below_then HW4.out (Nat.le_refl _) hb)
          simp only [] at a0 a1 a2 a3 a4
          go_wp2_with fail
          refine hK _ _ ?_ ?_ ?_ ?_
          · rfl
          · exact Below.refl _ _
          · exact rfl
          · trivial
        · intro V W hb hd K hK _
          have h6 : IsC (y) (V 38) W := hd 6 (by kernel_rfl)
          have h11 : (V 43) = .agg #[.int .i64 fp, .int .i64 fl, .int .i64 fw] := hd 11 (by kernel_rfl)
          clear hd
          obtain ⟨p1, q1, r1, p2, q2, r2, p3, q3, r3, e6, hl6⟩ := h6.form
          clear h6
          go_wp2_with fail
          refine hK _ _ ?_ ?_ ?_ ?_
          · rfl
          · exact Below.refl _ _
          · exact ⟨_, _, _, rfl, hl6⟩
          · trivial
        · intro V W hb hd K hK _
          have h12 : ∃ a b d, (V 44) = vR ⟨a, b, d, y, ⟨fp, fl, fw⟩, false⟩ ∧ Lies W a b d y := hd 12 (by kernel_rfl)
          clear hd
          obtain ⟨a, b, d, e17, hl17⟩ := h12
          obtain ⟨⟨p1, q1, r1, e1⟩, ⟨p2, q2, r2, e2⟩, ⟨p3, q3, r3, e3⟩⟩ := Lies.forms (x := ⟨a, b, d, y, ⟨fp, fl, fw⟩, false⟩) hl17
          simp only [] at e1 e2 e3
          subst e1 e2 e3
          unfold vR at e17
          simp only [] at e17
          have HL17 := Lib.hid hl17
          clear hl17
          go_wp2_with fail
          refine hK _ _ ?_ ?_ ?_ ?_
          · rfl
          · exact (Below.refl _ _).alloc (Nat.le_refl _) _
          · exact ⟨_, _, _, _, rfl, one_rep (x := ⟨_, _, _, y, ⟨fp, fl, fw⟩, false⟩) HL17.out⟩
          · trivial
        · intro V W hb hd hap
          have h0 : (V 32) = u5 := hd 0 (by decide)
          have h13 : ∃ g a b d, (V 45) = .slice (some ⟨g, 0, none⟩) 1 1 ∧ RRow W (V 45) [⟨a, b, d, y, ⟨fp, fl, fw⟩, false⟩] := hd 13 (by decide)
          clear hd hap
          simp only [List.drop_succ_cons, List.drop_zero]
          obtain ⟨g2, a2, b2, d2, e45, hone⟩ := h13
          rw [e45] at hone
          have HON := Lib.hid hone
          have HGA := Lib.hid (HG4.out.below hb)
          have HGB := Lib.hid (HB4.out.below hb)
          have HW := Lib.hid (below_then HW4.out (Nat.le_refl _) hb)
          have hsz := HW.out.size
          clear hone hb
          go_wp2_with (at_builtin; refine wpList_append_reps rfl (.tmp 32) (.tmp 45) rfl Tryz.underlying44 info_RefR w.heap.size u5 k _ (by first | exact h0 | rfl) HGB.out.row ⟨g2, 0, none⟩ 1 1 [⟨a2, b2, d2, y, ⟨fp, fl, fw⟩, false⟩] (by first | exact e45 | rfl) HON.out.row (fun x hx => (HON.out.con x hx).forms) (Or.inl (by decide)) (by omega) hsz ?_)
          intro v5 w5 hsp hgr hkp hloc
          have HX2 := Lib.hid (HON.out.con _ (List.mem_singleton.2 rfl))
          have HG5 := Lib.hid (HGB.out.more HN0.out HX2.out hsp hgr)
          have HA5 := Lib.hid (HGA.out.besideR HGB.out HN0.out (by decide) hgr)
          have HW5 := Lib.hid (HGB.out.belowB HW.out hgr hsz)
          have HB5 := Lib.hid (show (RB ++ [(⟨a2, b2, d2, y, ⟨fp, fl, fw⟩, false⟩ : Rp)]).map core = (T.take (k + 1)).map coreZ by rw [List.map_append, hbc.out, HTK.out]; rfl)
          have HA6 := Lib.hid (show (RA ++ [(⟨(k : Int) + 3, 10 * (k : Int), a, b, d, y, ⟨fp, fl, fw⟩⟩ : Ry)]).map coreY = coresY 0 (T.take (k + 1)) by rw [List.map_append, ha.out, HTK2.out]; rfl)
          clear hsp hgr hkp hloc e45 HGA HGB HW HON
          go_wp2_with fail
          go_roundw
          case rel => exact ⟨k + 1, _, _, by omega, by go_num, HA6, HB5, HA5, HG5, HW5⟩
          case measure => simp [intOf]; omega
    · obtain rfl : k = n := by omega
      have htk : T.take k = T := List.take_of_length_le (by have := HN.out; omega)
      have HA6 := Lib.hid (show RA.map coreY = coresY 0 T by rw [ha.out, htk])
      have HB6 := Lib.hid (show RB.map core = T.map coreZ by rw [hbc.out, htk])
      clear htk
      go_wp2_with fail
      refine bodyPost_ret (v := .tuple #[u4, u5]) (by simp [results, Tryz.f27, go_sem]) rfl ?_
      exact ⟨_, _, RA, RB, rfl, hga.out.yrow, hgb.out.rrow, HA6.out, HB6.out, hw.out⟩
end Go.Proofs.YtipoeigehabbmaaGreatDoor.Mut
