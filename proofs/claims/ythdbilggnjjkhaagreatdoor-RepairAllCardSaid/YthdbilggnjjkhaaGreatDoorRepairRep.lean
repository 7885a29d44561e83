/- A repair's reports: abort, Report (layer 26). PRINTED by wip/genreprep.py. -/
import Derived.Test.YthdbilggnjjkhaaGreatDoorPkRc
import Derived.Test.YthdbilggnjjkhaaGreatDoorRegLin
import Derived.Test.YthdbilggnjjkhaaGreatDoorBoth
set_option linter.unusedSimpArgs false
set_option linter.unusedVariables false
namespace Go.Proofs.YthdbilggnjjkhaaGreatDoor.Rpr
open Go.RowKit Go.Maps Go.Sort Go.Proofs.YthdbilggnjjkhaaGreatDoor.Ints Go.Proofs.YthdbilggnjjkhaaGreatDoor.Mut Go.Proofs.YthdbilggnjjkhaaGreatDoor.Trc Go.Proofs.YthdbilggnjjkhaaGreatDoor.RegInv Go.Proofs.YthdbilggnjjkhaaGreatDoor.Ord
set_option linter.unusedSectionVars false
variable [Inhabited Lim]

/-! ## A content in memory of its own -/
def conE : Con := ⟨[], [], []⟩
theorem okcE : Okc conE 0 := ⟨fun m hm => (by cases hm), Nat.le_refl _⟩
theorem repsE : Reps (fun m => m ∈ conE.all) conE := Reps.none.same (fun m => by unfold conE Con.all; simp)
def OwnCP (c : Con) (w : World) (e : Ending) (w' : World) : Prop := ∃ a b d, e = .returned (.agg #[a, b, d]) ∧ Lies w' a b d c ∧ Mut.Fresh w.heap.size w' a b d ∧ RowKit.Below w.heap.size w w'
theorem joinE_any {c : Con} {a b d : Value} {n : Nat} {w : World} (hT : Tabs w) (hv : Lies w a b d c) (h : Mut.Good c n) (hn : n ≤ 80000) : Calls Tryz.prog 19 #[.agg #[.slice none 0 0, .slice none 0 0, .slice none 0 0], .agg #[a, b, d]] w (OwnCP c w) := by
  refine (join_anyF _ _ _ a b d conE c _ _ 0 n w hT (Lies.none w) repsE okcE hv h.reps h.okc (by omega)).mono ?_
  rintro e w' ⟨a, b, d, c2, rfl, hl, hr, -, hb, hf⟩
  have e2 : c2 = c := by
    have h1 : c2 = Mut.leftOf c.all := leftOf_eq (hr.same fun m => by rw [h.fits]; unfold conE Con.all; simp)
    rw [h1, h.left]
  rw [e2] at hl
  exact ⟨a, b, d, rfl, hl, hf w.heap.size ⟨Nat.le_refl _, Fresh.nil _ _⟩, hb⟩
theorem copied_base {w : World} {v : Value} {R : List Ro} {base b0 : Nat} (h : Copied w v R base) (hb : b0 ≤ base) : Copied w v R b0 := ⟨own_base h.row hb, fun x hx => own_base (h.over x hx) hb⟩
theorem fresh_zero {w : World} {a b d : Value} {base : Nat} (h : Mut.Fresh base w a b d) : Mut.Fresh 0 w a b d := ⟨h.1.imp fun _ h => copied_base h (Nat.zero_le _), h.2.1.imp fun _ h => copied_base h (Nat.zero_le _), h.2.2.imp fun _ h => copied_base h (Nat.zero_le _)⟩

/-! ## abort -/
/-- What is told of a session as it lies. -/
def sSV (k : Nat) (s : Sx) : RSpec := sOne (fun _ W => SV W k s) (fun _ _ _ h hb => h.below hb)
theorem grown_und {a b c : World} {row : Option Nat} (h : a.grownBy b row) (hb : RowKit.Below b.heap.size b c) : a.grownBy c row :=
  h.andThen (row' := none) ⟨hb.os, hb.tape, hb.output, hb.size, fun k hk _ => hb.block k hk⟩ (fun j hj => by cases hj)
theorem SOk.turn {w w' : World} {k B : Nat} {s s' : Sx} {N K : List Int} {E : List (Int × Rp)} (h : SOk w k s N E K B) (hg : w.grownBy w' (some k)) (hv : SV w' k s') (h1 : s'.nv = s.nv) (h2 : s'.mr = s.mr) (h3 : s'.md = s.md) : SOk w' k s' N E K B := by
  have hk : KeepT 62 w w' := ⟨hg.size, fun i c e fr h1 h2 => (hg.block i (Array.getElem?_eq_some_iff.1 h1).1 (fun e' => by
    injection e' with e'
    subst e'
    have hv := h.var
    unfold SV VarAt at hv
    rw [hv] at h1
    cases h1
    exact h2 rfl)).trans h1⟩
  refine ⟨hv, ?_, ?_, ?_, by rw [h2, h3]; exact h.ne, by rw [h2, h3]; exact h.kb, fun p hp => ⟨(h.cons p hp).1.keep hk (by decide) (by decide), (h.cons p hp).2⟩⟩
  · rw [h1]; exact hk.own h.nodes (by decide)
  · rw [h2]; exact h.rmap.kept hg (fun e => h.kr (by injection e with e; exact e.symm))
  · rw [h3]; exact h.dmap.kept hg (fun e => h.kd (by injection e with e; exact e.symm))
theorem keepT_var {w w' : World} {k : Nat} {s : Sx} (h : SV w k s) (hg : w.grownBy w' (some k)) : KeepT 62 w w' := ⟨hg.size, fun i c e fr h1 h2 => (hg.block i (Array.getElem?_eq_some_iff.1 h1).1 (fun e' => by
    injection e' with e'
    subst e'
    unfold SV VarAt at h
    rw [h] at h1
    cases h1
    exact h2 rfl)).trans h1⟩
def Sx.ends (s : Sx) (y : Int) : Sx := { s with ph := 3, y := y }
def AbortP (k : Nat) (s' : Sx) (w : World) (e : Ending) (w' : World) : Prop := e = .returned (.tuple #[]) ∧ SV w' k s' ∧ w.grownBy w' (some k)

set_option maxHeartbeats 4000000 in
set_option maxRecDepth 100000 in
theorem abort_any (k : Nat) (s : Sx) (y : Int) (w : World) (h : SV w k s) (hp : s.ph = 0) :
    Calls Tryz.prog 21 #[.pointer (some ⟨k, 0, none⟩), .int .i64 y] w (AbortP k (s.ends y) w) := by
  have c5 : w.cell? ⟨k, 5, none⟩ = some (.int .i64 0) := by rw [← hp]; exact h.get rfl
  have c14 : w.cell? ⟨k, 14, none⟩ = some (.int .i64 s.y) := h.get rfl
  have f5 := h.frozen 5
  have f14 := h.frozen 14
  have HS := Lib.hid h
  clear h hp
  go_enter Tryz.func21, Tryz.ntmps21
  go_wp2_with fail
  go_end0
  refine ⟨rfl, VarAt.setK (HS.out.set 5 _) 14 _ rfl, ?_⟩
  iterate 2 refine grown_setCell ?_ (Or.inl rfl) _
  exact World.grownBy.refl _ _

/-! ## Report -/
/-- What Report leaves. -/
def RepP (k : Nat) (s : Sx) (N : List Int) (E : List (Int × Rp)) (K : List Int) (B : Nat) (n : Int) (xq : Bool) (w : World) (e : Ending) (w' : World) : Prop :=
  ∃ (ok : Bool) (s' : Sx) (E' : List (Int × Rp)), e = .returned (.bool (decide (s.ph = 0) && decide (s'.ph = 1))) ∧ SOk w' k s' N E' K B ∧ s'.nv = s.nv ∧
    (⟨N, E'.map (·.1), K, s'.ph⟩ : Sess) = Sess.report ⟨N, E.map (·.1), K, s.ph⟩ n ok ∧ KeepT 62 w w' ∧ RowKit.Below B w w' ∧ (xq = false → ok = true)
section
variable {k B : Nat} {s : Sx} {N K : List Int} {E : List (Int × Rp)} {n : Int} {xq : Bool} {w W' : World}
theorem rep_same (h : SOk w k s N E K B) (hb : RowKit.Below w.heap.size w W') (hc : s.ph ≠ 0 ∨ n ∈ E.map (·.1) ∨ n ∉ N) : RepP k s N E K B n xq w (.returned (.bool false)) W' := by
  have hB : B ≤ w.heap.size := by have := h.kb.1; have := h.var.lt; omega
  refine ⟨true, s, E, ?_, h.below hb, rfl, ?_, KeepT.below hb, hb.mono hB, fun _ => rfl⟩
  · by_cases e : s.ph = 0
    · rw [e]; rfl
    · rw [show decide (s.ph = 0) = false from decide_eq_false e]; rfl
  · unfold Sess.report
    rw [if_neg]
    rintro ⟨h0, h1, h2⟩
    rcases hc with hc | hc | hc
    · exact hc h0
    · exact h1 hc
    · exact hc h2
theorem rep_new {x' : Rp} {s' : Sx} {q ok : Bool} (hp : s.ph = 0) (hk : n ∉ E.map (·.1)) (hN : n ∈ N) (hv : q = decide (s'.ph = 1)) (h' : SOk W' k s' N ((n, x') :: E) K B) (hnv : s'.nv = s.nv)
    (hph : s'.ph = if E.length + 1 < N.length then 0 else if ok then 1 else 3) (hkt : KeepT 62 w W') (hb : RowKit.Below B w W') (hok : xq = false → ok = true) : RepP k s N E K B n xq w (.returned (.bool q)) W' := by
  refine ⟨ok, s', (n, x') :: E, by rw [hv, hp]; rfl, h', hnv, ?_, hkt, hb, hok⟩
  unfold Sess.report
  rw [if_pos ⟨hp, hk, hN⟩]
  simp only [List.map_cons, List.length_map, hph]
end
theorem look_rep {D : DataW Value} {E : List (Int × Rp)} {n : Int} {v : Value} {ps : List MemPlace} (hi : IMap D (E.map (·.1))) (ha : ∀ p ∈ E, D.atKey (.int .i64 p.1) (.held zRep) = .held (vR p.2)) (hF : ∀ p ∈ E, Forms p.2) (hv : holdR v = some (D.atKey (.int .i64 n) (.held zRep), ps)) : ∃ y : Rp, v = vR y ∧ Forms y := by
  unfold holdR at hv
  injection hv with hv
  injection hv with hv _
  by_cases hn : n ∈ E.map (·.1)
  · obtain ⟨p, hp, rfl⟩ := List.mem_map.1 hn
    rw [ha p hp] at hv
    injection hv with hv
    exact ⟨p.2, hv, hF p hp⟩
  · rw [atKey_of_not_has (by rw [hi.has]; exact decide_eq_false hn)] at hv
    injection hv with hv
    exact ⟨⟨.slice none 0 0, .slice none 0 0, .slice none 0 0, conE, zeroS, false⟩, hv, ⟨_, _, _, rfl⟩, ⟨_, _, _, rfl⟩, ⟨_, _, _, rfl⟩⟩
theorem look_at {D : DataW Value} {E : List (Int × Rp)} {n : Int} {v : Value} {ps : List MemPlace} {y : Rp} (ha : ∀ p ∈ E, D.atKey (.int .i64 p.1) (.held zRep) = .held (vR p.2)) (hy : (n, y) ∈ E) (hv : holdR v = some (D.atKey (.int .i64 n) (.held zRep), ps)) : v = vR y := by
  unfold holdR at hv
  injection hv with hv
  injection hv with hv _
  rw [ha _ hy] at hv
  injection hv
theorem wpList_lookup_one {H : Type} {P : Program} (w : World) {ops : Array Oper} {rest : List Oper} {o : Oper} {a : Act} {Q : Exit → Act → World → Prop} (hg : o.guard = none) (m x : Operand) (t : TypeId) (hop : o.op = Op.lookup t m x false)
    (k e : TypeId) (K : Keyed P k) (ht : P.underlying t = some (.map k e)) (R : Value → Option (DataW H × List MemPlace)) {z : Value} (hz : (zeroValue e).run P w = .ok z w) (zd : DataW H) (zp : List MemPlace) (hzd : R z = some (zd, zp)) (b n : Nat) (D : DataW H)
    (hm : a.eval m = .map (some b)) (hown : w.ownsMap P k R b n D) (key : Value) (kl : Lit) (hx : a.eval x = key) (hkey : keyOf P k key = some kl)
    (hK : ∀ v ps, R v = some (D.atKey kl zd, ps) → wpList P ops Q rest (a.put o.dst v) w) :
    wpList P ops Q (o :: rest) a w := by
  refine wpList_plain hg fun K' hK' => ?_
  obtain ⟨v, ps, hrun, hv⟩ := hown.lookup K ht hz hzd hkey
  unfold Oper.wp
  simp [execOp, hop, hm, hx, hrun, Result.andThen]
  exact hK' _ _ (hK v ps hv)
theorem enR_all {y : Rp} (h : Forms y) : (enR y).all (·.oneCell') = true := by
  obtain ⟨⟨_, _, _, e1⟩, ⟨_, _, _, e2⟩, ⟨_, _, _, e3⟩⟩ := h
  unfold enR
  rw [e1, e2, e3]
  rfl
theorem same_q {D : DataW Value} {E : List (Int × Rp)} {n : Int} {y z : Rp} (ha : ∀ p ∈ E, D.atKey (.int .i64 p.1) (.held zRep) = .held (vR p.2)) (hy : (n, y) ∈ E) (hz : (n, z) ∈ E) : y.q = z.q := by
  have h1 := ha _ hy
  rw [ha _ hz] at h1
  injection h1 with h1
  unfold vR at h1
  injection h1 with h1
  simp at h1
  exact h1.2.2.2.2.2.2.symm
theorem comb_ok (R : List Rp) (se : Stp) : (combF R se).2.2 = (baseF R).2 := by
  unfold combF
  cases h : (baseF R).2 <;> simp [h]
theorem base_some {R : List Rp} {y : Rp} (hy : y ∈ R) (hq : y.q = false) : (baseF R).2 = true := by
  unfold baseF
  have key : ∀ (R : List Rp) (acc : Stp × Bool), (acc.2 = true ∨ y ∈ R) → (R.foldl baseStep acc).2 = true := by
    intro R
    induction R with
    | nil => intro acc h; rcases h with h | h; exact h; cases h
    | cons z R ih =>
      intro acc h
      rw [List.foldl_cons]
      refine ih _ ?_
      unfold baseStep
      rcases h with h | h
      · left; split
        · exact h
        · rfl
      · rcases List.mem_cons.1 h with rfl | h
        · left; rw [hq]; rfl
        · exact Or.inr h
  exact key R _ (Or.inr hy)

set_option maxHeartbeats 8000000 in
set_option maxRecDepth 100000 in
theorem report_any (k : Nat) (s : Sx) (N : List Int) (E : List (Int × Rp)) (K : List Int) (B : Nat) (n : Int) (x : Rp) (wT w : World) (hT : Tabs wT) (hTw : RowKit.Below wT.heap.size wT w) (hTB : wT.heap.size ≤ B) (hL : (default : Lim).n ≤ w.heap.size) (h : SOk w k s N E K B) (hN : N.length ≤ 100) (hND : ∀ m ∈ N, Nd m) (hE : E.length ≤ 1000)
    (hU : (E.map (·.1)).Nodup ∧ ∀ m ∈ E.map (·.1), m ∈ N) (hn : Nd n) (hx : Lies w x.a x.b x.d x.c) (hG : Mut.Good x.c 15) :
    Calls Tryz.prog 7 #[.pointer (some ⟨k, 0, none⟩), .int .i64 n, vR x] w (RepP k s N E K B n x.q w) := by
  have hF := hx.forms
  obtain ⟨xa, xb, xd, xc, ⟨fp, fl, fw⟩, xq⟩ := x
  obtain ⟨⟨xo, xn, xk, e1⟩, ⟨yo, yn, yk, e2⟩, ⟨zo, zn, zk, e3⟩⟩ := hF
  simp only [] at e1 e2 e3
  subst e1 e2 e3
  simp only [] at hx hG ⊢
  obtain ⟨W0, hW0⟩ : ∃ W, W = w.alloc (.cells #[.slice xo xn xk, .slice yo yn yk, .slice zo zn zk, .int .i64 fp, .int .i64 fl, .int .i64 fw, .bool xq] 47) := ⟨_, rfl⟩
  obtain ⟨H, hH⟩ : ∃ H, H = w.heap.size := ⟨_, rfl⟩
  have hb0 : RowKit.Below w.heap.size w W0 := by rw [hW0]; exact (Below.refl _ _).alloc (Nat.le_refl _) _
  have hV0 : VarAt W0 H 47 (enR ⟨.slice xo xn xk, .slice yo yn yk, .slice zo zn zk, xc, ⟨fp, fl, fw⟩, xq⟩) := by rw [hW0, hH]; exact VarAt.new w _ _
  have h0 := h.below hb0
  obtain ⟨no, nc, hnv⟩ := row_form h.nodes
  obtain ⟨D, hD, hi, ha⟩ := h0.rmap
  obtain ⟨tw, htw⟩ : ∃ b, b = decide (n ∈ E.map (·.1)) := ⟨_, rfl⟩
  have hhas : Maps.has D (.int .i64 n) = tw := by rw [hi.has, htw]
  have hforms : ∀ p ∈ E, Forms p.2 := fun p hp => (h.cons p hp).1.1.forms
  have hkey := key hn.1 hn.2
  have c6 : W0.cell? ⟨k, 6, none⟩ = some (.map (some s.mr)) := h0.var.get rfl
  have HW := Lib.hid hW0
  have HH := Lib.hid hH
  have HO := Lib.hid h
  have HO0 := Lib.hid h0
  have HB0 := Lib.hid hb0
  have HV0 := Lib.hid hV0
  have HNV := Lib.hid hnv
  have HD := Lib.hid hD
  have HI := Lib.hid hi
  have HA := Lib.hid ha
  have HF := Lib.hid hforms
  have HX := Lib.hid hx
  have HG := Lib.hid hG
  have hBw : B ≤ w.heap.size := by have := h.kb.1; have := h.var.lt; omega
  have HT := Lib.hid (fun (W : World) (hb : RowKit.Below B w W) => hT.below (hTw.trans (hb.mono hTB)))
  have HBW := Lib.hid hBw
  have HTW := Lib.hid htw
  have HU := Lib.hid hU
  have HND := Lib.hid hND
  have HL := Lib.hid hL
  have HSZ := Lib.hid hE
  clear hW0 hH h h0 hb0 hV0 hnv hD hi ha hforms hx hG hT hTw hTB hBw htw hU hND hL hE
  unfold vR
  simp only []
  go_enter Tryz.func7, Tryz.ntmps7
  go_upto_region 1 with fail
  rw [← HW.out, ← HH.out]
  go_upto_region 2 with (first
    | (at_lookup; refine wpList_lookup_own_ok _ rfl _ _ 59 rfl 3 47 law Tryz.underlying59 holdR (Tryz.zeroValue47 _) (.held zRep) [] rfl s.mr _ D rfl HD.out _ _ rfl hkey ?_; intro v ps hv; obtain ⟨y, hy, hfy⟩ := look_rep HI.out HA.out HF.out hv; have HY := Lib.hid hfy; subst hy; rw [hhas]; clear hv hfy)
    | (refine wpList_store_run rfl 47 _ _ rfl (.pointer (some ⟨W0.heap.size, 0, none⟩)) (vR y) rfl rfl (VarAt.storeAll (l := zR) (VarAt.new W0 47 zR) 47 7 (enR y) rfl rfl (by kernel_rfl) (enR_all HY.out)) ?_; generalize hW1 : World.setRow _ _ _ = W1))
  have hb1 : RowKit.Below W0.heap.size W0 W1 := by rw [← hW1]; exact setRow_below ((Below.refl _ _).alloc (Nat.le_refl _) _) _ (Nat.le_refl _) _
  have HB1 := Lib.hid (below_then HB0.out (Nat.le_refl _) hb1)
  have HO1 := Lib.hid (HO0.out.below hb1)
  have HV1 := Lib.hid (HV0.out.below hb1)
  clear hW1 HY hb1 c6 hhas
  have c5 : W1.cell? ⟨k, 5, none⟩ = some (.int .i64 s.ph) := HO1.out.var.get rfl
  have c3 : W1.cell? ⟨k, 3, none⟩ = some (.slice no N.length nc) := by rw [← HNV.out]; exact HO1.out.var.get rfl
  have hr : IRow W1 (.slice no N.length nc) N := by rw [← HNV.out]; exact Lst.owned enI_len (by decide) rfl HO1.out.nodes
  have HC := Lib.hid (fun (q : Bool) (hq : hasI N n = q) => contains_lit q no nc N n W1 hq hr (by omega))
  clear hr
  cases hq : (s.ph != 0)
  case true =>
    have hp : s.ph ≠ 0 := by simpa using hq
    have HS := Lib.hid (rep_same (xq := xq) (n := n) HO.out HB1.out (Or.inl hp))
    clear hp
    go_wp2_with fail
    go_ret
    exact HS.out
  have hp : s.ph = 0 := by simpa using hq
  have HP := Lib.hid hp
  clear hp
  cases tw
  case true =>
    have HS := Lib.hid (rep_same (xq := xq) (n := n) HO.out HB1.out (Or.inr (Or.inl (of_decide_eq_true HTW.out.symm))))
    go_wp2_with fail
    go_ret
    exact HS.out
  have HNK := Lib.hid (show n ∉ E.map (·.1) from of_decide_eq_false HTW.out.symm)
  cases hh : hasI N n
  case false =>
    have HS := Lib.hid (rep_same (xq := xq) (n := n) HO.out HB1.out (Or.inr (Or.inr (fun hm => by rw [(hasI_iff N n).2 hm] at hh; cases hh))))
    go_wp2_with fail
    refine (HC.out false hh).mono ?_
    rintro e w1 ⟨rfl, rfl⟩
    go_wp2_with fail
    go_ret
    exact HS.out
  have HM := Lib.hid ((hasI_iff N n).1 hh)
  go_wp2_with fail
  refine (HC.out true hh).mono ?_
  rintro e w1 ⟨rfl, rfl⟩
  have m0 : W1.cell? ⟨H, 0, none⟩ = some (.slice xo xn xk) := HV1.out.get rfl
  have m1 : W1.cell? ⟨H, 1, none⟩ = some (.slice yo yn yk) := HV1.out.get rfl
  have m2 : W1.cell? ⟨H, 2, none⟩ = some (.slice zo zn zk) := HV1.out.get rfl
  clear HC hh c5 c3
  go_wp2_with fail
  refine (joinE_any (HT.out _ (HB1.out.mono HBW.out)) (HX.out.below HB1.out) HG.out (by omega)).mono ?_
  rintro e w2 ⟨a, b, d, rfl, hl2, hf2, hb2⟩
  obtain ⟨⟨ao, an, ac, rfl⟩, ⟨bo, bn, bc, rfl⟩, ⟨co, cn, cc, rfl⟩⟩ := (show Forms ⟨a, b, d, xc, ⟨fp, fl, fw⟩, xq⟩ from hl2.forms)
  have hv2 := HV1.out.below hb2
  have HST := Lib.hid (VarAt.storeK (P := Tryz.prog) (l' := enR ⟨.slice ao an ac, .slice bo bn bc, .slice co cn cc, xc, ⟨fp, fl, fw⟩, xq⟩) hv2 0 45 [.slice ao an ac, .slice bo bn bc, .slice co cn cc] rfl (by kernel_rfl) rfl rfl)
  have HV3 := Lib.hid (hv2.row (enR ⟨.slice ao an ac, .slice bo bn bc, .slice co cn cc, xc, ⟨fp, fl, fw⟩, xq⟩))
  have HX3 := Lib.hid (OwnC.keep (x := ⟨.slice ao an ac, .slice bo bn bc, .slice co cn cc, xc, ⟨fp, fl, fw⟩, xq⟩) ⟨hl2, fresh_zero hf2⟩ (KeepT.row hv2 (enR ⟨.slice ao an ac, .slice bo bn bc, .slice co cn cc, xc, ⟨fp, fl, fw⟩, xq⟩).toArray) (by decide) (by decide))
  have HB3 := Lib.hid (setRow_below (below_then HB1.out (Nat.le_refl _) hb2) H (by rw [HH.out]; exact Nat.le_refl _) (enR ⟨.slice ao an ac, .slice bo bn bc, .slice co cn cc, xc, ⟨fp, fl, fw⟩, xq⟩).toArray)
  clear hv2 hl2 hf2 hb2 m0 m1 m2
  go_upto_region 5 with (refine wpList_store_run rfl 45 _ _ rfl (.pointer (some ⟨H, 0, none⟩)) (.agg #[.slice ao an ac, .slice bo bn bc, .slice co cn cc]) rfl rfl HST.out ?_)
  clear HST
  obtain ⟨x', hx'⟩ : ∃ x' : Rp, x' = ⟨.slice ao an ac, .slice bo bn bc, .slice co cn cc, xc, ⟨fp, fl, fw⟩, xq⟩ := ⟨_, rfl⟩
  have HX' := Lib.hid hx'
  obtain ⟨W3, hW3⟩ : ∃ W, W = w2.setRow H ⟨enR ⟨.slice ao an ac, .slice bo bn bc, .slice co cn cc, xc, ⟨fp, fl, fw⟩, xq⟩⟩ := ⟨_, rfl⟩
  rw [← hW3]
  rw [← hW3] at HV3 HX3 HB3
  have HO3 := Lib.hid (HO.out.below HB3.out)
  have HM3 := Lib.hid (fun (W : World) (hb : RowKit.Below W3.heap.size W3 W) => (show W.cell? ⟨H, 0, none⟩ = some (.slice ao an ac) ∧ W.cell? ⟨H, 1, none⟩ = some (.slice bo bn bc) ∧ W.cell? ⟨H, 2, none⟩ = some (.slice co cn cc) ∧ W.cell? ⟨H, 3, none⟩ = some (.int .i64 fp) ∧ W.cell? ⟨H, 4, none⟩ = some (.int .i64 fl) ∧ W.cell? ⟨H, 5, none⟩ = some (.int .i64 fw) ∧ W.cell? ⟨H, 6, none⟩ = some (.bool xq) from
    have hv := HV3.out.below hb
    ⟨hv.get rfl, hv.get rfl, hv.get rfl, hv.get rfl, hv.get rfl, hv.get rfl, hv.get rfl⟩))
  have HC6 := Lib.hid (fun (W : World) (hb : RowKit.Below W3.heap.size W3 W) => (show W.cell? ⟨k, 6, none⟩ = some (.map (some s.mr)) from (HO3.out.below hb).var.get rfl))
  clear hW3 HV1 HB1 HO1 HV0 HD HI HA hx'
  simp only [Act.put]
  go_wp2_with fail
  refine wp_region_told [] 6 [false, false, false, false, false, false, false, false, false, false, false, false, false, false, false, false, false, false, false, false, false, false, false, false, false, false, false, false, false, false, false, false, false, false, false, false, false, false, false, false, false, false, false, false, false, false, true, true, true, true, true, true, false, false, false, false, false, false, false, false, false, false, false, false, false, false, false, false, false, false, false, false, false, false, false, false, false, false, false, false, false, false, false, false, false, false, false, false, false, false, false, false, false, false, false, false, false, false, false, false, false, false, false, false, false, false, false]
    [sLit (.pointer (some ⟨k, 0, none⟩)),
    sLit (.pointer (some ⟨k, 0, none⟩)),
    sLit (.pointer (some ⟨k, 6, none⟩)),
    sLit (.map (some s.mr)),
    sLit (.int .i64 n),
    sLit (.agg #[.slice ao an ac, .slice bo bn bc, .slice co cn cc, .int .i64 fp, .int .i64 fl, .int .i64 fw, .bool xq])] (by kernel_rfl) (by kernel_rfl) (by kernel_rfl) (fun F hF => ?_)
  simp only [over, overL, Nat.reduceAdd] at hF
  obtain rfl := funext hF
  clear hF
  refine ⟨⟨?_, ?_, ?_, ?_, ?_, ?_, trivial⟩, ?_⟩
  · intro V W hb hd K hK _
    clear hd
    go_wp2_with fail
    refine hK _ _ ?_ ?_ ?_ ?_
    · rfl
    · exact Below.refl _ _
    · exact rfl
    · trivial
  · intro V W hb hd K hK _
    have h0 : (V 46) = .pointer (some ⟨k, 0, none⟩) := hd 0 (by kernel_rfl)
    clear hd
    go_wp2_with fail
    refine hK _ _ ?_ ?_ ?_ ?_
    · rfl
    · exact Below.refl _ _
    · exact rfl
    · trivial
  · intro V W hb hd K hK _
    have h1 : (V 47) = .pointer (some ⟨k, 0, none⟩) := hd 1 (by kernel_rfl)
    clear hd
    go_wp2_with fail
    refine hK _ _ ?_ ?_ ?_ ?_
    · rfl
    · exact Below.refl _ _
    · exact rfl
    · trivial
  · intro V W hb hd K hK _
    have h2 : (V 48) = .pointer (some ⟨k, 6, none⟩) := hd 2 (by kernel_rfl)
    clear hd
    have c6 := HC6.out W hb
    go_wp2_with fail
    refine hK _ _ ?_ ?_ ?_ ?_
    · rfl
    · exact Below.refl _ _
    · exact rfl
    · trivial
  · intro V W hb hd K hK _
    clear hd
    go_wp2_with fail
    refine hK _ _ ?_ ?_ ?_ ?_
    · rfl
    · exact Below.refl _ _
    · exact rfl
    · trivial
  · intro V W hb hd K hK _
    clear hd
    obtain ⟨m0, m1, m2, m3, m4, m5, m6⟩ := (HM3.out W hb)
    go_wp2_with fail
    refine hK _ _ ?_ ?_ ?_ ?_
    · rfl
    · exact Below.refl _ _
    · exact rfl
    · trivial
  · intro V W hb hd hap
    have h3 : (V 49) = .map (some s.mr) := hd 3 (by decide)
    have h4 : (V 50) = .int .i64 n := hd 4 (by decide)
    have h5 : (V 51) = .agg #[.slice ao an ac, .slice bo bn bc, .slice co cn cc, .int .i64 fp, .int .i64 fl, .int .i64 fw, .bool xq] := hd 5 (by decide)
    clear hd hap
    simp only [List.drop_succ_cons, List.drop_zero]
    obtain ⟨D, hD, hi, ha⟩ := (HO3.out.below hb).rmap
    have HD := Lib.hid hD
    have HI := Lib.hid hi
    have HA := Lib.hid ha
    have HB := Lib.hid hb
    have hv5 : V 51 = vR x' := by rw [HX'.out]; exact h5
    clear hD hi ha hb
    go_wp2_with (at_mapUpdate; refine wpList_mapUpdate_own _ rfl _ _ _ 59 rfl 3 47 law Tryz.underlying59 holdR s.mr E.length D (by first | exact h3 | rfl) HD.out (by unfold maxLen; have := HSZ.out; omega) (.int .i64 n) (vR x') (.int .i64 n) (by first | exact h4 | rfl) (by first | exact hv5 | rfl) hkey (.held (vR x')) [] rfl ?_)
    intro w6 hown6 hgrow6
    clear h3 h4 h5 hv5
    have hW := HO3.out.below HB.out
    have hx6 : OwnC W x' := by rw [HX'.out]; exact HX3.out.below HB.out
    have H6 := Lib.hid (hW.told hgrow6 (RMap.put HI.out HA.out HNK.out hown6) hx6 (by rw [HX'.out]; exact HG.out))
    obtain ⟨es, mc, hob⟩ := hW.rmap.obj
    have hbW := below_then HB3.out (Nat.le_refl _) HB.out
    have HK6 := Lib.hid ((KeepT.below (t := 62) hbW).trans (keepT_map hgrow6 hob))
    have HB6 := Lib.hid ((hbW.mono (show B ≤ w.heap.size by have := HO.out.kb.1; have := HO.out.var.lt; omega)).grown hgrow6 (by have := hbW.size; have := HO.out.kb.1; have := HO.out.var.lt; omega) (fun j hj => by cases hj; exact HO.out.kb.2.1))
    obtain ⟨E', hE'⟩ : ∃ E', E' = (n, x') :: E := ⟨_, rfl⟩
    rw [← hE'] at H6
    have HE' := Lib.hid hE'
    have hl6 : E'.length = E.length + 1 := by rw [hE']; rfl
    obtain ⟨D', hD', hi', -⟩ := H6.out.rmap
    have hlen : ∀ q, (Builtin.len_ #[59] 3 #[.map (some s.mr)]).run Tryz.prog (w6.drewN q) = .ok (.int .i64 E'.length) (w6.drewN q) := fun q => by
      have h1 := World.ownsMap.len (w := w6.drewN q) (World.ownsMap.kept (row := none) hD' (grown_of (below_drewN (Below.refl _ _) q)) (by simp)) Tryz.underlying59 3
      rwa [hi'.size, List.length_map] at h1
    have c3 : w6.cell? ⟨k, 3, none⟩ = some (.slice no N.length nc) := by rw [← HNV.out]; exact H6.out.var.get rfl
    have c6 : w6.cell? ⟨k, 6, none⟩ = some (.map (some s.mr)) := H6.out.var.get rfl
    have HL6 := Lib.hid hl6
    clear hown6 hgrow6 hW hx6 hob hbW hD' hi' hE' hl6 HD HI HA HX3 HM3 HC6 HV3
    go_wp2_with fail
    cases hlt : decide (E'.length < N.length)
    case true =>
      have hlt2 : E'.length < N.length := by have := of_decide_eq_true hlt; omega
      have HLT := Lib.hid hlt2
      clear hlt2
      go_quiet (fail)
      go_wp2_with fail
      go_ret
      have hd := below_drewN (Below.refl w6.heap.size w6) nq
      refine rep_new (ok := true) (s' := s) HP.out HNK.out HM.out (by rw [HP.out]; rfl) (by rw [← HE'.out]; exact H6.out.below hd) rfl (by rw [if_pos (by have := HLT.out; have := HL6.out; omega)]; exact HP.out) (HK6.out.trans (KeepT.below hd)) (below_drewN HB6.out nq) (fun _ => rfl)
    have hlt2 : ¬ E'.length < N.length := by have := of_decide_eq_false hlt; omega
    have HLT := Lib.hid hlt2
    clear hlt2
    go_quiet (fail)
    obtain ⟨W7, hW7⟩ : ∃ W, W = w6.drewN nq := ⟨_, rfl⟩
    rw [← hW7]
    have hd : RowKit.Below w6.heap.size w6 W7 := by rw [hW7]; exact below_drewN (Below.refl w6.heap.size w6) nq
    have HO7 := Lib.hid (H6.out.below hd)
    have HK7 := Lib.hid (HK6.out.trans (KeepT.below hd))
    have HB7 := Lib.hid (HB6.out.trans (hd.mono (by have := HO.out.kb.1; have := H6.out.var.lt; omega)))
    have HN7 := Lib.hid (show (default : Lim).n ≤ W7.heap.size from Nat.le_trans HL.out (HK7.out.size))
    clear hW7 hd H6 HK6 HB6 hlen c3 c6
    have c3 : W7.cell? ⟨k, 3, none⟩ = some (.slice no N.length nc) := by rw [← HNV.out]; exact HO7.out.var.get rfl
    have HALL := Lib.hid (show ∀ m ∈ N, ∃ y, (m, y) ∈ E' from fun m hm => by
      have hk := all_in (K := E'.map (·.1)) (N := N) (by rw [HE'.out]; exact List.nodup_cons.2 ⟨HNK.out, HU.out.1⟩) (fun z hz => by
        rw [HE'.out] at hz
        rcases List.mem_cons.1 hz with rfl | hz
        · exact HM.out
        · exact HU.out.2 z hz) (by rw [List.length_map]; have := HLT.out; omega) m hm
      obtain ⟨p, hp, rfl⟩ := List.mem_map.1 hk
      exact ⟨p.2, hp⟩)
    go_wp2_with fail
    go_loopw [9, 11, 68] (fun av _ iv wr => ∃ (j : Nat) (R : List Rp), j ≤ N.length ∧ iv = .int .i64 j ∧ Hid (∀ i m, i < j → N[i]? = some m → ∃ y, (m, y) ∈ E' ∧ R[i]? = some y) ∧ Hid (∀ r ∈ R, ∃ p ∈ E', p.2 = r) ∧ Hid (Grow wr W7.heap.size 47 av j R) ∧ Hid (RowKit.Below W7.heap.size W7 wr)) (fun _ _ iv _ => N.length - iNat iv)
    case atStart => exact ⟨0, [], by omega, rfl, Lib.hid (fun i m hi => absurd hi (Nat.not_lt_zero _)), Lib.hid (fun r hr => absurd hr List.not_mem_nil), Lib.hid (Grow.nil _ _ _), Lib.hid (Below.refl _ _)⟩
    case round =>
      obtain ⟨j, R, hj, rfl, hat, hin, hgr, hwr⟩ := hrel
      by_cases hlt : j < N.length
      · obtain ⟨m, hm⟩ : ∃ m, N[j]? = some m := ⟨_, List.getElem?_eq_getElem hlt⟩
        have hmN := List.mem_of_getElem? hm
        obtain ⟨y, hy⟩ := HALL.out m hmN
        have hOr := HO7.out.below hwr.out
        obtain ⟨D, hD, hi, ha⟩ := hOr.rmap
        have hrow : IRow wr (.slice no N.length nc) N := by rw [← HNV.out]; exact Lst.owned enI_len (by decide) rfl hOr.nodes
        obtain ⟨gb, off, rfl, hgb, n0⟩ := int_at hrow hm
        have q6 : wr.cell? ⟨k, 6, none⟩ = some (.map (some s.mr)) := hOr.var.get rfl
        have hmk := key (HND.out m hmN).1 (HND.out m hmN).2
        have hly := (hOr.cons _ hy).1.1
        have HD := Lib.hid hD
        have HA := Lib.hid ha
        have HYE := Lib.hid hy
        have HLY := Lib.hid hly
        have HMN := Lib.hid hm
        clear hOr hD hi ha hrow hgb hy hly hm hmN
        obtain ⟨⟨oa, na, ka, ea⟩, ⟨ob, nb, kb, eb⟩, ⟨od, nd, kd, ed⟩⟩ := HLY.out.forms
        obtain ⟨ya, yb, yd, yc, ⟨gp, gl, gw⟩, yq⟩ := y
        simp only [] at ea eb ed
        subst ea eb ed
        go_wp2_with (first
          | (at_lookup; refine wpList_lookup_one _ rfl _ _ 59 rfl 3 47 law Tryz.underlying59 holdR (Tryz.zeroValue47 _) (.held zRep) [] rfl s.mr _ D rfl HD.out _ _ rfl hmk ?_; intro v ps hv; have hve := look_at HA.out HYE.out hv; unfold vR at hve; simp only [] at hve; subst hve; clear hv)
          | (at_builtin; refine wpList_append_reps rfl (.tmp 72) (.tmp 79) rfl Tryz.underlying39 info_Rep W7.heap.size u9 j _ rfl (hgr.out.below ((Below.refl _ _).alloc (Nat.le_refl _) _)).row ⟨wr.heap.size, 0, none⟩ 1 1 [⟨.slice oa na ka, .slice ob nb kb, .slice od nd kd, yc, ⟨gp, gl, gw⟩, yq⟩] rfl (one_rep HLY.out).row (fun x hx => by rw [List.mem_singleton.1 hx]; exact ⟨⟨_, _, _, rfl⟩, ⟨_, _, _, rfl⟩, ⟨_, _, _, rfl⟩⟩) (Or.inl (by decide)) (by omega) (by have := hwr.out.size; simp; omega) ?_))
        intro v5 w5 hsp hg5 hkp hloc
        have hal : RowKit.Below wr.heap.size wr (wr.alloc (.cells #[.slice oa na ka, .slice ob nb kb, .slice od nd kd, .int .i64 gp, .int .i64 gl, .int .i64 gw, .bool yq] 47)) := (Below.refl _ _).alloc (Nat.le_refl _) _
        have hga := hgr.out.below hal
        have HG5 := Lib.hid (hga.more (x := ⟨.slice oa na ka, .slice ob nb kb, .slice od nd kd, yc, ⟨gp, gl, gw⟩, yq⟩) HN7.out (HLY.out.below hal) hsp hg5)
        have HW5 := Lib.hid (hga.belowB (below_then hwr.out (Nat.le_refl _) hal) hg5 (by have := hwr.out.size; have := hal.size; omega))
        have HAT := Lib.hid (show ∀ i m, i < j + 1 → N[i]? = some m → ∃ y, (m, y) ∈ E' ∧ (R ++ [(⟨.slice oa na ka, .slice ob nb kb, .slice od nd kd, yc, ⟨gp, gl, gw⟩, yq⟩ : Rp)])[i]? = some y from fun i m' hi hm' => by
          have hl := hgr.out.len
          by_cases hij : i < j
          · obtain ⟨y', h1, h2⟩ := hat.out i m' hij hm'
            exact ⟨y', h1, by rw [List.getElem?_append_left (by omega)]; exact h2⟩
          · obtain rfl : i = j := by omega
            rw [HMN.out] at hm'
            cases hm'
            exact ⟨_, HYE.out, by rw [List.getElem?_append_right (by omega), hl, Nat.sub_self]; rfl⟩)
        have HIN := Lib.hid (show ∀ r ∈ R ++ [(⟨.slice oa na ka, .slice ob nb kb, .slice od nd kd, yc, ⟨gp, gl, gw⟩, yq⟩ : Rp)], ∃ p ∈ E', p.2 = r from fun r hr => by
          rcases List.mem_append.1 hr with hr | hr
          · exact hin.out r hr
          · rw [List.mem_singleton.1 hr]; exact ⟨_, HYE.out, rfl⟩)
        clear hsp hg5 hkp hloc hga hal hat hin hgr hwr HD HA HYE HLY HMN q6 n0 hmk
        go_wp2_with fail
        go_roundw
        case rel => exact ⟨j + 1, _, by omega, by go_num, HAT, HIN, HG5, HW5⟩
        case measure => simp [iNat]; omega
      · obtain rfl : j = N.length := by omega
        have hOr := HO7.out.below hwr.out
        have HOr := Lib.hid hOr
        have q0 : wr.cell? ⟨k, 0, none⟩ = some (.int .i64 s.se.p) := hOr.var.get rfl
        have q1 : wr.cell? ⟨k, 1, none⟩ = some (.int .i64 s.se.l) := hOr.var.get rfl
        have q2 : wr.cell? ⟨k, 2, none⟩ = some (.int .i64 s.se.w) := hOr.var.get rfl
        have HBr := Lib.hid (HB7.out.trans (hwr.out.mono (by have := HBW.out; have := HK7.out.size; omega)))
        have HTr := Lib.hid (HT.out _ HBr.out)
        obtain ⟨Q, hQ⟩ : ∃ Q, Q = combF R s.se := ⟨_, rfl⟩
        have hcomb := c_combine u9 R 15 s.se wr HTr.out hgr.out.rrow (fun r hr => by obtain ⟨p, hp, rfl⟩ := hin.out r hr; exact (hOr.cons p hp).2) (by rw [← hgr.out.len]; exact hN) (by omega)
        rw [← hQ] at hcomb
        obtain ⟨qc, ⟨bp, bl, bw⟩, qb⟩ := Q
        have HCO := Lib.hid hcomb
        have HQ := Lib.hid hQ
        clear hOr hcomb hQ
        go_wp2_with fail
        refine HCO.out.mono ?_
        rintro e w8 ⟨v8, rfl, hc8, hb8⟩
        obtain ⟨o1, n1, k1, o2, n2, k2, o3, n3, k3, rfl, hl8⟩ := hc8.form
        have HQK := Lib.hid (show xq = false → qb = true from fun hq => by
          obtain ⟨i, hi, e⟩ := List.mem_iff_getElem.1 HM.out
          obtain ⟨y', h1, h2⟩ := hat.out i n hi (by rw [List.getElem?_eq_getElem hi, e])
          obtain ⟨D, -, -, ha⟩ := HOr.out.rmap
          have h3 := same_q ha h1 (show (n, x') ∈ E' by rw [HE'.out]; exact List.mem_cons_self ..)
          have h4 := base_some (List.mem_of_getElem? h2) (by rw [h3, HX'.out]; exact hq)
          have h5 := congrArg (fun z => z.2.2) HQ.out
          simp only [] at h5
          rw [h5, comb_ok, h4])
        obtain ⟨k12, hk12⟩ : ∃ j, j = w8.heap.size := ⟨_, rfl⟩
        obtain ⟨w9, hw9⟩ : ∃ W, W = (w8.alloc (.cells #[.slice o1 n1 k1, .slice o2 n2 k2, .slice o3 n3 k3] 45)).alloc (.cells #[.int .i64 bp, .int .i64 bl, .int .i64 bw] 23) := ⟨_, rfl⟩
        have hb9 : RowKit.Below w8.heap.size w8 w9 := by rw [hw9]; exact ((Below.refl _ _).alloc (Nat.le_refl _) _).alloc (by simp) _
        have hbr9 := below_then hb8 (Nat.le_refl _) hb9
        have HO9 := Lib.hid (HOr.out.below hbr9)
        have HB9 := Lib.hid (HBr.out.trans (hbr9.mono (by have := HBW.out; have := HK7.out.size; have := hwr.out.size; omega)))
        have HK9 := Lib.hid (((HK7.out.trans (KeepT.below hwr.out)).trans (KeepT.below hbr9)))
        have hkk : k < k12 := by rw [hk12]; exact Nat.lt_of_lt_of_le HOr.out.var.lt hb8.size
        have hz9 : w9.heap.size = k12 + 1 + 1 := by rw [hw9, hk12]; simp
        have h12 : w9.heap[k12]? = some (.cells #[.slice o1 n1 k1, .slice o2 n2 k2, .slice o3 n3 k3] 45 (0, 0)) := by
          rw [hw9, hk12]
          exact (((Below.refl _ _).alloc (Nat.le_refl _) _).block _ (by simp)).trans (heap_alloc_new w8 _)
        have h13 : w9.heap[k12 + 1]? = some (.cells #[.int .i64 bp, .int .i64 bl, .int .i64 bw] 23 (0, 0)) := by
          have h := heap_alloc_new (w8.alloc (.cells #[.slice o1 n1 k1, .slice o2 n2 k2, .slice o3 n3 k3] 45)) (.cells #[.int .i64 bp, .int .i64 bl, .int .i64 bw] 23)
          rw [World.size_alloc] at h
          rw [hw9, hk12]; exact h
        have HT12 := Lib.hid (fun (W : World) (hg : w9.grownBy W (some k)) => (show W.cell? ⟨k12, 0, none⟩ = some (.slice o1 n1 k1) ∧ W.cell? ⟨k12, 1, none⟩ = some (.slice o2 n2 k2) ∧ W.cell? ⟨k12, 2, none⟩ = some (.slice o3 n3 k3) from by
          have h := (hg.block k12 (by omega) (fun e => by injection e with e; omega)).trans h12
          refine ⟨?_, ?_, ?_⟩ <;> (rw [cell_of_row W k12 _ _ _ (0, 0) h]; rfl)))
        have HT13 := Lib.hid (fun (W : World) (hg : w9.grownBy W (some k)) => (show W.cell? ⟨k12 + 1, 0, none⟩ = some (.int .i64 bp) ∧ W.cell? ⟨k12 + 1, 1, none⟩ = some (.int .i64 bl) ∧ W.cell? ⟨k12 + 1, 2, none⟩ = some (.int .i64 bw) from by
          have h := (hg.block (k12 + 1) (by omega) (fun e => by injection e with e; omega)).trans h13
          refine ⟨?_, ?_, ?_⟩ <;> (rw [cell_of_row W (k12 + 1) _ _ _ (0, 0) h]; rfl)))
        clear hc8 hl8 HCO
        go_upto_region 15 with fail
        rw [← hw9, ← hk12]
        clear hw9 hk12 h12 h13 hkk hz9 hbr9 hb9 hb8 q0 q1 q2 HBr HTr HOr HO7 HB7 HK7 HN7 HALL hat hin hgr hwr HB3 HO3 HQ
        cases qb
        case false =>
          go_wp2_with fail
          refine (abort_any k s 240 w9 HO9.out.var HP.out).mono ?_
          rintro e w10 ⟨rfl, hv10, hg10⟩
          have H10 := Lib.hid (HO9.out.turn hg10 hv10 rfl rfl rfl)
          have HK10 := Lib.hid (HK9.out.trans (keepT_var HO9.out.var hg10))
          have HB10 := Lib.hid (HB9.out.grown hg10 (by have := HB9.out.size; have := HBW.out; omega) (fun j hj => by cases hj; exact HO9.out.kb.1))
          clear hv10 hg10
          go_wp2_with fail
          go_ret
          exact rep_new (ok := false) (s' := s.ends 240) HP.out HNK.out HM.out rfl (by rw [← HE'.out]; exact H10.out) rfl (by rw [if_neg (by have := HLT.out; have := HL6.out; omega)]; rfl) HK10.out HB10.out HQK.out
        have HC9 := Lib.hid (show w9.grownBy w9.drew (some k) from grown_of ((RowKit.Below.refl _ w9).drew))
        have HS9 := Lib.hid (show SV w9.drew k s from HO9.out.var)
        obtain ⟨s1, hs1⟩ : ∃ s1 : Sx, s1 = { s with a := .slice o1 n1 k1, b := .slice o2 n2 k2, d := .slice o3 n3 k3 } := ⟨_, rfl⟩
        obtain ⟨s2, hs2⟩ : ∃ s2 : Sx, s2 = { s with a := .slice o1 n1 k1, b := .slice o2 n2 k2, d := .slice o3 n3 k3, bs := ⟨bp, bl, bw⟩ } := ⟨_, rfl⟩
        have HS1 := Lib.hid (fun (W : World) (h : SV W k s) => (show SV (((W.setCell ⟨k, 8, none⟩ (.slice o1 n1 k1)).setCell ⟨k, 9, none⟩ (.slice o2 n2 k2)).setCell ⟨k, 10, none⟩ (.slice o3 n3 k3)) k s1 from by
          rw [hs1]; exact VarAt.setK (VarAt.set (VarAt.set h 8 _) 9 _) 10 _ rfl))
        have HS1C := Lib.hid (fun (W : World) (h : SV W k s1) => (show W.cell? ⟨k, 11, none⟩ = some (.int .i64 s.bs.p) ∧ W.cell? ⟨k, 12, none⟩ = some (.int .i64 s.bs.l) ∧ W.cell? ⟨k, 13, none⟩ = some (.int .i64 s.bs.w) from by
          rw [hs1] at h; exact ⟨h.get rfl, h.get rfl, h.get rfl⟩))
        have HS2 := Lib.hid (fun (W : World) (h : SV W k s1) => (show SV (((W.setCell ⟨k, 11, none⟩ (.int .i64 bp)).setCell ⟨k, 12, none⟩ (.int .i64 bl)).setCell ⟨k, 13, none⟩ (.int .i64 bw)) k s2 from by
          rw [hs1] at h
          rw [hs2]; exact VarAt.setK (VarAt.set (VarAt.set h 11 _) 12 _) 13 _ rfl))
        have HS2C := Lib.hid (fun (W : World) (h : SV W k s2) => (show W.cell? ⟨k, 5, none⟩ = some (.int .i64 s.ph) from by
          rw [hs2] at h; exact h.get rfl))
        have HS2N := Lib.hid (show s2.nv = s.nv ∧ s2.mr = s.mr ∧ s2.md = s.md by rw [hs2]; exact ⟨rfl, rfl, rfl⟩)
        have hcm : ∀ a b, w9.grownBy a (some k) → RowKit.Below a.heap.size a b → w9.grownBy b (some k) := fun a b h hb => grown_und h hb
        have hpr : ∀ (j : Nat) (a b : World), (j = 7 → (fun W => SV W k s) a) → RowKit.Below a.heap.size a b → (j = 7 → (fun W => SV W k s) b) := fun j a b h hb e => (h e).below hb
        clear hs1 hs2
        go_wp2_with fail
        refine RegLin.wp_region_lin (RegLin.useL [(7, 10)]) (fun W => w9.grownBy W (some k)) (fun j W => j = 7 → (fun W => SV W k s) W) 13 [false, false, false, false, false, false, false, false, false, false, false, false, false, false, false, false, false, false, false, false, false, false, false, false, false, false, false, false, false, false, false, false, false, false, false, false, false, false, false, false, false, false, false, false, false, false, false, false, false, false, false, false, false, false, false, false, false, false, false, false, false, false, false, false, false, false, false, false, false, false, false, false, false, false, false, false, false, false, false, false, false, false, false, false, false, false, false, false, false, false, false, false, false, false, false, false, true, true, true, true, true, true, true, true, true, true, true]
          [sLit (.pointer (some ⟨k, 0, none⟩)),
    sLit (.pointer (some ⟨k, 0, none⟩)),
    sLit (.pointer (some ⟨k, 0, none⟩)),
    sLit (.agg #[.slice o1 n1 k1, .slice o2 n2 k2, .slice o3 n3 k3]),
    sLit (.agg #[.int .i64 bp, .int .i64 bl, .int .i64 bw]),
    sLit (.pointer (some ⟨k, 0, none⟩)),
    sLit (.pointer (some ⟨k, 8, none⟩)),
    sSV k s1,
    sLit (.pointer (some ⟨k, 0, none⟩)),
    sLit (.pointer (some ⟨k, 11, none⟩)),
    sSV k s2,
    sLit (.pointer (some ⟨k, 0, none⟩)),
    sLit (.pointer (some ⟨k, 5, none⟩))] (HC9.out) (fun j _ _ => HS9.out) (by kernel_rfl) (by kernel_rfl) (by kernel_rfl) (by kernel_rfl) (fun F hF => ?_)
        simp only [over, overL, Nat.reduceAdd] at hF
        obtain rfl := funext hF
        clear hF
        refine ⟨⟨?_, ?_, ?_, ?_, ?_, ?_, ?_, ?_, ?_, ?_, ?_, ?_, ?_, trivial⟩, ?_⟩
        · intro V W hc hp hd K hK _
          clear hd
          go_wp2_with fail
          refine hK _ _ ?_ ?_ ?_
          · rfl
          · exact RegLin.keeps_below hcm hpr hc (Below.refl _ _)
          · exact rfl
        · intro V W hc hp hd K hK _
          clear hd
          go_wp2_with fail
          refine hK _ _ ?_ ?_ ?_
          · rfl
          · exact RegLin.keeps_below hcm hpr hc (Below.refl _ _)
          · exact rfl
        · intro V W hc hp hd K hK _
          clear hd
          go_wp2_with fail
          refine hK _ _ ?_ ?_ ?_
          · rfl
          · exact RegLin.keeps_below hcm hpr hc (Below.refl _ _)
          · exact rfl
        · intro V W hc hp hd K hK _
          clear hd
          obtain ⟨m0, m1, m2⟩ := (HT12.out W hc)
          go_wp2_with fail
          refine hK _ _ ?_ ?_ ?_
          · rfl
          · exact RegLin.keeps_below hcm hpr hc (Below.refl _ _)
          · exact rfl
        · intro V W hc hp hd K hK _
          clear hd
          obtain ⟨m0, m1, m2⟩ := (HT13.out W hc)
          go_wp2_with fail
          refine hK _ _ ?_ ?_ ?_
          · rfl
          · exact RegLin.keeps_below hcm hpr hc (Below.refl _ _)
          · exact rfl
        · intro V W hc hp hd K hK _
          have h0 : (V 96) = .pointer (some ⟨k, 0, none⟩) := hd 0 (by decide) (by kernel_rfl) (RegLin.useL_ok (by kernel_rfl))
          clear hd
          go_wp2_with fail
          refine hK _ _ ?_ ?_ ?_
          · rfl
          · exact RegLin.keeps_below hcm hpr hc (Below.refl _ _)
          · exact rfl
        · intro V W hc hp hd K hK _
          have h5 : (V 101) = .pointer (some ⟨k, 0, none⟩) := hd 5 (by decide) (by kernel_rfl) (RegLin.useL_ok (by kernel_rfl))
          clear hd
          go_wp2_with fail
          refine hK _ _ ?_ ?_ ?_
          · rfl
          · exact RegLin.keeps_below hcm hpr hc (Below.refl _ _)
          · exact rfl
        · intro V W hc hp hd K hK _
          have h3 : (V 99) = .agg #[.slice o1 n1 k1, .slice o2 n2 k2, .slice o3 n3 k3] := hd 3 (by decide) (by kernel_rfl) (RegLin.useL_ok (by kernel_rfl))
          have h6 : (V 102) = .pointer (some ⟨k, 8, none⟩) := hd 6 (by decide) (by kernel_rfl) (RegLin.useL_ok (by kernel_rfl))
          clear hd
          skip
          have hs : SV W k s := hp rfl
          have q0 : W.cell? ⟨k, 8, none⟩ = some s.a := hs.get rfl
          have q1 : W.cell? ⟨k, 9, none⟩ = some s.b := hs.get rfl
          have q2 : W.cell? ⟨k, 10, none⟩ = some s.d := hs.get rfl
          have f0 := hs.frozen 8
          have f1 := hs.frozen 9
          have f2 := hs.frozen 10
          have HSW := Lib.hid hs
          have HCW := Lib.hid hc
          clear hs hp hc
          go_wp2_with fail
          refine hK _ _ ?_ ?_ ?_
          · rfl
          · refine RegLin.keeps_by (by refine grown_setCell ?_ (Or.inl rfl) _; refine grown_setCell ?_ (Or.inl rfl) _; refine grown_setCell ?_ (Or.inl rfl) _; exact HCW.out) (by kernel_rfl) (fun j hj hne hl h => ?_)
            match j, hj, hne, hl, h with
            | 0, _, _, _, h => exact h
            | 1, _, _, _, h => exact h
            | 2, _, _, _, h => exact h
            | 3, _, _, _, h => exact h
            | 4, _, _, _, h => exact h
            | 5, _, _, _, h => exact h
            | 6, _, _, _, h => exact h
            | 7, _, hne, _, _ => exact absurd rfl hne
            | 8, _, _, hl, _ => exact Bool.noConfusion (hl.symm.trans (show RegLin.liveB _ 13 [(7, 10)] 7 8 = false from by kernel_rfl))
            | 9, _, _, hl, _ => exact Bool.noConfusion (hl.symm.trans (show RegLin.liveB _ 13 [(7, 10)] 7 9 = false from by kernel_rfl))
            | 10, _, _, hl, _ => exact Bool.noConfusion (hl.symm.trans (show RegLin.liveB _ 13 [(7, 10)] 7 10 = false from by kernel_rfl))
            | 11, _, _, hl, _ => exact Bool.noConfusion (hl.symm.trans (show RegLin.liveB _ 13 [(7, 10)] 7 11 = false from by kernel_rfl))
            | 12, _, _, hl, _ => exact Bool.noConfusion (hl.symm.trans (show RegLin.liveB _ 13 [(7, 10)] 7 12 = false from by kernel_rfl))
            | j + 13, hj, _, _, _ => exact absurd hj (by omega)
          · exact (HS1.out W HSW.out)
        · intro V W hc hp hd K hK _
          have h1 : (V 97) = .pointer (some ⟨k, 0, none⟩) := hd 1 (by decide) (by kernel_rfl) (RegLin.useL_ok (by kernel_rfl))
          clear hd
          go_wp2_with fail
          refine hK _ _ ?_ ?_ ?_
          · rfl
          · exact RegLin.keeps_below hcm hpr hc (Below.refl _ _)
          · exact rfl
        · intro V W hc hp hd K hK _
          have h8 : (V 103) = .pointer (some ⟨k, 0, none⟩) := hd 8 (by decide) (by kernel_rfl) (RegLin.useL_ok (by kernel_rfl))
          clear hd
          go_wp2_with fail
          refine hK _ _ ?_ ?_ ?_
          · rfl
          · exact RegLin.keeps_below hcm hpr hc (Below.refl _ _)
          · exact rfl
        · intro V W hc hp hd K hK _
          have h4 : (V 100) = .agg #[.int .i64 bp, .int .i64 bl, .int .i64 bw] := hd 4 (by decide) (by kernel_rfl) (RegLin.useL_ok (by kernel_rfl))
          have h7 : SV W k s1 := hd 7 (by decide) (by kernel_rfl) (RegLin.useL_ok (by kernel_rfl))
          have h9 : (V 104) = .pointer (some ⟨k, 11, none⟩) := hd 9 (by decide) (by kernel_rfl) (RegLin.useL_ok (by kernel_rfl))
          clear hd
          skip
          obtain ⟨q0, q1, q2⟩ := HS1C.out W h7
          have f0 := h7.frozen 11
          have f1 := h7.frozen 12
          have f2 := h7.frozen 13
          have HSW := Lib.hid h7
          have HCW := Lib.hid hc
          clear h7 hp hc
          go_wp2_with fail
          refine hK _ _ ?_ ?_ ?_
          · rfl
          · refine RegLin.keeps_by (by refine grown_setCell ?_ (Or.inl rfl) _; refine grown_setCell ?_ (Or.inl rfl) _; refine grown_setCell ?_ (Or.inl rfl) _; exact HCW.out) (by kernel_rfl) (fun j hj hne hl h => ?_)
            match j, hj, hne, hl, h with
            | 0, _, _, _, h => exact h
            | 1, _, _, _, h => exact h
            | 2, _, _, _, h => exact h
            | 3, _, _, _, h => exact h
            | 4, _, _, _, h => exact h
            | 5, _, _, _, h => exact h
            | 6, _, _, _, h => exact h
            | 7, _, _, hl, _ => exact Bool.noConfusion (hl.symm.trans (show RegLin.liveB _ 13 [(7, 10)] 10 7 = false from by kernel_rfl))
            | 8, _, _, _, h => exact h
            | 9, _, _, _, h => exact h
            | 10, _, hne, _, _ => exact absurd rfl hne
            | 11, _, _, hl, _ => exact Bool.noConfusion (hl.symm.trans (show RegLin.liveB _ 13 [(7, 10)] 10 11 = false from by kernel_rfl))
            | 12, _, _, hl, _ => exact Bool.noConfusion (hl.symm.trans (show RegLin.liveB _ 13 [(7, 10)] 10 12 = false from by kernel_rfl))
            | j + 13, hj, _, _, _ => exact absurd hj (by omega)
          · exact (HS2.out W HSW.out)
        · intro V W hc hp hd K hK _
          have h2 : (V 98) = .pointer (some ⟨k, 0, none⟩) := hd 2 (by decide) (by kernel_rfl) (RegLin.useL_ok (by kernel_rfl))
          clear hd
          go_wp2_with fail
          refine hK _ _ ?_ ?_ ?_
          · rfl
          · exact RegLin.keeps_below hcm hpr hc (Below.refl _ _)
          · exact rfl
        · intro V W hc hp hd K hK _
          have h11 : (V 105) = .pointer (some ⟨k, 0, none⟩) := hd 11 (by decide) (by kernel_rfl) (RegLin.useL_ok (by kernel_rfl))
          clear hd
          go_wp2_with fail
          refine hK _ _ ?_ ?_ ?_
          · rfl
          · exact RegLin.keeps_below hcm hpr hc (Below.refl _ _)
          · exact rfl
        · intro V W hc hd
          have h10 : SV W k s2 := hd 10 (by decide) rfl
          have h12 : (V 106) = .pointer (some ⟨k, 5, none⟩) := hd 12 (by decide) rfl
          clear hd
          simp only [List.drop_succ_cons, List.drop_zero]
          have s5 := HS2C.out W h10
          have f5 := h10.frozen 5
          have HSW := Lib.hid h10
          have HCW := Lib.hid hc
          clear h10 hc
          go_wp2_with fail
          go_ret
          have hg : w9.grownBy (W.setCell ⟨k, 5, none⟩ (.int .i64 1)) (some k) := by
            refine grown_setCell ?_ (Or.inl rfl) _
            exact HCW.out
          have hv : SV (W.setCell ⟨k, 5, none⟩ (.int .i64 1)) k (s2.at 1) := HSW.out.setK 5 _ rfl
          exact rep_new (ok := true) (s' := s2.at 1) HP.out HNK.out HM.out rfl (by rw [← HE'.out]; exact HO9.out.turn hg hv HS2N.out.1 HS2N.out.2.1 HS2N.out.2.2) HS2N.out.1 (by rw [if_neg (by have := HLT.out; have := HL6.out; omega)]; rfl) (HK9.out.trans (keepT_var HO9.out.var hg)) (HB9.out.grown hg (by have := HB9.out.size; have := HBW.out; omega) (fun j hj => by cases hj; exact HO9.out.kb.1)) (fun _ => rfl)
end Go.Proofs.YthdbilggnjjkhaaGreatDoor.Rpr
