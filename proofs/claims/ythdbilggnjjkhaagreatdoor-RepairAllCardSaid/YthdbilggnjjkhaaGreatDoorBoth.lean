/- The walk of the law's Both (layer 25): reports, as the program has them and as the document does. PRINTED by wip/genboth.py. -/
import Derived.Test.YthdbilggnjjkhaaGreatDoorKeepRow
import Derived.Test.YthdbilggnjjkhaaGreatDoorPkRb
set_option linter.unusedSimpArgs false
set_option linter.unusedVariables false
namespace Go.Proofs.YthdbilggnjjkhaaGreatDoor.Mut
open Go.RowKit Go.Sort Go.Proofs.YthdbilggnjjkhaaGreatDoor.Ord Go.Proofs.YthdbilggnjjkhaaGreatDoor.RegInv Go.Proofs.YthdbilggnjjkhaaGreatDoor.Spare
set_option linter.unusedSectionVars false
variable [Inhabited Lim]

/-- What a report is made of. -/
def coreT (x : Td) : Con × Stp × Bool := (leftOf (x.l.map (·.1)), x.f, x.q)
structure AtT (w : World) (b o : Nat) (x : Td) : Prop where
  lt : b < w.heap.size
  c0 : w.cell? ⟨b, o, none⟩ = some x.v
  c1 : w.cell? ⟨b, o + 1, none⟩ = some (.int .i64 x.f.p)
  c2 : w.cell? ⟨b, o + 2, none⟩ = some (.int .i64 x.f.l)
  c3 : w.cell? ⟨b, o + 3, none⟩ = some (.int .i64 x.f.w)
  c4 : w.cell? ⟨b, o + 4, none⟩ = some (.bool x.q)
theorem AtT.below {w w' : World} {b o : Nat} {x : Td} (h : AtT w b o x) (hb : RowKit.Below w.heap.size w w') : AtT w' b o x := by
  have e : ∀ k, w'.cell? ⟨b, k, none⟩ = w.cell? ⟨b, k, none⟩ := fun k => hb.cell (p := ⟨b, k, none⟩) h.lt
  obtain ⟨h0, h1, h2, h3, h4, h5⟩ := h
  exact ⟨Nat.lt_of_lt_of_le h0 hb.size, (e _).trans h1, (e _).trans h2, (e _).trans h3, (e _).trans h4, (e _).trans h5⟩
theorem TRow.at_ {w : World} {ao : Option Addr} {n cap : Nat} {T : List Td} (h : TRow w (.slice ao n cap) T) {k : Nat} {x : Td} (hk : T[k]? = some x) : ∃ b off, ao = some ⟨b, off, none⟩ ∧ AtT w b (off + k * 5) x := by
  obtain ⟨hlt, he⟩ := List.getElem?_eq_some_iff.1 hk
  obtain ⟨b, off, e, hb, h0, h1, h2, h3, h4⟩ := h.get hlt
  rw [he] at h0 h1 h2 h3 h4
  exact ⟨b, off, e, hb, h0, h1, h2, h3, h4⟩

set_option maxHeartbeats 8000000 in
set_option maxRecDepth 100000 in
theorem both25_any (v : Value) (T : List Td) (w : World) (hT : Tabs w) (hv : TRow w v T) (hN0 : (default : Lim).n ≤ w.heap.size) (hn : T.length ≤ 1000) (hl : ∀ x ∈ T, (x.l.map (·.1)).length ≤ 10000 ∧ ∀ m ∈ x.l.map (·.1), Small m) :
    Calls Tryz.prog 6 #[v] w fun e w' => ∃ va vb RA RB, e = .returned (.tuple #[va, vb]) ∧ RRow w' va RA ∧ RRow w' vb RB ∧ RA.map core = T.map coreT ∧ RB.map core = T.map coreT ∧ RowKit.Below w.heap.size w w' := by
  obtain ⟨ao, cap, rfl, hc1, hc2⟩ := hv.form
  obtain ⟨n, hN⟩ : ∃ n, n = T.length := ⟨_, rfl⟩
  rw [← hN] at hv hn ⊢
  have HV := Lib.hid hv
  have HN := Lib.hid hN
  have HT := Lib.hid hT
  have HL := Lib.hid hl
  have HN0 := Lib.hid hN0
  clear hv hN hT hl hN0 hc1 hc2
  go_enter Tryz.func6, Tryz.ntmps6
  go_wp2_with fail
  go_loopw [4, 5, 6] (fun av bv iv wr => ∃ (k : Nat) (RA RB : List Rp), k ≤ n ∧ iv = .int .i64 k ∧ Hid (RA.map core = (T.take k).map coreT) ∧ Hid (RB.map core = (T.take k).map coreT) ∧ Hid (Grow wr w.heap.size 47 av k RA) ∧ Hid (Grow wr w.heap.size 68 bv k RB) ∧ Hid (RowKit.Below w.heap.size w wr)) (fun _ _ iv _ => n - (intOf iv).toNat)
  case atStart => exact ⟨0, [], [], by omega, rfl, Lib.hid rfl, Lib.hid rfl, Lib.hid (Grow.nil _ _ _), Lib.hid (Grow.nil _ _ _), Lib.hid (Below.refl _ _)⟩
  case round =>
    obtain ⟨k, RA, RB, hk, rfl, ha, hbc, hga, hgb, hw⟩ := hrel
    by_cases hlt : k < n
    · have hkr : k < T.length := by have := HN.out; omega
      obtain ⟨x, hx⟩ : ∃ x, T[k]? = some x := ⟨_, List.getElem?_eq_getElem hkr⟩
      have hxm := List.mem_of_getElem? hx
      have hvw := HV.out.below hw.out
      obtain ⟨xb, xoff, hao, hat⟩ := hvw.at_ hx
      cases hao
      have hxo := hvw.ro x hxm
      have htk : (T.take (k + 1)).map coreT = (T.take k).map coreT ++ [coreT x] := by rw [List.take_add_one, hx]; simp
      obtain ⟨y, hy⟩ : ∃ y, y = leftOf (x.l.map (·.1)) := ⟨_, rfl⟩
      have hcx : coreT x = (y, x.f, x.q) := by rw [hy]; rfl
      have HO := Lib.hid (fun W (h : RowKit.Below w.heap.size w W) => show Calls Tryz.prog 16 #[x.v] W (RetC y W) from by
        rw [hy]; exact c_of (HT.out.below h) ⟨x.l, rfl, (HV.out.below h).ro x hxm⟩ (HL.out x hxm).1 (HL.out x hxm).2)
      have HRO := Lib.hid (fun W (h : RowKit.Below w.heap.size w W) => show Calls Tryz.prog 17 #[x.v] W (RetC y W) from by
        rw [hy]; exact c_refof (HT.out.below h) ⟨x.l, rfl, (HV.out.below h).ro x hxm⟩ (HL.out x hxm).1 (HL.out x hxm).2)
      have HAT := Lib.hid (fun W (h : RowKit.Below w.heap.size w W) => show AtT W xb (xoff + k * 5) x from by
        obtain ⟨b', o', e', h'⟩ := (HV.out.below h).at_ hx
        cases e'
        exact h')
      rw [hcx] at htk
      have HTK := Lib.hid htk
      obtain ⟨xo, xc, ex, -, -⟩ := hxo.form
      clear hat htk hcx hy hx hxm hxo hvw
      obtain ⟨xv, xl, ⟨fp, fl, fw⟩, xq⟩ := x
      simp only [] at ex
      obtain ⟨xn, hxn⟩ : ∃ k, k = xl.length := ⟨_, rfl⟩
      rw [← hxn] at ex
      subst ex
      clear hxn
      simp only [] at HO HRO HTK
      have j0 : (0 : Int) ≤ (k : Int) := by omega
      have j1 : (k : Int) < (n : Int) := by omega
      have hwsz := hw.out.size
      go_wp2_with fail
      refine wp_region_told [] 19 [false, false, false, false, false, false, false, false, false, false, false, false, false, true, true, true, true, true, true, true, true, true, true, true, true, true, true, true, true, true, true, true, false, false, false, false, false, false, false, false, false, false, false, false, false, false, false, false, false, false, false, false, false, false, false]
        [sLit (u4),
    sLit (.slice (some ⟨xb, xoff, none⟩) n cap),
    sLit (.int .i64 k),
    sLit (.pointer (some ⟨xb, xoff + k * 5, none⟩)),
    sLit (.pointer (some ⟨xb, xoff + k * 5, none⟩)),
    sLit (.slice xo xn xc),
    sOne (IsC (y)) (fun _ _ _ h hb => h.below hb),
    sLit (.slice (some ⟨xb, xoff, none⟩) n cap),
    sLit (.int .i64 k),
    sLit (.pointer (some ⟨xb, xoff + k * 5, none⟩)),
    sLit (.pointer (some ⟨xb, xoff + k * 5 + 1, none⟩)),
    sLit (.agg #[.int .i64 fp, .int .i64 fl, .int .i64 fw]),
    sLit (.slice (some ⟨xb, xoff, none⟩) n cap),
    sLit (.int .i64 k),
    sLit (.pointer (some ⟨xb, xoff + k * 5, none⟩)),
    sLit (.pointer (some ⟨xb, xoff + k * 5 + 4, none⟩)),
    sLit (.bool xq),
    sOne (fun v W => ∃ a b d, v = vR ⟨a, b, d, y, ⟨fp, fl, fw⟩, xq⟩ ∧ Lies W a b d y) (fun _ _ _ h hb => h.elim fun a h => h.elim fun b h => h.elim fun d h => ⟨a, b, d, h.1, h.2.below hb⟩),
    sOne (fun v W => ∃ g a b d, v = .slice (some ⟨g, 0, none⟩) 1 1 ∧ RRow W v [⟨a, b, d, y, ⟨fp, fl, fw⟩, xq⟩]) (fun _ _ _ h hb => h.elim fun g h => h.elim fun a h => h.elim fun b h => h.elim fun d h => ⟨g, a, b, d, h.1, h.2.below hb⟩)] (by kernel_rfl) (by kernel_rfl) (by kernel_rfl) (fun F hF => ?_)
      simp only [over, overL, Nat.reduceAdd] at hF
      obtain rfl := funext hF
      clear hF
      refine ⟨⟨?_, ?_, ?_, ?_, ?_, ?_, ?_, ?_, ?_, ?_, ?_, ?_, ?_, ?_, ?_, ?_, ?_, ?_, ?_, trivial⟩, ?_⟩
      · intro V W hb hd K hK _
        clear hd
        go_wp2_with fail
        refine hK _ _ ?_ ?_ ?_ ?_
        · rfl
        · exact Below.refl _ _
        · exact rfl
        · trivial
      · intro V W hb hd K hK _
        clear hd
        go_wp2_with fail
        refine hK _ _ ?_ ?_ ?_ ?_
        · rfl
        · exact Below.refl _ _
        · exact rfl
        · trivial
      · intro V W hb hd K hK _
        clear hd
        go_wp2_with fail
        refine hK _ _ ?_ ?_ ?_ ?_
        · rfl
        · exact Below.refl _ _
        · exact rfl
        · trivial
      · intro V W hb hd K hK _
        have h1 : (V 14) = .slice (some ⟨xb, xoff, none⟩) n cap := hd 1 (by kernel_rfl)
        have h2 : (V 15) = .int .i64 k := hd 2 (by kernel_rfl)
        clear hd
        go_wp2_with fail
        refine hK _ _ ?_ ?_ ?_ ?_
        · rfl
        · exact Below.refl _ _
        · exact rfl
        · trivial
      · intro V W hb hd K hK _
        have h3 : (V 16) = .pointer (some ⟨xb, xoff + k * 5, none⟩) := hd 3 (by kernel_rfl)
        clear hd
        go_wp2_with fail
        refine hK _ _ ?_ ?_ ?_ ?_
        · rfl
        · exact Below.refl _ _
        · exact rfl
        · trivial
      · intro V W hb hd K hK _
        have h4 : (V 17) = .pointer (some ⟨xb, xoff + k * 5, none⟩) := hd 4 (by kernel_rfl)
        clear hd
        obtain ⟨hbl, a0, a1, a2, a3, a4⟩ := HAT.out W (below_then hw.out (Nat.le_refl _) hb)
        simp only [] at a0 a1 a2 a3 a4
        go_wp2_with fail
        refine hK _ _ ?_ ?_ ?_ ?_
        · rfl
        · exact Below.refl _ _
        · exact rfl
        · trivial
      · intro V W hb hd K hK _
        have h5 : (V 18) = .slice xo xn xc := hd 5 (by kernel_rfl)
        clear hd
        go_wp2_with fail
        refine (HO.out W (below_then hw.out (Nat.le_refl _) hb)).mono ?_
        rintro e w1 ⟨v1, rfl, hv1, hb1⟩
        go_wp2_with fail
        refine hK _ _ ?_ ?_ ?_ ?_
        · rfl
        · exact hb1
        · exact hv1
        · trivial
      · intro V W hb hd K hK _
        clear hd
        go_wp2_with fail
        refine hK _ _ ?_ ?_ ?_ ?_
        · rfl
        · exact Below.refl _ _
        · exact rfl
        · trivial
      · intro V W hb hd K hK _
        clear hd
        go_wp2_with fail
        refine hK _ _ ?_ ?_ ?_ ?_
        · rfl
        · exact Below.refl _ _
        · exact rfl
        · trivial
      · intro V W hb hd K hK _
        have h7 : (V 20) = .slice (some ⟨xb, xoff, none⟩) n cap := hd 7 (by kernel_rfl)
        have h8 : (V 21) = .int .i64 k := hd 8 (by kernel_rfl)
        clear hd
        go_wp2_with fail
        refine hK _ _ ?_ ?_ ?_ ?_
        · rfl
        · exact Below.refl _ _
        · exact rfl
        · trivial
      · intro V W hb hd K hK _
        have h9 : (V 22) = .pointer (some ⟨xb, xoff + k * 5, none⟩) := hd 9 (by kernel_rfl)
        clear hd
        go_wp2_with fail
        refine hK _ _ ?_ ?_ ?_ ?_
        · rfl
        · exact Below.refl _ _
        · exact rfl
        · trivial
      · intro V W hb hd K hK _
        have h10 : (V 23) = .pointer (some ⟨xb, xoff + k * 5 + 1, none⟩) := hd 10 (by kernel_rfl)
        clear hd
        obtain ⟨hbl, a0, a1, a2, a3, a4⟩ := HAT.out W (below_then hw.out (Nat.le_refl _) hb)
        simp only [] at a0 a1 a2 a3 a4
        go_wp2_with fail
        refine hK _ _ ?_ ?_ ?_ ?_
        · rfl
        · exact Below.refl _ _
        · exact rfl
        · trivial
      · intro V W hb hd K hK _
        clear hd
        go_wp2_with fail
        refine hK _ _ ?_ ?_ ?_ ?_
        · rfl
        · exact Below.refl _ _
        · exact rfl
        · trivial
      · intro V W hb hd K hK _
        clear hd
        go_wp2_with fail
        refine hK _ _ ?_ ?_ ?_ ?_
        · rfl
        · exact Below.refl _ _
        · exact rfl
        · trivial
      · intro V W hb hd K hK _
        have h12 : (V 25) = .slice (some ⟨xb, xoff, none⟩) n cap := hd 12 (by kernel_rfl)
        have h13 : (V 26) = .int .i64 k := hd 13 (by kernel_rfl)
        clear hd
        go_wp2_with fail
        refine hK _ _ ?_ ?_ ?_ ?_
        · rfl
        · exact Below.refl _ _
        · exact rfl
        · trivial
      · intro V W hb hd K hK _
        have h14 : (V 27) = .pointer (some ⟨xb, xoff + k * 5, none⟩) := hd 14 (by kernel_rfl)
        clear hd
        go_wp2_with fail
        refine hK _ _ ?_ ?_ ?_ ?_
        · rfl
        · exact Below.refl _ _
        · exact rfl
        · trivial
      · intro V W hb hd K hK _
        have h15 : (V 28) = .pointer (some ⟨xb, xoff + k * 5 + 4, none⟩) := hd 15 (by kernel_rfl)
        clear hd
        obtain ⟨hbl, a0, a1, a2, a3, a4⟩ := HAT.out W (below_then hw.out (Nat.le_refl _) hb)
        simp only [] at a0 a1 a2 a3 a4
        go_wp2_with fail
        refine hK _ _ ?_ ?_ ?_ ?_
        · rfl
        · exact Below.refl _ _
        · exact rfl
        · trivial
      · intro V W hb hd K hK _
        have h6 : IsC (y) (V 19) W := hd 6 (by kernel_rfl)
        have h11 : (V 24) = .agg #[.int .i64 fp, .int .i64 fl, .int .i64 fw] := hd 11 (by kernel_rfl)
        have h16 : (V 29) = .bool xq := hd 16 (by kernel_rfl)
        clear hd
        obtain ⟨p1, q1, r1, p2, q2, r2, p3, q3, r3, e6, hl6⟩ := h6.form
        clear h6
        go_wp2_with fail
        refine hK _ _ ?_ ?_ ?_ ?_
        · rfl
        · exact Below.refl _ _
        · exact ⟨_, _, _, rfl, hl6⟩
        · trivial
      · intro V W hb hd K hK _
        have h17 : ∃ a b d, (V 30) = vR ⟨a, b, d, y, ⟨fp, fl, fw⟩, xq⟩ ∧ Lies W a b d y := hd 17 (by kernel_rfl)
        clear hd
        obtain ⟨a, b, d, e17, hl17⟩ := h17
        obtain ⟨⟨p1, q1, r1, e1⟩, ⟨p2, q2, r2, e2⟩, ⟨p3, q3, r3, e3⟩⟩ := (show Forms (⟨a, b, d, y, ⟨fp, fl, fw⟩, xq⟩ : Rp) from Lies.forms (x := ⟨a, b, d, y, ⟨fp, fl, fw⟩, xq⟩) hl17)
        simp only [] at e1 e2 e3
        subst e1 e2 e3
        unfold vR at e17
        simp only [] at e17
        have HL17 := Lib.hid hl17
        clear hl17
        go_wp2_with fail
        refine hK _ _ ?_ ?_ ?_ ?_
        · rfl
        · exact (Below.refl _ _).alloc (Nat.le_refl _) _
        · exact ⟨_, _, _, _, rfl, one_rep (x := ⟨_, _, _, y, ⟨fp, fl, fw⟩, xq⟩) HL17.out⟩
        · trivial
      · intro V W hb hd hap
        have h0 : (V 13) = u4 := hd 0 (by decide)
        have h18 : ∃ g a b d, (V 31) = .slice (some ⟨g, 0, none⟩) 1 1 ∧ RRow W (V 31) [⟨a, b, d, y, ⟨fp, fl, fw⟩, xq⟩] := hd 18 (by decide)
        clear hd hap
        simp only [List.drop_succ_cons, List.drop_zero]
        obtain ⟨g, a, b, d, e31, hone⟩ := h18
        rw [e31] at hone
        have HON := Lib.hid hone
        have HGA := Lib.hid (hga.out.below hb)
        have HGB := Lib.hid (hgb.out.below hb)
        have HW := Lib.hid (below_then hw.out (Nat.le_refl _) hb)
        have HBW := Lib.hid hb
        have hsz := HW.out.size
        clear hone hb
        go_wp2_with (at_builtin; refine wpList_append_reps rfl (.tmp 13) (.tmp 31) rfl Tryz.underlying39 info_Rep w.heap.size u4 k _ (by first | exact h0 | rfl) HGA.out.row ⟨g, 0, none⟩ 1 1 [⟨a, b, d, y, ⟨fp, fl, fw⟩, xq⟩] (by first | exact e31 | rfl) HON.out.row (fun x hx => (HON.out.con x hx).forms) (Or.inl (by decide)) (by omega) hsz ?_)
        intro v4 w4 hsp hgr hkp hloc
        have HX1 := Lib.hid (HON.out.con _ (List.mem_singleton.2 rfl))
        have HG4 := Lib.hid (HGA.out.more HN0.out HX1.out hsp hgr)
        have HB4 := Lib.hid (HGB.out.beside HGA.out HN0.out (by decide) hgr)
        have HW4 := Lib.hid (HGA.out.belowB HW.out hgr hsz)
        have hw4s := HW4.out.size
        clear hsp hgr hkp hloc e31 HGA HGB HW HBW HON
        go_wp2_with fail
        refine wp_region_told [] 19 [false, false, false, false, false, false, false, false, false, false, false, false, false, false, false, false, false, false, false, false, false, false, false, false, false, false, false, false, false, false, false, false, false, true, true, true, true, true, true, true, true, true, true, true, true, true, true, true, true, true, true, true, false, false, false]
          [sLit (u5),
    sLit (.slice (some ⟨xb, xoff, none⟩) n cap),
    sLit (.int .i64 k),
    sLit (.pointer (some ⟨xb, xoff + k * 5, none⟩)),
    sLit (.pointer (some ⟨xb, xoff + k * 5, none⟩)),
    sLit (.slice xo xn xc),
    sOne (IsC (y)) (fun _ _ _ h hb => h.below hb),
    sLit (.slice (some ⟨xb, xoff, none⟩) n cap),
    sLit (.int .i64 k),
    sLit (.pointer (some ⟨xb, xoff + k * 5, none⟩)),
    sLit (.pointer (some ⟨xb, xoff + k * 5 + 1, none⟩)),
    sLit (.agg #[.int .i64 fp, .int .i64 fl, .int .i64 fw]),
    sLit (.slice (some ⟨xb, xoff, none⟩) n cap),
    sLit (.int .i64 k),
    sLit (.pointer (some ⟨xb, xoff + k * 5, none⟩)),
    sLit (.pointer (some ⟨xb, xoff + k * 5 + 4, none⟩)),
    sLit (.bool xq),
    sOne (fun v W => ∃ a b d, v = vR ⟨a, b, d, y, ⟨fp, fl, fw⟩, xq⟩ ∧ Lies W a b d y) (fun _ _ _ h hb => h.elim fun a h => h.elim fun b h => h.elim fun d h => ⟨a, b, d, h.1, h.2.below hb⟩),
    sOne (fun v W => ∃ g a b d, v = .slice (some ⟨g, 0, none⟩) 1 1 ∧ RRow W v [⟨a, b, d, y, ⟨fp, fl, fw⟩, xq⟩]) (fun _ _ _ h hb => h.elim fun g h => h.elim fun a h => h.elim fun b h => h.elim fun d h => ⟨g, a, b, d, h.1, h.2.below hb⟩)] (by kernel_rfl) (by kernel_rfl) (by kernel_rfl) (fun F hF => ?_)
        simp only [over, overL, Nat.reduceAdd] at hF
        obtain rfl := funext hF
        clear hF
        refine ⟨⟨?_, ?_, ?_, ?_, ?_, ?_, ?_, ?_, ?_, ?_, ?_, ?_, ?_, ?_, ?_, ?_, ?_, ?_, ?_, trivial⟩, ?_⟩
        · intro V W hb hd K hK _
          clear hd
          go_wp2_with fail
          refine hK _ _ ?_ ?_ ?_ ?_
          · rfl
          · exact Below.refl _ _
          · exact rfl
          · trivial
        · intro V W hb hd K hK _
          clear hd
          go_wp2_with fail
          refine hK _ _ ?_ ?_ ?_ ?_
          · rfl
          · exact Below.refl _ _
          · exact rfl
          · trivial
        · intro V W hb hd K hK _
          clear hd
          go_wp2_with fail
          refine hK _ _ ?_ ?_ ?_ ?_
          · rfl
          · exact Below.refl _ _
          · exact rfl
          · trivial
        · intro V W hb hd K hK _
          have h1 : (V 34) = .slice (some ⟨xb, xoff, none⟩) n cap := hd 1 (by kernel_rfl)
          have h2 : (V 35) = .int .i64 k := hd 2 (by kernel_rfl)
          clear hd
          go_wp2_with fail
          refine hK _ _ ?_ ?_ ?_ ?_
          · rfl
          · exact Below.refl _ _
          · exact rfl
          · trivial
        · intro V W hb hd K hK _
          have h3 : (V 36) = .pointer (some ⟨xb, xoff + k * 5, none⟩) := hd 3 (by kernel_rfl)
          clear hd
          go_wp2_with fail
          refine hK _ _ ?_ ?_ ?_ ?_
          · rfl
          · exact Below.refl _ _
          · exact rfl
          · trivial
        · intro V W hb hd K hK _
          have h4 : (V 37) = .pointer (some ⟨xb, xoff + k * 5, none⟩) := hd 4 (by kernel_rfl)
          clear hd
          obtain ⟨hbl, a0, a1, a2, a3, a4⟩ := HAT.out W (below_then HW4.out (Nat.le_refl _) hb)
          simp only [] at a0 a1 a2 a3 a4
          go_wp2_with fail
          refine hK _ _ ?_ ?_ ?_ ?_
          · rfl
          · exact Below.refl _ _
          · exact rfl
          · trivial
        · intro V W hb hd K hK _
          have h5 : (V 38) = .slice xo xn xc := hd 5 (by kernel_rfl)
          clear hd
          go_wp2_with fail
          refine (HRO.out W (below_then HW4.out (Nat.le_refl _) hb)).mono ?_
          rintro e w1 ⟨v1, rfl, hv1, hb1⟩
          go_wp2_with fail
          refine hK _ _ ?_ ?_ ?_ ?_
          · rfl
          · exact hb1
          · exact hv1
          · trivial
        · intro V W hb hd K hK _
          clear hd
          go_wp2_with fail
          refine hK _ _ ?_ ?_ ?_ ?_
          · rfl
          · exact Below.refl _ _
          · exact rfl
          · trivial
        · intro V W hb hd K hK _
          clear hd
          go_wp2_with fail
          refine hK _ _ ?_ ?_ ?_ ?_
          · rfl
          · exact Below.refl _ _
          · exact rfl
          · trivial
        · intro V W hb hd K hK _
          have h7 : (V 40) = .slice (some ⟨xb, xoff, none⟩) n cap := hd 7 (by kernel_rfl)
          have h8 : (V 41) = .int .i64 k := hd 8 (by kernel_rfl)
          clear hd
          go_wp2_with fail
          refine hK _ _ ?_ ?_ ?_ ?_
          · rfl
          · exact Below.refl _ _
          · exact rfl
          · trivial
        · intro V W hb hd K hK _
          have h9 : (V 42) = .pointer (some ⟨xb, xoff + k * 5, none⟩) := hd 9 (by kernel_rfl)
          clear hd
          go_wp2_with fail
          refine hK _ _ ?_ ?_ ?_ ?_
          · rfl
          · exact Below.refl _ _
          · exact rfl
          · trivial
        · intro V W hb hd K hK _
          have h10 : (V 43) = .pointer (some ⟨xb, xoff + k * 5 + 1, none⟩) := hd 10 (by kernel_rfl)
          clear hd
          obtain ⟨hbl, a0, a1, a2, a3, a4⟩ := HAT.out W (below_then HW4.out (Nat.le_refl _) hb)
          simp only [] at a0 a1 a2 a3 a4
          go_wp2_with fail
          refine hK _ _ ?_ ?_ ?_ ?_
          · rfl
          · exact Below.refl _ _
          · exact rfl
          · trivial
        · intro V W hb hd K hK _
          clear hd
          go_wp2_with fail
          refine hK _ _ ?_ ?_ ?_ ?_
          · rfl
          · exact Below.refl _ _
          · exact rfl
          · trivial
        · intro V W hb hd K hK _
          clear hd
          go_wp2_with fail
          refine hK _ _ ?_ ?_ ?_ ?_
          · rfl
          · exact Below.refl _ _
          · exact rfl
          · trivial
        · intro V W hb hd K hK _
          have h12 : (V 45) = .slice (some ⟨xb, xoff, none⟩) n cap := hd 12 (by kernel_rfl)
          have h13 : (V 46) = .int .i64 k := hd 13 (by kernel_rfl)
          clear hd
          go_wp2_with fail
          refine hK _ _ ?_ ?_ ?_ ?_
          · rfl
          · exact Below.refl _ _
          · exact rfl
          · trivial
        · intro V W hb hd K hK _
          have h14 : (V 47) = .pointer (some ⟨xb, xoff + k * 5, none⟩) := hd 14 (by kernel_rfl)
          clear hd
          go_wp2_with fail
          refine hK _ _ ?_ ?_ ?_ ?_
          · rfl
          · exact Below.refl _ _
          · exact rfl
          · trivial
        · intro V W hb hd K hK _
          have h15 : (V 48) = .pointer (some ⟨xb, xoff + k * 5 + 4, none⟩) := hd 15 (by kernel_rfl)
          clear hd
          obtain ⟨hbl, a0, a1, a2, a3, a4⟩ := HAT.out W (below_then HW4.out (Nat.le_refl _) hb)
          simp only [] at a0 a1 a2 a3 a4
          go_wp2_with fail
          refine hK _ _ ?_ ?_ ?_ ?_
          · rfl
          · exact Below.refl _ _
          · exact rfl
          · trivial
        · intro V W hb hd K hK _
          have h6 : IsC (y) (V 39) W := hd 6 (by kernel_rfl)
          have h11 : (V 44) = .agg #[.int .i64 fp, .int .i64 fl, .int .i64 fw] := hd 11 (by kernel_rfl)
          have h16 : (V 49) = .bool xq := hd 16 (by kernel_rfl)
          clear hd
          obtain ⟨p1, q1, r1, p2, q2, r2, p3, q3, r3, e6, hl6⟩ := h6.form
          clear h6
          go_wp2_with fail
          refine hK _ _ ?_ ?_ ?_ ?_
          · rfl
          · exact Below.refl _ _
          · exact ⟨_, _, _, rfl, hl6⟩
          · trivial
        · intro V W hb hd K hK _
          have h17 : ∃ a b d, (V 50) = vR ⟨a, b, d, y, ⟨fp, fl, fw⟩, xq⟩ ∧ Lies W a b d y := hd 17 (by kernel_rfl)
          clear hd
          obtain ⟨a, b, d, e17, hl17⟩ := h17
          obtain ⟨⟨p1, q1, r1, e1⟩, ⟨p2, q2, r2, e2⟩, ⟨p3, q3, r3, e3⟩⟩ := (show Forms (⟨a, b, d, y, ⟨fp, fl, fw⟩, xq⟩ : Rp) from Lies.forms (x := ⟨a, b, d, y, ⟨fp, fl, fw⟩, xq⟩) hl17)
          simp only [] at e1 e2 e3
          subst e1 e2 e3
          unfold vR at e17
          simp only [] at e17
          have HL17 := Lib.hid hl17
          clear hl17
          go_wp2_with fail
          refine hK _ _ ?_ ?_ ?_ ?_
          · rfl
          · exact (Below.refl _ _).alloc (Nat.le_refl _) _
          · exact ⟨_, _, _, _, rfl, one_rep (x := ⟨_, _, _, y, ⟨fp, fl, fw⟩, xq⟩) HL17.out⟩
          · trivial
        · intro V W hb hd hap
          have h0 : (V 33) = u5 := hd 0 (by decide)
          have h18 : ∃ g a b d, (V 51) = .slice (some ⟨g, 0, none⟩) 1 1 ∧ RRow W (V 51) [⟨a, b, d, y, ⟨fp, fl, fw⟩, xq⟩] := hd 18 (by decide)
          clear hd hap
          simp only [List.drop_succ_cons, List.drop_zero]
          obtain ⟨g2, a2, b2, d2, e51, hone⟩ := h18
          rw [e51] at hone
          have HON := Lib.hid hone
          have HGA := Lib.hid (HG4.out.below hb)
          have HGB := Lib.hid (HB4.out.below hb)
          have HW := Lib.hid (below_then HW4.out (Nat.le_refl _) hb)
          have hsz := HW.out.size
          clear hone hb
          go_wp2_with (at_builtin; refine wpList_append_reps rfl (.tmp 33) (.tmp 51) rfl Tryz.underlying40 info_RefR w.heap.size u5 k _ (by first | exact h0 | rfl) HGB.out.row ⟨g2, 0, none⟩ 1 1 [⟨a2, b2, d2, y, ⟨fp, fl, fw⟩, xq⟩] (by first | exact e51 | rfl) HON.out.row (fun x hx => (HON.out.con x hx).forms) (Or.inl (by decide)) (by omega) hsz ?_)
          intro v5 w5 hsp hgr hkp hloc
          have HX2 := Lib.hid (HON.out.con _ (List.mem_singleton.2 rfl))
          have HG5 := Lib.hid (HGB.out.more HN0.out HX2.out hsp hgr)
          have HA5 := Lib.hid (HGA.out.beside HGB.out HN0.out (by decide) hgr)
          have HW5 := Lib.hid (HGB.out.belowB HW.out hgr hsz)
          have HB5 := Lib.hid (show (RB ++ [(⟨a2, b2, d2, y, ⟨fp, fl, fw⟩, xq⟩ : Rp)]).map core = (T.take (k + 1)).map coreT by rw [List.map_append, hbc.out, HTK.out]; rfl)
          have HA6 := Lib.hid (show (RA ++ [(⟨a, b, d, y, ⟨fp, fl, fw⟩, xq⟩ : Rp)]).map core = (T.take (k + 1)).map coreT by rw [List.map_append, ha.out, HTK.out]; rfl)
          clear hsp hgr hkp hloc e51 HGA HGB HW HON
          go_wp2_with fail
          go_roundw
          case rel => exact ⟨k + 1, _, _, by omega, by go_num, HA6, HB5, HA5, HG5, HW5⟩
          case measure => simp [intOf]; omega
    · obtain rfl : k = n := by omega
      have htk : T.take k = T := List.take_of_length_le (by have := HN.out; omega)
      have HA6 := Lib.hid (show RA.map core = T.map coreT by rw [ha.out, htk])
      have HB6 := Lib.hid (show RB.map core = T.map coreT by rw [hbc.out, htk])
      clear htk
      go_wp2_with fail
      refine bodyPost_ret (v := .tuple #[u4, u5]) (by simp [results, Tryz.f6, go_sem]) rfl ?_
      exact ⟨_, _, RA, RB, rfl, hga.out.rrow, hgb.out.rrow, HA6.out, HB6.out, hw.out⟩
end Go.Proofs.YthdbilggnjjkhaaGreatDoor.Mut
