/- Layer 6 (dots): a set of writes in memory; Known, Rest, Words, Has, packed. -/
import Derived.Test.YtihfcohebgemdaaDotCompact
set_option linter.unusedSimpArgs false
set_option linter.unusedVariables false
namespace Go.Proofs.Ytihfcohebgemdaa.Dots
open Go.RowKit Go.Maps Go.Sort Go.Proofs.Ytihfcohebgemdaa.Vec Go.Proofs.Ytihfcohebgemdaa.Spare

theorem info_parts_D : ∃ i : TypeInfo, Try.prog.info? 33 = some i ∧ i.zero = some (.agg #[.int .i64 0, .int .i64 0]) ∧ i.size = 2 ∧ i.bytes = 16 := by
  have h := info_D
  cases hq : Try.prog.info? 33 with
  | none => simp [hq] at h
  | some i => simp [hq] at h; exact ⟨i, rfl, h.1, h.2.1, h.2.2⟩
/-- These writes, in a row of the call's own with spare zero cells. -/
abbrev SpD (w : World) (base : Nat) (v : Value) (l : List P) : Prop := Spare w base 33 [.int .i64 0, .int .i64 0] v l.length (l.flatMap enD)
theorem spD_row {w : World} {base : Nat} {v : Value} {l : List P} (h : SpD w base v l) : DRow w v l := Lst.of_owns enD_len (by decide) (Spare.own h)
theorem cells_one (l : List P) : ∀ u ∈ l.flatMap enD, u.oneCell' = true := by
  intro u hu
  obtain ⟨x, _, hx⟩ := List.mem_flatMap.1 hu
  exact enD_one x u hx
set_option maxHeartbeats 2000000 in
set_option maxRecDepth 100000 in
theorem clone_any (v : Value) (l : List P) (w : World) (ha : DRow w v l) (hl : l.length ≤ 1000000) :
    Calls Try.prog 46 #[v] w fun e w' => ∃ v', e = .returned v' ∧ SpD w' w.heap.size v' l ∧ Below w.heap.size w w' := by
  have q22 : ∀ (w : World) (a : Option Addr) (n c n' c' : Nat), (binOp .eql 31 (.slice a n c) (.slice none n' c')).run Try.prog w = .ok (.bool a.isNone) w := fun w a n c n' c' => Lib.run_eql_slice_nil w _ _ a n c n' c' Try.underlying31
  obtain ⟨i0, hi, hz0, hz1, hz2⟩ := info_parts_D
  have HI := Lib.hid (And.intro hi (And.intro hz0 (And.intro hz1 hz2)))
  clear hi hz0 hz1 hz2
  obtain ⟨ao, ac, rfl, -, -⟩ := Lst.form ha
  cases ao with
  | none =>
    have h0 : l = [] := by
      cases l with
      | nil => rfl
      | cons x l => obtain ⟨b, off, e, _⟩ := Lst.get ha (show 0 < (x :: l).length by simp); cases e
    subst h0
    clear ha
    go_enter Try.func46, Try.ntmps46
    go_wp2_with fail
    go_ret
    exact ⟨_, rfl, Spare.nil _ _ _ _, Below.refl _ _⟩
  | some a =>
    have HN := Lib.hid (Mut.lst_src enD_len (by decide) (ha.alloc (.cells #[] 33)))
    obtain ⟨n, hn⟩ : ∃ n, n = l.length := ⟨_, rfl⟩
    rw [← hn] at HN ha hl ⊢
    have HLN := Lib.hid hn
    have HSP := Lib.hid (Mut.spare_lit w w.heap.size 33 [.int .i64 0, .int .i64 0] (by decide) (Nat.le_refl _))
    clear ha hn
    go_enter Try.func46, Try.ntmps46
    go_wp2_with (at_builtin; refine wpList_append_spareAny rfl _ _ 31 rfl w.heap.size 33 i0 (.agg #[.int .i64 0, .int .i64 0]) [.int .i64 0, .int .i64 0] 16 Try.underlying31 HI.out.1 HI.out.2.1 rfl HI.out.2.2.1 HI.out.2.2.2 (by decide) (.slice (some ⟨w.heap.size, 0, none⟩) 0 0) 0 [] rfl HSP.out (some a) n ac (l.flatMap enD) rfl ?qc1 ?qc2 ?qc3 ?qc4 ?qc5 ?qc6 ?_)
    case qc1 => rw [flatMap_len enD_len, ← HLN.out]; rfl
    case qc2 => exact HN.out
    case qc3 => exact cells_one l
    case qc4 => unfold maxLen; omega
    case qc5 => omega
    case qc6 => simp
    intro v' w1 hown hgrow _ _
    have HE := Lib.hid (show SpD w1 w.heap.size v' l ∧ Below w.heap.size w w1 from ⟨by unfold SpD; rw [← HLN.out]; simpa using hown, ((Below.refl _ w).alloc (Nat.le_refl _) _).grown hgrow (by simp) (by intro k hk; simp [Value.ownBlock] at hk; omega)⟩)
    clear hown hgrow
    go_wp2_with fail
    go_ret
    exact ⟨_, rfl, HE.out.1, HE.out.2⟩

/-- A set that reads as a row. -/
def SAt (w : World) (v : Value) (L : List P) : Prop := ∃ o ao ac, v = .agg #[.map o, .slice ao (rs L).length ac] ∧ OMap w o (kn L) ∧ DRow w (.slice ao (rs L).length ac) (rs L)
theorem SAt.below {w w' : World} {v : Value} {L : List P} (h : SAt w v L) (hb : Below w.heap.size w w') : SAt w' v L := by
  obtain ⟨o, ao, ac, e, h1, h2⟩ := h
  exact ⟨o, ao, ac, e, h1.below hb, Lst.below h2 hb⟩
/-- A row that a set may be. -/
structure Nice (L : List P) : Prop where
  fine : Fine L
  sm : Sm L
  len : L.length ≤ 250
theorem Nice.kn {L : List P} (h : Nice L) : Vec.Good (kn L) ∧ Sm (Dots.kn L) ∧ (Dots.kn L).length ≤ 250 := by
  have hg := kn_good h.fine
  refine ⟨hg, fun x hx => ?_, Nat.le_trans (kn_len L) h.len⟩
  have hr := (right_iff x).1 (hg.2 x hx)
  have he := getF_some hg.1 hx
  exact h.sm x ((kn_high h.fine x.who hr.1).1 x.n hr.2.1 (by omega))
theorem Nice.rs {L : List P} (h : Nice L) : Fine (rs L) ∧ Sm (Dots.rs L) ∧ (Dots.rs L).length ≤ 250 :=
  ⟨rs_fine h.fine, fun x hx => h.sm x (mem_over.1 hx).1, Nat.le_trans (rs_len L) h.len⟩

theorem join_nil (K : List P) : joinF K [] = K := rfl
theorem known_any (v : Value) (L : List P) (w : World) (hv : SAt w v L) (hL : Nice L) :
    Calls Try.prog 39 #[v] w (MapPost w (kn L)) := by
  obtain ⟨o, ao, ac, rfl, h1, h2⟩ := hv
  have HJ := Lib.hid (fun w' (hb : Below w.heap.size w w') => join_any o none (kn L) [] w' hL.kn.1 hL.kn.2.1 Good.nil (fun x hx => by cases hx) (h1.below hb) rfl (by have := hL.kn.2.2; omega) (by simp))
  clear h1 h2
  go_enter Try.func39, Try.ntmps39
  go_wp2_with fail
  refine (HJ.out _ ((Below.refl _ _).alloc (Nat.le_refl _) _)).mono ?_
  rintro e w2 ⟨b, rfl, hv2, hb0, hb2⟩
  rw [join_nil] at hv2
  have HE := Lib.hid (And.intro hv2 (And.intro hb0 (below_then ((Below.refl w.heap.size w).alloc (Nat.le_refl _) (.cells #[.map o, .slice ao (rs L).length ac] 40)) (Nat.le_refl _) hb2)))
  clear hv2 hb0 hb2
  go_wp2_with fail
  go_ret
  exact ⟨b, rfl, HE.out.1, by have := HE.out.2.1; simp at this; omega, HE.out.2.2⟩
/-- A new row comes back. -/
def NewP (w : World) (l : List P) (e : Ending) (w' : World) : Prop := ∃ v', e = .returned v' ∧ SpD w' w.heap.size v' l ∧ Below w.heap.size w w'
theorem rest_any (v : Value) (L : List P) (w : World) (hv : SAt w v L) (hL : Nice L) :
    Calls Try.prog 40 #[v] w (NewP w (rs L)) := by
  obtain ⟨o, ao, ac, rfl, h1, h2⟩ := hv
  have HC := Lib.hid (fun w' (hb : Below w.heap.size w w') => clone_any _ (rs L) w' (Lst.below h2 hb) (by have := hL.rs.2.2; omega))
  clear h1 h2
  go_enter Try.func40, Try.ntmps40
  go_wp2_with fail
  refine (HC.out _ ((Below.refl _ _).alloc (Nat.le_refl _) _)).mono ?_
  rintro e w2 ⟨v', rfl, hs, hb2⟩
  obtain ⟨vo, vc, rfl⟩ := row_form (Spare.own hs)
  have HE := Lib.hid (And.intro (show SpD w2 w.heap.size (.slice vo (rs L).length vc) (rs L) from ⟨own_base (Spare.own hs) (by simp), hs.rest⟩) (below_then ((Below.refl w.heap.size w).alloc (Nat.le_refl _) (.cells #[.map o, .slice ao (rs L).length ac] 40)) (Nat.le_refl _) hb2))
  clear hs hb2
  go_wp2_with fail
  go_ret
  exact ⟨_, rfl, HE.out.1, HE.out.2⟩
theorem words_any (v : Value) (L : List P) (w : World) (hv : SAt w v L) (hL : Nice L) :
    Calls Try.prog 41 #[v] w fun e w' => e = .returned (.int .i64 (2 * ((kn L).length + (rs L).length : Nat))) ∧ Below w.heap.size w w' := by
  obtain ⟨o, ao, ac, rfl, h1, h2⟩ := hv
  have hl := fun ty => (h1.below ((Below.refl w.heap.size w).alloc (Nat.le_refl _) (.cells #[.map o, .slice ao (rs L).length ac] 40))).len ty
  have k1 := hL.kn.2.2
  have k2 := hL.rs.2.2
  clear h1 h2
  generalize (kn L).length = a at *
  generalize (rs L).length = b at *
  go_enter Try.func41, Try.ntmps41
  go_wp2_with fail
  go_ret
  exact ⟨ret_int (by omega), (Below.refl _ _).alloc (Nat.le_refl _) _⟩

/-- Is it in it? -/
theorem has_eq {L : List P} (h : Fine L) (d : P) : (knowsF (kn L) d || hasD (rs L) d) = hasD L d := by
  have e1 := mem_parts h d
  have e2 := hasD_iff L d
  have e3 := hasD_iff (rs L) d
  have e4 : knowsF (kn L) d = true ↔ inK (kn L) d := by unfold knowsF inK; simp
  cases hq : hasD L d with
  | true =>
    rcases e1.1 (e2.1 hq) with h1 | h1
    · rw [e4.2 h1]; rfl
    · rw [e3.2 h1, Bool.or_true]
  | false =>
    have hn : ¬ d ∈ L := fun h => by rw [e2.2 h] at hq; cases hq
    cases h1 : knowsF (kn L) d with
    | true => exact (hn (e1.2 (Or.inl (e4.1 h1)))).elim
    | false => cases h2 : hasD (rs L) d with
      | true => exact (hn (e1.2 (Or.inr (e3.1 h2)))).elim
      | false => rfl
set_option maxHeartbeats 1000000 in
theorem has_any (v : Value) (L : List P) (d : P) (w : World) (hv : SAt w v L) (hL : Nice L) (d1 : -9223372036854775808 ≤ d.who) (d2 : d.who ≤ 9223372036854775807) :
    Calls Try.prog 16 #[v, vD d] w fun e w' => e = .returned (.bool (hasD L d)) ∧ Below w.heap.size w w' := by
  obtain ⟨o, ao, ac, rfl, h1, h2⟩ := hv
  have hb0 : Below w.heap.size w ((w.alloc (.cells #[.map o, .slice ao (rs L).length ac] 40)).alloc (.cells #[.int .i64 d.who, .int .i64 d.n] 33)) := ((Below.refl _ _).alloc (Nat.le_refl _) _).alloc (by simp) _
  have HB := Lib.hid (fun w' (hb : Below w.heap.size w w') => bs_any _ (rs L) d w' (Lst.below h2 hb) hL.rs.1.str (by have := hL.rs.2.2; omega))
  have HK := Lib.hid (fun w' (hb : Below w.heap.size w w') => knowsO_any o (kn L) d w' (h1.below hb) d1 d2)
  have HE := Lib.hid (has_eq hL.fine d)
  have HB0 := Lib.hid hb0
  clear h1 h2 hb0
  obtain ⟨q1, hq1⟩ : ∃ q, q = hasD (rs L) d := ⟨_, rfl⟩
  obtain ⟨q2, hq2⟩ : ∃ q, q = knowsF (kn L) d := ⟨_, rfl⟩
  rw [← hq1] at HB HE
  rw [← hq2] at HK HE
  rw [← HE.out]
  clear hq1 hq2 HE
  cases q1 <;> cases q2
  all_goals
    go_enter Try.func16, Try.ntmps16
    go_wp2_with fail
    refine (HB.out _ HB0.out).mono ?_
    rintro e w2 ⟨i, rfl, hb2⟩
    have HB2 := Lib.hid (below_then HB0.out (by simp) hb2)
    have c0 := (hb2.cell (p := ⟨w.heap.size, 0, none⟩) (by simp; omega)).trans (show ((w.alloc (.cells #[.map o, .slice ao (rs L).length ac] 40)).alloc (.cells #[.int .i64 d.who, .int .i64 d.n] 33)).cell? ⟨w.heap.size, 0, none⟩ = some (.map o) by go_simp)
    have c2 := (hb2.cell (p := ⟨w.heap.size + 1, 0, none⟩) (by simp)).trans (show ((w.alloc (.cells #[.map o, .slice ao (rs L).length ac] 40)).alloc (.cells #[.int .i64 d.who, .int .i64 d.n] 33)).cell? ⟨w.heap.size + 1, 0, none⟩ = some (.int .i64 d.who) by go_simp)
    have c3 := (hb2.cell (p := ⟨w.heap.size + 1, 1, none⟩) (by simp)).trans (show ((w.alloc (.cells #[.map o, .slice ao (rs L).length ac] 40)).alloc (.cells #[.int .i64 d.who, .int .i64 d.n] 33)).cell? ⟨w.heap.size + 1, 1, none⟩ = some (.int .i64 d.n) by go_simp)
    clear hb2
    go_wp2_with fail
    refine (HK.out _ HB2.out).mono ?_
    rintro e w3 ⟨rfl, hb3⟩
    have HB3 := Lib.hid (below_then HB2.out (Nat.le_refl _) hb3)
    clear hb3
    go_wp2_with fail
    go_ret
    exact ⟨rfl, HB3.out⟩
theorem has_lit (q : Bool) (v : Value) (L : List P) (d : P) (w : World) (h : hasD L d = q) (hv : SAt w v L) (hL : Nice L) (d1 : -9223372036854775808 ≤ d.who) (d2 : d.who ≤ 9223372036854775807) :
    Calls Try.prog 16 #[v, vD d] w fun e w' => e = .returned (.bool q) ∧ Below w.heap.size w w' := by
  subst h; exact has_any v L d w hv hL d1 d2
end Go.Proofs.Ytihfcohebgemdaa.Dots
