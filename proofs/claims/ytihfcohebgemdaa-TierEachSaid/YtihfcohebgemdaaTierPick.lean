/- Layer 18 (tier): Pick. PRINTED by wip/gentierpick.py. -/
import Derived.Test.YtihfcohebgemdaaTierGroups
import Derived.Test.YtihfcohebgemdaaTierRows
set_option linter.unusedSimpArgs false
set_option linter.unusedVariables false
namespace Go.Proofs.Ytihfcohebgemdaa.Tier
open Go.RowKit Go.Proofs.Ytihfcohebgemdaa.Ints Go.Proofs.Ytihfcohebgemdaa.Spare

/-- What is picked comes back. -/
def PickP (w : World) (p : List Int) (e : Ending) (w' : World) : Prop := ∃ bo bc, e = .returned (.slice bo p.length bc) ∧ IRow w' (.slice bo p.length bc) p ∧ Below w.heap.size w w'
theorem pickOf_skip (g : List Int) (gs : List (List Int)) (h : ¬ 4 ≤ g.length) : pickOf (g :: gs) = pickOf gs := by
  rw [pickOf, if_neg h]
theorem pickOf_take (g : List Int) (gs : List (List Int)) (h : 4 ≤ g.length) : pickOf (g :: gs) = g.mergeSort leB := by
  rw [pickOf, if_pos h]
theorem group_small {l : List Int} {g : List Int} (hg : g ∈ groups l) : g.length ≤ l.length := by
  have hi := (groupF_inv l (sortF l)).flat
  have h1 : g.length ≤ (groups l).flatten.length := by
    obtain ⟨a, b, e⟩ := List.append_of_mem hg
    rw [e]; simp; omega
  unfold groups at h1
  rw [hi] at h1
  have h2 := List.Perm.length_eq ((List.perm_ext_iff_of_nodup ((sortF_sorted l).1.imp fun {a b} h e => by subst e; exact R_asymm h h) (places_nodup _)).2 (sortF_sorted l).2)
  have h3 : (places l.length).length = l.length := by unfold places; simp
  omega
theorem groups_small (l : List Int) : (groups l).length ≤ l.length := by
  have hi := (groupF_inv l (sortF l))
  have h2 := List.Perm.length_eq ((List.perm_ext_iff_of_nodup ((sortF_sorted l).1.imp fun {a b} h e => by subst e; exact R_asymm h h) (places_nodup _)).2 (sortF_sorted l).2)
  have h3 : (places l.length).length = l.length := by unfold places; simp
  have h4 : ∀ (gs : List (List Int)), (∀ g ∈ gs, g ≠ []) → gs.length ≤ gs.flatten.length := fun gs => by
    induction gs with
    | nil => intro _; exact Nat.le_refl _
    | cons g gs ih =>
      intro h
      have h5 := ih fun x hx => h x (by simp [hx])
      have h6 := List.length_pos_iff.2 (h g (by simp))
      rw [List.flatten_cons, List.length_append, List.length_cons]
      omega
  have h7 := h4 (groups l) hi.ne
  unfold groups at h7 ⊢
  rw [hi.flat] at h7
  omega

set_option maxRecDepth 100000 in
set_option maxHeartbeats 4000000 in
theorem pick_any (ao : Option Addr) (ac : Nat) (l : List Int) (w : World) (ha : IRow w (.slice ao l.length ac) l) (hl : l.length ≤ 60) (hx : ∀ x ∈ l, x ≤ 9223372036854775807) :
    Calls Try.prog 8 #[.slice ao l.length ac] w (PickP w (pickF l)) := by
  have HG0 := Lib.hid (groups_any ao ac l w ha hl hx)
  have HGL := Lib.hid (fun g hg => group_small (l := l) (g := g) hg)
  have HGN := Lib.hid (groups_small l)
  clear ha hx
  go_enter Try.func8, Try.ntmps8
  go_wp2_with fail
  refine HG0.out.mono ?_
  rintro e W1 ⟨base, ov, V, rfl, hgs, hvm, hbase, hb1⟩
  have hvl : V.length ≤ 60 := by
    have := HGN.out
    rw [← hvm, List.length_map] at this
    omega
  have HGS := Lib.hid hgs
  have HVM := Lib.hid hvm
  have HB := Lib.hid hb1
  obtain ⟨vo, vc, rfl⟩ := row_form hgs.outer
  clear hgs hvm hb1
  go_wp2_with fail
  go_loopw [8] (fun iv wr => ∃ k : Nat, k ≤ V.length ∧ iv = .int .i64 k ∧ wr = W1 ∧ Hid (pickOf ((V.drop k).map fun p => p.2) = pickF l)) (fun iv _ => V.length - (intOf iv).toNat)
  case atStart => exact ⟨0, by omega, rfl, rfl, Lib.hid (by rw [List.drop_zero, HVM.out]; rfl)⟩
  case round =>
    obtain ⟨k, hk, rfl, rfl, hpk⟩ := hrel
    by_cases hlt : k < V.length
    · obtain ⟨⟨v, g⟩, hvk⟩ : ∃ p, V[k]? = some p := ⟨_, List.getElem?_eq_getElem hlt⟩
      have hmem : (v, g) ∈ V := List.mem_of_getElem? hvk
      have hdr : V.drop k = (v, g) :: V.drop (k + 1) := by
        rw [List.drop_eq_getElem_cons hlt]
        rw [List.getElem?_eq_getElem hlt] at hvk
        injection hvk with hvk
        rw [hvk]
      obtain ⟨og, e2⟩ : ∃ og, vo = some ⟨og, 0, none⟩ := by
        obtain ⟨g', cap', e, _⟩ := own_some HGS.out.outer (by omega)
        injection e with e
        exact ⟨g', e⟩
      subst e2
      have co : wr.cell? ⟨og, k, none⟩ = some v := by
        have h := World.ownsRow.cellAt HGS.out.outer k (by omega)
        rw [h, List.getElem?_map, hvk]; rfl
      have hin := HGS.out.inner (v, g) hmem
      obtain ⟨ig, gc, e1, hig, higl, hgc⟩ := HGS.out.has hmem
      simp only [] at e1
      subst e1
      have hgl : g.length ≤ 60 := by
        have h := HGL.out g (by rw [← HVM.out]; exact List.mem_map_of_mem hmem)
        omega
      have HIN := Lib.hid hin.1
      have HPK := Lib.hid (show pickOf (g :: ((V.drop (k + 1)).map fun p => p.2)) = pickF l from by rw [← hpk.out, hdr]; rfl)
      clear hvk hmem hdr hin hpk
      by_cases h4 : 4 ≤ g.length
      · go_wp2_with fail
        refine (sort_own HIN.out (by omega)).mono ?_
        rintro e W2 ⟨rfl, hr2, hg2⟩
        have HE := Lib.hid (show g.mergeSort leB = pickF l from by rw [← HPK.out, pickOf_take _ _ h4])
        have hlen := List.length_mergeSort (le := leB) g
        have hr3 : IRow W2 (.slice (some ⟨ig, 0, none⟩) g.length gc) (g.mergeSort leB) := Lst.of_owns (fun _ => rfl) (by decide) hr2
        have HR := Lib.hid hr3
        have HB2 := Lib.hid (show Below w.heap.size w W2 from HB.out.grown hg2 HB.out.size (fun j hj => by simp [Value.ownBlock] at hj; omega))
        clear hr2 hg2 hr3 co
        go_wp2_with fail
        go_ret
        refine ⟨some ⟨ig, 0, none⟩, gc, ?_, ?_, HB2.out⟩
        · rw [← HE.out, hlen]; rfl
        · have h := HR.out
          rw [← HE.out, hlen]
          exact h
      · have HN := Lib.hid (show pickOf ((V.drop (k + 1)).map fun p => p.2) = pickF l from by rw [← HPK.out, pickOf_skip _ _ h4])
        go_wp2_with fail
        go_roundw
        case rel => exact ⟨k + 1, by omega, by go_num, trivial, HN⟩
        case measure => simp [intOf]; omega
    · have hkn : k = V.length := by omega
      have HE := Lib.hid (show pickF l = [] from by rw [← hpk.out, hkn, List.drop_length]; rfl)
      clear hkn
      go_wp2_with fail
      go_ret
      rw [HE.out]
      exact ⟨none, 0, rfl, Lst.nil _, HB.out⟩
end Go.Proofs.Ytihfcohebgemdaa.Tier
