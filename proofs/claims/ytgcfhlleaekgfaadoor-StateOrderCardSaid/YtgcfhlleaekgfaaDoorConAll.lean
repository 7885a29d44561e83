/- The walk of state.Content.All (layer 8). -/
import Derived.Test.YtgcfhlleaekgfaaDoorConCat
import Derived.Test.YtgcfhlleaekgfaaDoorMutSort
namespace Go.Proofs.YtgcfhlleaekgfaaDoor.Mut
open Go.RowKit Go.Sort Go.Proofs.YtgcfhlleaekgfaaDoor.Ord

/-- All of a content, rising, in memory that the call has made. -/
def AllP (w : World) (c : Con) (e : Ending) (w' : World) : Prop :=
  ∃ g cap R, e = .returned (.slice (some ⟨g, 0, none⟩) c.all.length cap) ∧ Copied w' (.slice (some ⟨g, 0, none⟩) c.all.length cap) R w.heap.size ∧ (R.map (·.1)).Perm c.all ∧ (R.map (·.1)).Pairwise (fun a b => muC a b ≤ 0) ∧ RowKit.Below w.heap.size w w'
theorem Copied.sorted {base g cap n : Nat} {w w' : World} {R R' : List Ro} (h : Copied w (.slice (some ⟨g, 0, none⟩) n cap) R base) (hp : R'.Perm R) (ho : w'.ownsRow base 34 10 (.slice (some ⟨g, 0, none⟩) n cap) R'.length (R'.flatMap enM)) (hg : w.grownBy w' (some g)) : Copied w' (.slice (some ⟨g, 0, none⟩) n cap) R' base := by
  refine ⟨ho, fun x hx => ?_⟩
  have h1 := h.over x (hp.mem_iff.1 hx)
  exact h1.kept hg (rows_apart h1 h.row (by decide))
theorem Copied.okay {base g cap n : Nat} {w : World} {R : List Ro} (h : Copied w (.slice (some ⟨g, 0, none⟩) n cap) R base) (hs : ∀ x ∈ R, Small x.1) : ∀ x ∈ R, Okay w (some g) x := by
  intro x hx
  have h1 := h.over x hx
  refine ⟨fun w' hg => Lst.owned enS_len (by decide) rfl (h1.kept hg (rows_apart h1 h.row (by decide))), (hs x hx).over⟩
/-- slices.SortFunc of a row of copies. -/
theorem sort_copied (base g cap : Nat) (R : List Ro) (w : World) (h : Copied w (.slice (some ⟨g, 0, none⟩) R.length cap) R base) (hs : ∀ x ∈ R, Small x.1) (hn : R.length ≤ 1000000) :
    Calls Tryd.prog 16 #[.slice (some ⟨g, 0, none⟩) R.length cap, .func (.func 17) #[] #[]] w fun e w' =>
      e = .returned (.tuple #[]) ∧ ∃ R' : List Ro, R'.Perm R ∧ R'.Pairwise (fun a b => muC a.1 b.1 ≤ 0) ∧ Copied w' (.slice (some ⟨g, 0, none⟩) R.length cap) R' base ∧ w.grownBy w' (some g) := by
  refine (sort_some base g cap R w h.row (h.okay hs) hn).mono ?_
  rintro e w' ⟨rfl, R', hp, hs, ho, hg⟩
  exact ⟨rfl, R', hp, hs, h.sorted hp ho hg, hg⟩

set_option maxHeartbeats 4000000 in
set_option maxRecDepth 100000 in
theorem all_any (a b d : Value) (c : Con) (n : Nat) (w : World) (hc : Lies w a b d c) (hO : Okc c n) (hn : n ≤ 100000) :
    Calls Tryd.prog 9 #[.agg #[a, b, d]] w (AllP w c) := by
  obtain ⟨ao, na, ac, rfl⟩ := hc.cells.slice
  obtain ⟨bo, nb, bc, rfl⟩ := hc.wipes.slice
  obtain ⟨dd, nd, dc, rfl⟩ := hc.sibs.slice
  obtain ⟨A, eA, hA⟩ := hc.cells
  obtain ⟨B, eB, hBr⟩ := hc.wipes
  obtain ⟨D, eD, hD⟩ := hc.sibs
  have eall : (A ++ (B ++ D)).map (·.1) = c.all := by rw [List.map_append, List.map_append, eA, eB, eD]; rfl
  have hlen : (A ++ (B ++ D)).length = c.all.length := by rw [← eall, List.length_map]
  have hsm : ∀ x ∈ A ++ (B ++ D), Small x.1 := fun x hx => small_right (hO.right _ (by rw [← eall]; exact List.mem_map.2 ⟨x, hx, rfl⟩))
  have hlen2 := hO.len
  obtain ⟨L, hL⟩ : ∃ L, L = A ++ (B ++ D) := ⟨_, rfl⟩
  have HCat := Lib.hid (fun (z : World) (h : Cat3 (w.heap.size + 1) (.slice ao na ac) (.slice bo nb bc) (.slice dd nd dc) A B D z) => concat_any (w.heap.size + 1) _ _ _ A B D z h (by omega))
  rw [← hL] at eall hlen hsm HCat
  have HMR := Lib.hid (fun x (hx : x ∈ L) => show Over w x from by
    rw [hL] at hx
    rcases List.mem_append.1 hx with h | h
    · exact hA.over x h
    · rcases List.mem_append.1 h with h | h
      · exact hBr.over x h
      · exact hD.over x h)
  have HR := Lib.hid (And.intro hA (And.intro hBr hD))
  have HE := Lib.hid eall
  have HLEN := Lib.hid hlen
  have HSM := Lib.hid hsm
  have hln : L.length ≤ 100000 := by omega
  obtain ⟨N, hN⟩ : ∃ N, N = L.length := ⟨_, rfl⟩
  have HN := Lib.hid hN
  unfold AllP
  rw [← hlen, ← hN]
  rw [← hN] at hln
  clear hA hBr hD eall hlen hsm hc hO hL eA eB eD hlen2 hN
  go_enter Tryd.func9, Tryd.ntmps9
  go_wp2_with fail
  have hC3 := (C3.new (w.alloc (.cells #[.slice ao na ac, .slice bo nb bc, .slice dd nd dc] 25)) (.slice ao na ac) (.slice bo nb bc) (.slice dd nd dc))
  have hb0 := ((Below.refl _ w).alloc (Nat.le_refl _) (.cells #[.slice ao na ac, .slice bo nb bc, .slice dd nd dc] 25)).alloc (by simp) (.cells #[.slice ao na ac, .slice bo nb bc, .slice dd nd dc] 22)
  have h3 : Cat3 (w.heap.size + 1) (.slice ao na ac) (.slice bo nb bc) (.slice dd nd dc) A B D ((w.alloc (.cells #[.slice ao na ac, .slice bo nb bc, .slice dd nd dc] 25)).alloc (.cells #[.slice ao na ac, .slice bo nb bc, .slice dd nd dc] 22)) :=
    ⟨by simp, by go_simp, by go_simp, by go_simp, HR.out.1.below hb0, HR.out.2.1.below hb0, HR.out.2.2.below hb0⟩
  have HB0 := Lib.hid hb0
  refine (HCat.out _ h3).mono ?_
  rintro e w1 ⟨v1, rfl, hown1, hb1⟩
  have HB1 := Lib.hid (below_then HB0.out (Nat.le_refl _) hb1)
  have hm1 : MRow w1 v1 L := ⟨Lst.owned enM_len (by decide) rfl hown1, fun x hx => (HMR.out x hx).below HB1.out⟩
  have HM1 := Lib.hid hm1
  clear hC3 hb0 h3 hown1 hb1 hm1
  go_wp2_with fail
  refine (copies_any v1 L w1 HM1.out (fun x hx => (HSM.out x hx).over) (by have := HN.out; omega)).mono ?_
  rintro e w2 ⟨v2, R2, rfl, ⟨g, cap, rfl⟩, hmap, hcop, hb2⟩
  have HB2 := Lib.hid (below_then HB1.out (Nat.le_refl _) hb2)
  have hl2 : R2.length = L.length := by have := congrArg List.length hmap; simpa using this
  have hcop := hcop.base HB1.out.size
  have hs2 : ∀ x ∈ R2, Small x.1 := fun x hx => by
    have h1 : x.1 ∈ L.map (·.1) := by rw [← hmap]; exact List.mem_map.2 ⟨x, hx, rfl⟩
    obtain ⟨y, hy, e⟩ := List.mem_map.1 h1
    rw [← e]; exact HSM.out y hy
  rw [← hl2] at hcop
  have hsrt := sort_copied w.heap.size g cap R2 w2 hcop hs2 (by have := HN.out; omega)
  rw [hl2, ← HN.out] at hsrt
  have HSRT := Lib.hid hsrt
  have HMP := Lib.hid hmap
  have hgb := (hcop.row.lt g rfl).1
  rw [← HN.out]
  clear hsrt hmap hcop hl2 hs2 hb2
  go_wp2_with fail
  refine HSRT.out.mono ?_
  rintro e w3 ⟨rfl, R3, hp, hs, hcop, hg⟩
  have HB3 := Lib.hid (HB2.out.grown hg HB2.out.size (fun k hk => by have e2 : g = k := (by injection hk); omega))
  have HF := Lib.hid (And.intro hp (And.intro hs hcop))
  clear hp hs hcop hg
  go_wp2_with fail
  go_ret
  refine ⟨g, cap, R3, rfl, HF.out.2.2, ?_, List.pairwise_map.2 HF.out.2.1, HB3.out⟩
  have h1 := HF.out.1.map (·.1)
  rw [HMP.out, HE.out] at h1
  exact h1
end Go.Proofs.YtgcfhlleaekgfaaDoor.Mut
