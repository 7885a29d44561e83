/- The walk of the law's alive (layer 8). -/
import Derived.Test.YtgcfhlleaekgfaaDoorConGreat
import Derived.KernelRfl
namespace Go.Proofs.YtgcfhlleaekgfaaDoor.Mut
open Go.RowKit Go.Sort Go.Proofs.YtgcfhlleaekgfaaDoor.Ord

def kB : ByteArray := ⟨#[107]⟩
def vB : ByteArray := ⟨#[118]⟩
def wB : ByteArray := ⟨#[119]⟩
def mA : Mu := ⟨1, 1, kB, ⟨#[]⟩, vB, 0, ⟨2, 0, 0⟩, []⟩
def mB : Mu := ⟨1, 2, kB, ⟨#[]⟩, ⟨#[]⟩, 0, ⟨3, 0, 0⟩, []⟩
def mC : Mu := ⟨1, 1, kB, ⟨#[]⟩, wB, 0, ⟨1, 0, 0⟩, []⟩
theorem rightA : rightF mA = true := by kernel_rfl
theorem rightB : rightF mB = true := by kernel_rfl
theorem rightC : rightF mC = true := by kernel_rfl
theorem leA : muC mA mB ≤ 0 := of_decide_eq_true (by kernel_rfl)
theorem leB : muC mB mB ≤ 0 := of_decide_eq_true (by kernel_rfl)
theorem leC : muC mC mB ≤ 0 := of_decide_eq_true (by kernel_rfl)
theorem alive_reps : Reps (Fits [mA, mB, mC]) ⟨[mB], [], []⟩ where
  fit := fun m h => fit_of h.2
  cells := fun m h => by
    rw [List.mem_singleton] at h; subst h
    exact ⟨⟨by simp, rightB⟩, by show ¬ (1 : Int) = 2; decide, by show ¬ (2 : Int) = 3; decide⟩
  wipes := fun _ h => by cases h
  sibs := fun m => ⟨fun h => (by cases h), fun h => by
    obtain ⟨⟨h1, -⟩, h2⟩ := h
    simp only [List.mem_cons, List.not_mem_nil, or_false] at h1
    rcases h1 with rfl | rfl | rfl <;> exact absurd h2 (by show ¬ (1 : Int) = 2; decide)⟩
  rc := List.pairwise_singleton _ _
  rw_ := List.Pairwise.nil
  rs := List.Pairwise.nil
  free := fun _ _ w hw => by cases hw
  alone := fun _ h => by cases h
  domW := fun x h1 h2 => by
    obtain ⟨h1, -⟩ := h1
    simp only [List.mem_cons, List.not_mem_nil, or_false] at h1
    rcases h1 with rfl | rfl | rfl
    · exact absurd h2.2 (by show ¬ (1 : Int) = 3; decide)
    · exact absurd h2.2 (by show ¬ (2 : Int) = 3; decide)
    · exact absurd h2.2 (by show ¬ (1 : Int) = 3; decide)
  domC := fun x h1 h2 => by
    obtain ⟨h1, -⟩ := h1
    simp only [List.mem_cons, List.not_mem_nil, or_false] at h1
    rcases h1 with rfl | rfl | rfl
    · exact Or.inl ⟨mB, by simp, rfl, leA⟩
    · exact Or.inl ⟨mB, by simp, rfl, leB⟩
    · exact Or.inl ⟨mB, by simp, rfl, leC⟩
def rA : Ro := (mA, .slice none 0 0)
def rB : Ro := (mB, .slice none 0 0)
def rC : Ro := (mC, .slice none 0 0)
theorem alive_row (w : World) (t : TypeId) : MRow (w.alloc (.cells ⟨enM rA ++ enM rB ++ enM rC⟩ t)) (.slice (some ⟨w.heap.size, 0, none⟩) 3 3) [rA, rB, rC] := by
  refine ⟨⟨_, 3, rfl, by decide, by decide, Or.inr ⟨_, _, rfl, by simp, fun i x hi j hj => ?_⟩⟩, fun x hx => ?_⟩
  · rw [cells_at (heap_alloc_new w _), Nat.zero_add]
    have : [rA, rB, rC].flatMap enM = enM rA ++ enM rB ++ enM rC := by simp
    rw [← this]
    exact flatMap_get enM_len _ i x hi j hj
  · simp only [List.mem_cons, List.not_mem_nil, or_false] at hx
    rcases hx with rfl | rfl | rfl <;> exact Lst.nil _
theorem small_of_right : ∀ x ∈ [rA, rB, rC], Small x.1 := by
  intro x hx
  simp only [List.mem_cons, List.not_mem_nil, or_false] at hx
  rcases hx with rfl | rfl | rfl
  · exact small_right rightA
  · exact small_right rightB
  · exact small_right rightC

set_option maxHeartbeats 4000000 in
set_option maxRecDepth 100000 in
theorem alive_any (w : World) (hT : Tabs w) : Calls Tryd.prog 10 #[] w fun e w' => e = .returned (.bool true) ∧ RowKit.Below w.heap.size w w' := by
  have HT := Lib.hid hT
  clear hT
  go_enter Tryd.func10, Tryd.ntmps10
  go_wp2_with fail
  have hrow := alive_row w 34
  have hb0 := (Below.refl _ w).alloc (Nat.le_refl _) (.cells ⟨enM rA ++ enM rB ++ enM rC⟩ 34)
  have hof := of_any _ [rA, rB, rC] _ (HT.out.below hb0) hrow (by decide) small_of_right
  refine hof.mono ?_
  rintro e w1 ⟨va, vb, vd, c, rfl, hl, hr, ho, hb1⟩
  have hc : c = ⟨[mB], [], []⟩ := hr.unique (alive_reps.same fun m => Iff.rfl)
  subst hc
  have HB1 := Lib.hid (below_then hb0 (Nat.le_refl _) hb1)
  obtain ⟨o1, m1, k1, hv1⟩ := hl.cells.slice
  obtain ⟨o2, m2, k2, hv2⟩ := hl.wipes.slice
  obtain ⟨o3, m3, k3, hv3⟩ := hl.sibs.slice
  subst hv1 hv2 hv3
  obtain ⟨R, eR, hR⟩ := hl.cells
  have hRl : R.length = 1 := by have := congrArg List.length eR; simpa using this
  obtain ⟨x, hx⟩ : ∃ x, R[0]? = some x := ⟨R[0], List.getElem?_eq_getElem (by omega)⟩
  have hx1 : x.1 = mB := by
    have h1 : (R.map (·.1))[0]? = some x.1 := by rw [List.getElem?_map, hx]; rfl
    rw [eR] at h1
    simpa using h1.symm
  obtain ⟨_, _, e0, -, -⟩ := hR.form
  obtain ⟨rfl⟩ : m1 = R.length := by injection e0
  rw [hRl] at hR hl
  rw [hRl]
  obtain ⟨b, off, rfl, hat⟩ := hR.at_ hx
  obtain ⟨hlt, a0, a1, a2, a3, a4, a5, a6, a7, a8, a9⟩ := hat
  rw [hx1] at a1
  have a1' : w1.cell? ⟨b, off + 0 * 10 + 1, none⟩ = some (.int .i64 2) := a1
  rw [Nat.zero_mul, Nat.add_zero] at a1'
  have HAL := Lib.hid (fun (z : World) (h : RowKit.Below w1.heap.size w1 z) => all_any _ _ _ _ _ z (hl.below h) ho (by decide))
  clear e0 hx1 hx eR hRl hR a0 a1 a2 a3 a4 a5 a6 a7 a8 a9 hl hr ho hof hrow hb0 hb1
  go_wp2_with fail
  have hbc := (Below.refl _ w1).alloc (Nat.le_refl _) (.cells #[.slice (some ⟨b, off, none⟩) 1 k1, .slice o2 m2 k2, .slice o3 m3 k3] 25)
  have HBC := Lib.hid hbc
  clear hbc
  refine (HAL.out _ HBC.out).mono ?_
  rintro e w2 ⟨g, cap, R2, rfl, -, -, -, hb2⟩
  have hlen : (⟨[mB], [], []⟩ : Con).all.length = 1 := rfl
  rw [hlen]
  have HB2 := Lib.hid (below_then HB1.out (Nat.le_refl _) (below_then HBC.out (Nat.le_refl _) hb2))
  clear hb2 hlen
  go_wp2_with fail
  go_ret
  exact ⟨rfl, HB2.out⟩
end Go.Proofs.YtgcfhlleaekgfaaDoor.Mut
