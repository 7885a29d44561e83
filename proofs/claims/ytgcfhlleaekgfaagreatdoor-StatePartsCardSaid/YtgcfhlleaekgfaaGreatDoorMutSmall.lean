/- The walks of mut.Same, siblings, mut.Covers, within (layers 7, 8). -/
import Derived.Test.YtgcfhlleaekgfaaGreatDoorMutCompare
namespace Go.Proofs.YtgcfhlleaekgfaaGreatDoor.Mut
open Go.RowKit Go.Sort Go.Proofs.YtgcfhlleaekgfaaGreatDoor.Ord

def coversB (w : Mu) (key : ByteArray) : Bool := decide (w.kind = 3) && (!lessS key w.key && lessS key w.fin)
def withinB (a b : Mu) : Bool := !lessS b.key a.key && (!lessS a.fin b.fin && !decide (stC a.at_ b.at_ < 0))
theorem le_less (a b : ByteArray) : cmpS a b ≤ 0 ↔ lessS b a = false := by
  have := cmpS_gt a b
  unfold lessS
  cases h : Op.bytesLess b.toList a.toList
  · rw [h] at this; simp at this ⊢; omega
  · rw [h] at this; simp at this ⊢; omega
theorem le_or (a b : ByteArray) : (Op.bytesLess a.toList b.toList || a.toList == b.toList) = !lessS b a := by
  unfold lessS
  rcases less_total a.toList b.toList with h | h | h
  · rw [h, less_asymm h]; rfl
  · rw [h, less_irrefl]; simp
  · rw [h, less_asymm h]; simpa using (less_ne h).symm
theorem lt_less (a b : ByteArray) : cmpS a b < 0 ↔ lessS a b = true := cmpS_lt a b
theorem covers_iff (w : Mu) (key : ByteArray) : covers w key ↔ coversB w key = true := by
  unfold covers coversB
  rw [Bool.and_eq_true, Bool.and_eq_true, decide_eq_true_iff, le_less, lt_less, Bool.not_eq_true']
theorem within_iff (a b : Mu) : within a b ↔ withinB a b = true := by
  unfold within withinB
  rw [Bool.and_eq_true, Bool.and_eq_true, Bool.not_eq_true', Bool.not_eq_true', Bool.not_eq_true', decide_eq_false_iff_not, le_less, le_less]

set_option maxHeartbeats 1000000 in
set_option maxRecDepth 100000 in
theorem same_any (x y : Ro) (w : World) (hx : Over w x) (hy : Over w y) (h1 : x.1.over.length ≤ 1000000) (h2 : y.1.over.length ≤ 1000000) :
    Calls Tryz.prog 51 #[vM x, vM y] w fun e w' => e = .returned (.bool (decide (muC x.1 y.1 = 0))) ∧ Lays w w' := by
  have hc := fun (z : World) (h : Lays w z) => compare_any x y z (hx.below h.below) (hy.below h.below) h1 h2
  obtain ⟨c, hce⟩ : ∃ c, c = muC x.1 y.1 := ⟨_, rfl⟩
  rw [← hce] at hc ⊢
  obtain ⟨ao1, ac1, e1, -, -⟩ := Over.form hx
  obtain ⟨ao2, ac2, e2, -, -⟩ := Over.form hy
  obtain ⟨⟨at1, ak1, akey1, afin1, aval1, aex1, ⟨ap1, al1, aw1⟩, aov1⟩, av1⟩ := x
  obtain ⟨⟨at2, ak2, akey2, afin2, aval2, aex2, ⟨ap2, al2, aw2⟩, aov2⟩, av2⟩ := y
  simp only [] at e1 e2
  subst e1 e2
  unfold vM at hc ⊢
  simp only [] at hc ⊢
  generalize aov1.length = n1 at *
  generalize aov2.length = n2 at *
  have HC := Lib.hid hc
  clear hc hx hy h1 h2 hce
  go_enter Tryz.func51, Tryz.ntmps51
  go_wp2_with fail
  refine (HC.out _ (((Lays.refl _).alloc _).alloc _)).mono ?_
  rintro e w1 ⟨rfl, hb⟩
  go_wp2_with fail
  go_ret
  exact ⟨ret_bool (by by_cases h : c = 0 <;> simp [h]), (((Lays.refl _).alloc _).alloc _).trans hb⟩

set_option maxHeartbeats 1000000 in
set_option maxRecDepth 100000 in
theorem covers_any (x : Ro) (key : ByteArray) (w : World) (hx : ∃ ao n cap, x.2 = .slice ao n cap) :
    Calls Tryz.prog 66 #[vM x, .string key] w fun e w' => e = .returned (.bool (coversB x.1 key)) ∧ Lays w w' := by
  obtain ⟨ao, n, cap, e1⟩ := hx
  obtain ⟨⟨at1, ak1, akey1, afin1, aval1, aex1, ⟨ap1, al1, aw1⟩, aov1⟩, av1⟩ := x
  simp only [] at e1
  subst e1
  unfold vM coversB
  simp only []
  by_cases hk : ak1 = 3
  · cases h2 : lessS key akey1
    · have e2 : (Op.bytesLess akey1.toList key.toList || akey1.toList == key.toList) = true := by rw [le_or, h2]; rfl
      cases h3 : lessS key afin1
      all_goals
        unfold lessS at h3
        go_enter Tryz.func66, Tryz.ntmps66
        go_wp2_with fail
        go_ret
        exact ⟨ret_bool (by simp [hk, h3]), (Lays.refl _).alloc _⟩
    · have e2 : (Op.bytesLess akey1.toList key.toList || akey1.toList == key.toList) = false := by rw [le_or, h2]; rfl
      go_enter Tryz.func66, Tryz.ntmps66
      go_wp2_with fail
      go_ret
      exact ⟨ret_bool (by simp [hk]), (Lays.refl _).alloc _⟩
  · go_enter Tryz.func66, Tryz.ntmps66
    go_wp2_with fail
    go_ret
    exact ⟨ret_bool (by simp [hk]), (Lays.refl _).alloc _⟩

set_option maxHeartbeats 1000000 in
set_option maxRecDepth 100000 in
theorem within_any (x y : Ro) (w : World) (hx : ∃ ao n cap, x.2 = .slice ao n cap) (hy : ∃ ao n cap, y.2 = .slice ao n cap) :
    Calls Tryz.prog 93 #[vM x, vM y] w fun e w' => e = .returned (.bool (withinB x.1 y.1)) ∧ Lays w w' := by
  obtain ⟨ao, n, cap, e1⟩ := hx
  obtain ⟨bo, m, bcap, e2⟩ := hy
  obtain ⟨⟨at1, ak1, akey1, afin1, aval1, aex1, ⟨ap1, al1, aw1⟩, aov1⟩, av1⟩ := x
  obtain ⟨⟨at2, ak2, akey2, afin2, aval2, aex2, ⟨ap2, al2, aw2⟩, aov2⟩, av2⟩ := y
  simp only [] at e1 e2
  subst e1 e2
  have HS := Lib.hid (fun w => stless_any ⟨ap1, al1, aw1⟩ ⟨ap2, al2, aw2⟩ w)
  unfold vM withinB
  simp only []
  obtain ⟨d, hd⟩ : ∃ d, d = decide (stC ⟨ap1, al1, aw1⟩ ⟨ap2, al2, aw2⟩ < 0) := ⟨_, rfl⟩
  rw [← hd] at HS ⊢
  clear hd
  cases h2 : lessS akey2 akey1
  · have e2 : (Op.bytesLess akey1.toList akey2.toList || akey1.toList == akey2.toList) = true := by rw [le_or, h2]; rfl
    cases h3 : lessS afin1 afin2
    · have e3 : (Op.bytesLess afin2.toList afin1.toList || afin2.toList == afin1.toList) = true := by rw [le_or, h3]; rfl
      go_enter Tryz.func93, Tryz.ntmps93
      go_wp2_with fail
      refine (HS.out _).mono ?_
      rintro e w1 ⟨rfl, hb⟩
      go_wp2_with fail
      go_ret
      exact ⟨ret_bool (by simp), (((Lays.refl _).alloc _).alloc _).trans hb⟩
    · have e3 : (Op.bytesLess afin2.toList afin1.toList || afin2.toList == afin1.toList) = false := by rw [le_or, h3]; rfl
      go_enter Tryz.func93, Tryz.ntmps93
      go_wp2_with fail
      go_ret
      exact ⟨ret_bool (by simp), ((Lays.refl _).alloc _).alloc _⟩
  · have e2 : (Op.bytesLess akey1.toList akey2.toList || akey1.toList == akey2.toList) = false := by rw [le_or, h2]; rfl
    go_enter Tryz.func93, Tryz.ntmps93
    go_wp2_with fail
    go_ret
    exact ⟨ret_bool (by simp), ((Lays.refl _).alloc _).alloc _⟩

set_option maxHeartbeats 1000000 in
set_option maxRecDepth 100000 in
theorem siblings_any (x y : Ro) (w : World) (hx : Over w x) (hy : Over w y) (h1 : x.1.over.length ≤ 1000000) (h2 : y.1.over.length ≤ 1000000) :
    Calls Tryz.prog 88 #[vM x, vM y] w fun e w' => e = .returned (.int .i64 (sibC x.1 y.1)) ∧ Lays w w' := by
  have hc := fun (z : World) (h : Lays w z) => compare_any x y z (hx.below h.below) (hy.below h.below) h1 h2
  have hsib : sibC x.1 y.1 = orL [cmpS x.1.key y.1.key, muC x.1 y.1] := rfl
  rw [hsib]
  obtain ⟨c, hce⟩ : ∃ c, c = muC x.1 y.1 := ⟨_, rfl⟩
  rw [← hce] at hc ⊢
  obtain ⟨ao1, ac1, e1, -, -⟩ := Over.form hx
  obtain ⟨ao2, ac2, e2, -, -⟩ := Over.form hy
  obtain ⟨⟨at1, ak1, akey1, afin1, aval1, aex1, ⟨ap1, al1, aw1⟩, aov1⟩, av1⟩ := x
  obtain ⟨⟨at2, ak2, akey2, afin2, aval2, aex2, ⟨ap2, al2, aw2⟩, aov2⟩, av2⟩ := y
  simp only [] at e1 e2 hsib
  subst e1 e2
  unfold vM at hc ⊢
  simp only [] at hc ⊢
  generalize aov1.length = n1 at *
  generalize aov2.length = n2 at *
  have HC := Lib.hid hc
  clear hc hx hy h1 h2 hce hsib
  go_enter Tryz.func88, Tryz.ntmps88
  go_wp2_with fail
  refine wp_region_lays_tail 8 (by kernel_rfl) (by kernel_rfl) ?_
  simp only [List.take_succ_cons, List.take_zero, List.drop_succ_cons, List.drop_zero]
  repeat (go_big_quiet_step (first
    | (go_at_call 110; exact laid_same (cmpS_any _ _ _))
    | (go_at_call 60; exact laid (HC.out _ ((((Lays.refl _).alloc _).alloc _).trans (GW.lays _))))))
  refine wpQuiet_nil ?_
  rintro _ ⟨y, rfl⟩
  go_wp2_with fail
  refine (or_any y.at.heap.size 0 2 [cmpS akey1 akey2, c] _ (ints_new _ _ [cmpS akey1 akey2, c]) (by simp)).mono ?_
  rintro e w2 ⟨rfl, rfl⟩
  go_wp2_with fail
  go_ret
  exact ⟨rfl, (((Lays.refl _).alloc _).alloc _).trans (y.lays.alloc _)⟩
end Go.Proofs.YtgcfhlleaekgfaaGreatDoor.Mut
