/- The walk of the law VectorJoins (layer 5). PRINTED by wip/genvecjoins.py. -/
import Derived.Test.YtehcndjpckolmaaVecKnows
namespace Go.Proofs.Ytehcndjpckolmaa.Vec
open Go.RowKit Go.Maps Go.Proofs.Ytehcndjpckolmaa.Kit

/-- The rows at hand. -/
def HasR (W : World) (m : List (Value × List P)) : Prop := ∀ p, p ∈ m → DRow W p.1 p.2
theorem HasR.get {W : World} {m : List (Value × List P)} {v : Value} {l : List P} (h : HasR W m) (hm : (v, l) ∈ m) : DRow W v l := h _ hm
theorem HasR.nil (W : World) : HasR W [] := fun p hp => by cases hp
theorem HasR.below {W W' : World} {m : List (Value × List P)} (h : HasR W m) (hb : Below W.heap.size W W') : HasR W' m := fun p hp => Lst.below (h p hp) hb
theorem HasR.cons {W : World} {m : List (Value × List P)} {v : Value} {l : List P} (hv : DRow W v l) (h : HasR W m) : HasR W ((v, l) :: m) := fun p hp => by
  rcases List.mem_cons.1 hp with e | e
  · subst e; exact hv
  · exact h p e
theorem refcovers_lit (q : Bool) (ao bo : Option Addr) (ac bc : Nat) (a b : List P) (w : World) (h : coversF a b = q) (ha : DRow w (.slice ao a.length ac) a) (hb : DRow w (.slice bo b.length bc) b) (h1 : a.length ≤ 400) (h2 : b.length ≤ 400) :
    Calls Try.prog 54 #[.slice ao a.length ac, .slice bo b.length bc] w fun e w' => e = .returned (.bool q) ∧ Below w.heap.size w w' := by
  subst h; exact refcovers_any ao bo ac bc a b w ha hb h1 h2

set_option maxRecDepth 100000 in
theorem joins_out (ao bo : Option Addr) (an ac bn bc : Nat) (w : World) (h : 100 < an ∨ 100 < bn) :
    Calls Try.prog 11 #[.slice ao an ac, .slice bo bn bc] w fun e w' => e = .returned (.bool true) ∧ Below w.heap.size w w' := by
  by_cases h1 : 100 < an
  · have g1 : decide ((100 : Int) < an) = true := decide_eq_true (by omega)
    go_enter Try.func11, Try.ntmps11
    go_wp2
    go_ret
    exact ⟨rfl, Below.refl _ _⟩
  have g1 : decide ((100 : Int) < an) = false := decide_eq_false (by omega)
  have g2 : decide ((100 : Int) < bn) = true := decide_eq_true (by omega)
  go_enter Try.func11, Try.ntmps11
  go_wp2
  go_ret
  exact ⟨rfl, Below.refl _ _⟩

set_option maxRecDepth 100000 in
set_option maxHeartbeats 8000000 in
theorem joins_in (ao bo : Option Addr) (ac bc : Nat) (a b : List P) (w : World) (ha : DRow w (.slice ao a.length ac) a) (hb0 : DRow w (.slice bo b.length bc) b)
    (sa : Sm a) (sb : Sm b) (h1 : a.length ≤ 100) (h2 : b.length ≤ 100) :
    Calls Try.prog 11 #[.slice ao a.length ac, .slice bo b.length bc] w fun e w' => e = .returned (.bool true) ∧ Below w.heap.size w w' := by
  have HLa := Lib.hid ha
  have HLb := Lib.hid hb0
  clear ha hb0
  have g1 : decide ((100 : Int) < a.length) = false := decide_eq_false (by omega)
  have g2 : decide ((100 : Int) < b.length) = false := decide_eq_false (by omega)
  have HH0 := Lib.hid (Has.nil w)
  have HR0 := Lib.hid (HasR.nil w)
  have HB0 := Lib.hid (Below.refl w.heap.size w)
  have gX := ofF_good a
  have sX := Sm.of sa
  have lX := ofF_len a
  have hlx := fun w ha => lawof_any ao ac a w ha h1 sa
  unfold OfPost at hlx
  obtain ⟨X, hX⟩ : ∃ X, X = ofF a := ⟨_, rfl⟩
  rw [← hX] at gX sX lX hlx
  have gY := ofF_good b
  have sY := Sm.of sb
  have lY := ofF_len b
  have hly := fun w ha => lawof_any bo bc b w ha h2 sb
  unfold OfPost at hly
  obtain ⟨Y, hY⟩ : ∃ Y, Y = ofF b := ⟨_, rfl⟩
  rw [← hY] at gY sY lY hly
  have HLX := Lib.hid hlx
  have HLY := Lib.hid hly
  clear hlx hly hX hY
  have gJ := joinF_good gX Y
  have sJ := Sm.join sX sY
  have lJ := joinF_len X Y
  obtain ⟨J, hJ⟩ : ∃ J, J = joinF X Y := ⟨_, rfl⟩
  rw [← hJ] at gJ sJ lJ
  have HJ := Lib.hid hJ
  have gM := meetF_good Y gX
  have sM := Sm.meet (b := Y) sX
  have lM := meetF_len X Y
  obtain ⟨M, hM⟩ : ∃ M, M = meetF X Y := ⟨_, rfl⟩
  rw [← hM] at gM sM lM
  have HM := Lib.hid hM
  clear hJ hM
  have ho : orderF X Y = (if coversF X Y = true then (if coversF Y X = true then 0 else 2) else (if coversF Y X = true then 1 else 3)) := by
    unfold orderF
    cases coversF X Y <;> cases coversF Y X <;> rfl
  cases q1 : coversF X Y <;> cases q2 : coversF Y X
  all_goals
    simp only [q1, q2, if_true, Bool.false_eq_true, if_false] at ho
    have HO := Lib.hid ho
    clear ho
    go_enter Try.func11, Try.ntmps11
    go_wp2_with fail
    refine (HLX.out _ (Lst.below HLa.out HB0.out)).mono ?_
    rintro e w1 ⟨bX, xo, xc, rfl, hv, hr, hb⟩
    have HH1 := Lib.hid (Has.cons hv (Has.below HH0.out hb))
    have HR1 := Lib.hid (HasR.cons hr (HasR.below HR0.out hb))
    have HB1 := Lib.hid (below_then HB0.out (Nat.le_refl _) hb)
    clear HH0 HR0 HB0 hb hv hr
    go_wp2_with fail
    refine (HLY.out _ (Lst.below HLb.out HB1.out)).mono ?_
    rintro e w2 ⟨bY, yo, yc, rfl, hv, hr, hb⟩
    have HH2 := Lib.hid (Has.cons hv (Has.below HH1.out hb))
    have HR2 := Lib.hid (HasR.cons hr (HasR.below HR1.out hb))
    have HB2 := Lib.hid (below_then HB1.out (Nat.le_refl _) hb)
    clear HH1 HR1 HB1 hb hv hr
    go_wp2_with fail
    refine (refcovers_lit _ xo yo xc yc X Y _ q1 (HasR.get HR2.out (by simp)) (HasR.get HR2.out (by simp)) (by omega) (by omega)).mono ?_
    rintro e w3 ⟨rfl, hb⟩
    have HH3 := Lib.hid (Has.below HH2.out hb)
    have HR3 := Lib.hid (HasR.below HR2.out hb)
    have HB3 := Lib.hid (below_then HB2.out (Nat.le_refl _) hb)
    clear HH2 HR2 HB2 hb
    go_wp2_with fail
    refine (refcovers_lit _ yo xo yc xc Y X _ q2 (HasR.get HR3.out (by simp)) (HasR.get HR3.out (by simp)) (by omega) (by omega)).mono ?_
    rintro e w4 ⟨rfl, hb⟩
    have HH4 := Lib.hid (Has.below HH3.out hb)
    have HR4 := Lib.hid (HasR.below HR3.out hb)
    have HB4 := Lib.hid (below_then HB3.out (Nat.le_refl _) hb)
    clear HH3 HR3 HB3 hb
    go_wp2_with fail
    refine (join_any bX bY X Y _ gX sX gY sY (Has.get HH4.out (by simp)) (Has.get HH4.out (by simp)) (by omega) (by omega)).mono ?_
    rintro e w5 ⟨bJ, rfl, hv, -, hb⟩
    rw [← HJ.out] at hv
    have HH5 := Lib.hid (Has.cons hv (Has.below HH4.out hb))
    have HR5 := Lib.hid (HasR.below HR4.out hb)
    have HB5 := Lib.hid (below_then HB4.out (Nat.le_refl _) hb)
    clear HH4 HR4 HB4 hb hv
    go_wp2_with fail
    refine (refjoin_any xo yo xc yc X Y _ gX gY (HasR.get HR5.out (by simp)) (HasR.get HR5.out (by simp)) (by omega) (by omega)).mono ?_
    rintro e w6 ⟨vJ, rfl, hr, hb⟩
    rw [← HJ.out] at hr
    obtain ⟨jo, jc, rfl, -, -⟩ := Lst.form hr
    have HH6 := Lib.hid (Has.below HH5.out hb)
    have HR6 := Lib.hid (HasR.cons hr (HasR.below HR5.out hb))
    have HB6 := Lib.hid (below_then HB5.out (Nat.le_refl _) hb)
    clear HH5 HR5 HB5 hb hr
    go_wp2_with fail
    refine (is_any bJ jo jc J _ gJ sJ (Has.get HH6.out (by simp)) (HasR.get HR6.out (by simp)) (by omega)).mono ?_
    rintro e w7 ⟨rfl, hb⟩
    have HH7 := Lib.hid (Has.below HH6.out hb)
    have HR7 := Lib.hid (HasR.below HR6.out hb)
    have HB7 := Lib.hid (below_then HB6.out (Nat.le_refl _) hb)
    clear HH6 HR6 HB6 hb
    go_wp2_with fail
    refine (meet_any bX bY X Y _ gX sX gY (Has.get HH7.out (by simp)) (Has.get HH7.out (by simp)) (by omega)).mono ?_
    rintro e w8 ⟨bM, rfl, hv, -, hb⟩
    rw [← HM.out] at hv
    have HH8 := Lib.hid (Has.cons hv (Has.below HH7.out hb))
    have HR8 := Lib.hid (HasR.below HR7.out hb)
    have HB8 := Lib.hid (below_then HB7.out (Nat.le_refl _) hb)
    clear HH7 HR7 HB7 hb hv
    go_wp2_with fail
    refine (refmeet_any xo yo xc yc X Y _ (HasR.get HR8.out (by simp)) (HasR.get HR8.out (by simp)) (by omega) (by omega)).mono ?_
    rintro e w9 ⟨vM, rfl, hr, hb⟩
    rw [← HM.out] at hr
    obtain ⟨mo, mc, rfl, -, -⟩ := Lst.form hr
    have HH9 := Lib.hid (Has.below HH8.out hb)
    have HR9 := Lib.hid (HasR.cons hr (HasR.below HR8.out hb))
    have HB9 := Lib.hid (below_then HB8.out (Nat.le_refl _) hb)
    clear HH8 HR8 HB8 hb hr
    go_wp2_with fail
    refine (is_any bM mo mc M _ gM sM (Has.get HH9.out (by simp)) (HasR.get HR9.out (by simp)) (by omega)).mono ?_
    rintro e w10 ⟨rfl, hb⟩
    have HH10 := Lib.hid (Has.below HH9.out hb)
    have HR10 := Lib.hid (HasR.below HR9.out hb)
    have HB10 := Lib.hid (below_then HB9.out (Nat.le_refl _) hb)
    clear HH9 HR9 HB9 hb
    go_wp2_with fail
    refine (covers_lit _ bX bY X Y _ q1 gY sY (Has.get HH10.out (by simp)) (Has.get HH10.out (by simp)) (by omega)).mono ?_
    rintro e w11 ⟨rfl, hb⟩
    have HH11 := Lib.hid (Has.below HH10.out hb)
    have HR11 := Lib.hid (HasR.below HR10.out hb)
    have HB11 := Lib.hid (below_then HB10.out (Nat.le_refl _) hb)
    clear HH10 HR10 HB10 hb
    go_wp2_with fail
    refine (refcovers_lit _ xo yo xc yc X Y _ q1 (HasR.get HR11.out (by simp)) (HasR.get HR11.out (by simp)) (by omega) (by omega)).mono ?_
    rintro e w12 ⟨rfl, hb⟩
    have HH12 := Lib.hid (Has.below HH11.out hb)
    have HR12 := Lib.hid (HasR.below HR11.out hb)
    have HB12 := Lib.hid (below_then HB11.out (Nat.le_refl _) hb)
    clear HH11 HR11 HB11 hb
    go_wp2_with fail
    refine (compare_lit _ bX bY X Y _ HO.out gX sX gY sY (Has.get HH12.out (by simp)) (Has.get HH12.out (by simp)) (by omega) (by omega)).mono ?_
    rintro e w13 ⟨rfl, hb⟩
    have HH13 := Lib.hid (Has.below HH12.out hb)
    have HR13 := Lib.hid (HasR.below HR12.out hb)
    have HB13 := Lib.hid (below_then HB12.out (Nat.le_refl _) hb)
    clear HH12 HR12 HB12 hb
    go_wp2_with fail
    refine (is_any bX xo xc X _ gX sX (Has.get HH13.out (by simp)) (HasR.get HR13.out (by simp)) (by omega)).mono ?_
    rintro e w14 ⟨rfl, hb⟩
    have HH14 := Lib.hid (Has.below HH13.out hb)
    have HR14 := Lib.hid (HasR.below HR13.out hb)
    have HB14 := Lib.hid (below_then HB13.out (Nat.le_refl _) hb)
    clear HH13 HR13 HB13 hb
    go_wp2_with fail
    refine (is_any bY yo yc Y _ gY sY (Has.get HH14.out (by simp)) (HasR.get HR14.out (by simp)) (by omega)).mono ?_
    rintro e w15 ⟨rfl, hb⟩
    have HH15 := Lib.hid (Has.below HH14.out hb)
    have HR15 := Lib.hid (HasR.below HR14.out hb)
    have HB15 := Lib.hid (below_then HB14.out (Nat.le_refl _) hb)
    clear HH14 HR14 HB14 hb
    go_wp2_with fail
    refine (alive_any _).mono ?_
    rintro e w16 ⟨rfl, hb⟩
    have HH16 := Lib.hid (Has.below HH15.out hb)
    have HR16 := Lib.hid (HasR.below HR15.out hb)
    have HB16 := Lib.hid (below_then HB15.out (Nat.le_refl _) hb)
    clear HH15 HR15 HB15 hb
    go_wp2_with fail
    go_ret
    exact ⟨rfl, HB16.out⟩

theorem vectorJoins_any (ao bo : Option Addr) (ac bc : Nat) (a b : List P) (w : World) (ha : DRow w (.slice ao a.length ac) a) (hb : DRow w (.slice bo b.length bc) b) (sa : Sm a) (sb : Sm b) :
    Calls Try.prog 11 #[.slice ao a.length ac, .slice bo b.length bc] w fun e w' => e = .returned (.bool true) ∧ Below w.heap.size w w' := by
  by_cases h : 100 < a.length ∨ 100 < b.length
  · exact joins_out ao bo _ ac _ bc w h
  · exact joins_in ao bo ac bc a b w ha hb sa sb (by omega) (by omega)
end Go.Proofs.Ytehcndjpckolmaa.Vec
