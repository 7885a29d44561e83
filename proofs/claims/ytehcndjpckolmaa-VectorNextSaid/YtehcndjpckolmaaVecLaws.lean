/- The walk of the law VectorLaws (layer 5); writes as an argument. PRINTED by wip/genveclaw.py. -/
import Derived.Test.YtehcndjpckolmaaVecIs
import Derived.Test.YtehcndjpckolmaaArgLst
namespace Go.Proofs.Ytehcndjpckolmaa.Vec
open Go.RowKit Go.Maps Go.Proofs.Ytehcndjpckolmaa.Kit

instance : Inhabited P := ⟨⟨0, 0⟩⟩
theorem arg_dots {H : Type} {enc : TypeId × Value → H} {W : World} {v : Value} (h : Arg enc Try.prog W 81 v) : ∃ ao cap l, v = .slice ao (List.length l) cap ∧ DRow W v l ∧ Sm l := by
  obtain ⟨ao, cap, l, h1, h2, h3, h4⟩ := arg_lst (α := P) (en := enD) (good := fun x => x.who ≤ 9223372036854775807) Try.underlying81 (show Try.prog.cellsOf 83 = 2 by kernel_rfl) (by decide) (fun cs hr => by
    obtain ⟨v0, v1, rfl, r0, r1⟩ := rd_struct2 Try.underlying83 (by kernel_rfl) (by kernel_rfl) hr
    obtain ⟨a, rfl, _, ha⟩ := rd_i64 Try.underlying3 r0
    obtain ⟨b, rfl, _, _⟩ := rd_i64 Try.underlying3 r1
    exact ⟨⟨a, b⟩, rfl, ha⟩) h
  exact ⟨ao, cap, l, h1, h2, h4⟩

theorem compare_lit (q : Int) (ba bb : Nat) (A B : List P) (w : World) (h : orderF A B = q) (ga : Good A) (sa : Sm A) (gb : Good B) (sb : Sm B) (ha : VMap w ba A) (hb : VMap w bb B) (h1 : A.length ≤ 1000) (h2 : B.length ≤ 1000) :
    Calls Try.prog 60 #[.map (some ba), .map (some bb)] w fun e w' => e = .returned (.int .i64 q) ∧ Below w.heap.size w w' := by
  subst h; exact compare_any ba bb A B w ga sa gb sb ha hb h1 h2
theorem covers_self {A : List P} (g : Good A) : coversF A A = true := (coversF_iff g g).2 fun _ => Int.le_refl _
theorem order_same {A B : List P} (g : Good A) (h : A = B) : orderF A B = 0 := by
  subst h
  unfold orderF
  rw [if_pos ⟨covers_self g, covers_self g⟩]
/-- The maps at hand. -/
def Has (W : World) (m : List (Nat × List P)) : Prop := ∀ p, p ∈ m → VMap W p.1 p.2
theorem Has.get {W : World} {m : List (Nat × List P)} {b : Nat} {l : List P} (h : Has W m) (hm : (b, l) ∈ m) : VMap W b l := h _ hm
theorem Has.nil (W : World) : Has W [] := fun p hp => by cases hp
theorem Has.below {W W' : World} {m : List (Nat × List P)} (h : Has W m) (hb : Below W.heap.size W W') : Has W' m := fun p hp => (h p hp).below hb
theorem Has.cons {W : World} {m : List (Nat × List P)} {b : Nat} {l : List P} (hv : VMap W b l) (h : Has W m) : Has W ((b, l) :: m) := fun p hp => by
  rcases List.mem_cons.1 hp with e | e
  · subst e; exact hv
  · exact h p e

set_option maxRecDepth 100000 in
theorem laws_out (ao bo co : Option Addr) (an ac bn bc cn cc : Nat) (w : World) (h : 100 < an ∨ 100 < bn ∨ 100 < cn) :
    Calls Try.prog 12 #[.slice ao an ac, .slice bo bn bc, .slice co cn cc] w fun e w' => e = .returned (.bool true) ∧ Below w.heap.size w w' := by
  by_cases h1 : 100 < an
  · have g1 : decide ((100 : Int) < an) = true := decide_eq_true (by omega)
    go_enter Try.func12, Try.ntmps12
    go_wp2
    go_ret
    exact ⟨rfl, Below.refl _ _⟩
  have g1 : decide ((100 : Int) < an) = false := decide_eq_false (by omega)
  by_cases h2 : 100 < bn
  · have g2 : decide ((100 : Int) < bn) = true := decide_eq_true (by omega)
    go_enter Try.func12, Try.ntmps12
    go_wp2
    go_ret
    exact ⟨rfl, Below.refl _ _⟩
  have g2 : decide ((100 : Int) < bn) = false := decide_eq_false (by omega)
  have g3 : decide ((100 : Int) < cn) = true := decide_eq_true (by omega)
  go_enter Try.func12, Try.ntmps12
  go_wp2
  go_ret
  exact ⟨rfl, Below.refl _ _⟩

set_option maxRecDepth 100000 in
set_option maxHeartbeats 8000000 in
theorem laws_in (ao bo co : Option Addr) (ac bc cc : Nat) (a b c : List P) (w : World) (ha : DRow w (.slice ao a.length ac) a) (hb0 : DRow w (.slice bo b.length bc) b) (hc : DRow w (.slice co c.length cc) c)
    (sa : Sm a) (sb : Sm b) (sc : Sm c) (h1 : a.length ≤ 100) (h2 : b.length ≤ 100) (h3 : c.length ≤ 100) :
    Calls Try.prog 12 #[.slice ao a.length ac, .slice bo b.length bc, .slice co c.length cc] w fun e w' => e = .returned (.bool true) ∧ Below w.heap.size w w' := by
  have HLa := Lib.hid ha
  have HLb := Lib.hid hb0
  have HLc := Lib.hid hc
  clear ha hb0 hc
  have g1 : decide ((100 : Int) < a.length) = false := decide_eq_false (by omega)
  have g2 : decide ((100 : Int) < b.length) = false := decide_eq_false (by omega)
  have g3 : decide ((100 : Int) < c.length) = false := decide_eq_false (by omega)
  have HH0 := Lib.hid (Has.nil w)
  have HB0 := Lib.hid (Below.refl w.heap.size w)
  go_enter Try.func12, Try.ntmps12
  go_wp2_with fail
  refine (of_any ao ac a _ (Lst.below HLa.out HB0.out) (by omega) sa).mono ?_
  rintro e w1 ⟨bX, rfl, hv, -, hb⟩
  have gX := ofF_good a
  have sX := Sm.of sa
  have lX := ofF_len a
  obtain ⟨X, hX⟩ : ∃ X, X = ofF a := ⟨_, rfl⟩
  rw [← hX] at hv gX sX lX
  clear hX
  have HH1 := Lib.hid (Has.cons hv (Has.below HH0.out hb))
  have HB1 := Lib.hid (below_then HB0.out (Nat.le_refl _) hb)
  clear HH0 HB0 hb hv
  go_wp2_with fail
  refine (of_any bo bc b _ (Lst.below HLb.out HB1.out) (by omega) sb).mono ?_
  rintro e w2 ⟨bY, rfl, hv, -, hb⟩
  have gY := ofF_good b
  have sY := Sm.of sb
  have lY := ofF_len b
  obtain ⟨Y, hY⟩ : ∃ Y, Y = ofF b := ⟨_, rfl⟩
  rw [← hY] at hv gY sY lY
  clear hY
  have HH2 := Lib.hid (Has.cons hv (Has.below HH1.out hb))
  have HB2 := Lib.hid (below_then HB1.out (Nat.le_refl _) hb)
  clear HH1 HB1 hb hv
  go_wp2_with fail
  refine (of_any co cc c _ (Lst.below HLc.out HB2.out) (by omega) sc).mono ?_
  rintro e w3 ⟨bZ, rfl, hv, -, hb⟩
  have gZ := ofF_good c
  have sZ := Sm.of sc
  have lZ := ofF_len c
  obtain ⟨Z, hZ⟩ : ∃ Z, Z = ofF c := ⟨_, rfl⟩
  rw [← hZ] at hv gZ sZ lZ
  clear hZ
  have HH3 := Lib.hid (Has.cons hv (Has.below HH2.out hb))
  have HB3 := Lib.hid (below_then HB2.out (Nat.le_refl _) hb)
  clear HH2 HB2 hb hv
  go_wp2_with fail
  refine (join_any bX bY X Y _ gX sX gY sY (Has.get HH3.out (by simp)) (Has.get HH3.out (by simp)) (by omega) (by omega)).mono ?_
  rintro e w4 ⟨bJ, rfl, hv, -, hb⟩
  have gJ := joinF_good gX Y
  have sJ := Sm.join sX sY
  have lJ := joinF_len X Y
  have EJ := Lib.hid (joinF_get Y gX gY)
  obtain ⟨J, hJ⟩ : ∃ J, J = joinF X Y := ⟨_, rfl⟩
  rw [← hJ] at hv gJ sJ lJ EJ
  clear hJ
  have HH4 := Lib.hid (Has.cons hv (Has.below HH3.out hb))
  have HB4 := Lib.hid (below_then HB3.out (Nat.le_refl _) hb)
  clear HH3 HB3 hb hv
  go_wp2_with fail
  refine (join_any bJ bZ J Z _ gJ sJ gZ sZ (Has.get HH4.out (by simp)) (Has.get HH4.out (by simp)) (by omega) (by omega)).mono ?_
  rintro e w5 ⟨bOne, rfl, hv, -, hb⟩
  have gOne := joinF_good gJ Z
  have sOne := Sm.join sJ sZ
  have lOne := joinF_len J Z
  have EOne := Lib.hid (joinF_get Z gJ gZ)
  obtain ⟨One, hOne⟩ : ∃ One, One = joinF J Z := ⟨_, rfl⟩
  rw [← hOne] at hv gOne sOne lOne EOne
  clear hOne
  have HH5 := Lib.hid (Has.cons hv (Has.below HH4.out hb))
  have HB5 := Lib.hid (below_then HB4.out (Nat.le_refl _) hb)
  clear HH4 HB4 hb hv
  go_wp2_with fail
  refine (join_any bZ bX Z X _ gZ sZ gX sX (Has.get HH5.out (by simp)) (Has.get HH5.out (by simp)) (by omega) (by omega)).mono ?_
  rintro e w6 ⟨bK, rfl, hv, -, hb⟩
  have gK := joinF_good gZ X
  have sK := Sm.join sZ sX
  have lK := joinF_len Z X
  have EK := Lib.hid (joinF_get X gZ gX)
  obtain ⟨K, hK⟩ : ∃ K, K = joinF Z X := ⟨_, rfl⟩
  rw [← hK] at hv gK sK lK EK
  clear hK
  have HH6 := Lib.hid (Has.cons hv (Has.below HH5.out hb))
  have HB6 := Lib.hid (below_then HB5.out (Nat.le_refl _) hb)
  clear HH5 HB5 hb hv
  go_wp2_with fail
  refine (join_any bY bK Y K _ gY sY gK sK (Has.get HH6.out (by simp)) (Has.get HH6.out (by simp)) (by omega) (by omega)).mono ?_
  rintro e w7 ⟨bTwo, rfl, hv, -, hb⟩
  have gTwo := joinF_good gY K
  have sTwo := Sm.join sY sK
  have lTwo := joinF_len Y K
  have ETwo := Lib.hid (joinF_get K gY gK)
  obtain ⟨Two, hTwo⟩ : ∃ Two, Two = joinF Y K := ⟨_, rfl⟩
  rw [← hTwo] at hv gTwo sTwo lTwo ETwo
  clear hTwo
  have HH7 := Lib.hid (Has.cons hv (Has.below HH6.out hb))
  have HB7 := Lib.hid (below_then HB6.out (Nat.le_refl _) hb)
  clear HH6 HB6 hb hv
  go_wp2_with fail
  refine (meet_any bX bY X Y _ gX sX gY (Has.get HH7.out (by simp)) (Has.get HH7.out (by simp)) (by omega)).mono ?_
  rintro e w8 ⟨bM, rfl, hv, -, hb⟩
  have gM := meetF_good Y gX
  have sM := Sm.meet (b := Y) sX
  have lM := meetF_len X Y
  have EM := Lib.hid (meetF_get gX gY)
  obtain ⟨M, hM⟩ : ∃ M, M = meetF X Y := ⟨_, rfl⟩
  rw [← hM] at hv gM sM lM EM
  clear hM
  have HH8 := Lib.hid (Has.cons hv (Has.below HH7.out hb))
  have HB8 := Lib.hid (below_then HB7.out (Nat.le_refl _) hb)
  clear HH7 HB7 hb hv
  go_wp2_with fail
  refine (meet_any bM bZ M Z _ gM sM gZ (Has.get HH8.out (by simp)) (Has.get HH8.out (by simp)) (by omega)).mono ?_
  rintro e w9 ⟨bThr, rfl, hv, -, hb⟩
  have gThr := meetF_good Z gM
  have sThr := Sm.meet (b := Z) sM
  have lThr := meetF_len M Z
  have EThr := Lib.hid (meetF_get gM gZ)
  obtain ⟨Thr, hThr⟩ : ∃ Thr, Thr = meetF M Z := ⟨_, rfl⟩
  rw [← hThr] at hv gThr sThr lThr EThr
  clear hThr
  have HH9 := Lib.hid (Has.cons hv (Has.below HH8.out hb))
  have HB9 := Lib.hid (below_then HB8.out (Nat.le_refl _) hb)
  clear HH8 HB8 hb hv
  go_wp2_with fail
  refine (meet_any bY bX Y X _ gY sY gX (Has.get HH9.out (by simp)) (Has.get HH9.out (by simp)) (by omega)).mono ?_
  rintro e w10 ⟨bN, rfl, hv, -, hb⟩
  have gN := meetF_good X gY
  have sN := Sm.meet (b := X) sY
  have lN := meetF_len Y X
  have EN := Lib.hid (meetF_get gY gX)
  obtain ⟨N, hN⟩ : ∃ N, N = meetF Y X := ⟨_, rfl⟩
  rw [← hN] at hv gN sN lN EN
  clear hN
  have HH10 := Lib.hid (Has.cons hv (Has.below HH9.out hb))
  have HB10 := Lib.hid (below_then HB9.out (Nat.le_refl _) hb)
  clear HH9 HB9 hb hv
  go_wp2_with fail
  refine (meet_any bZ bN Z N _ gZ sZ gN (Has.get HH10.out (by simp)) (Has.get HH10.out (by simp)) (by omega)).mono ?_
  rintro e w11 ⟨bFou, rfl, hv, -, hb⟩
  have gFou := meetF_good N gZ
  have sFou := Sm.meet (b := N) sZ
  have lFou := meetF_len Z N
  have EFou := Lib.hid (meetF_get gZ gN)
  obtain ⟨Fou, hFou⟩ : ∃ Fou, Fou = meetF Z N := ⟨_, rfl⟩
  rw [← hFou] at hv gFou sFou lFou EFou
  clear hFou
  have HH11 := Lib.hid (Has.cons hv (Has.below HH10.out hb))
  have HB11 := Lib.hid (below_then HB10.out (Nat.le_refl _) hb)
  clear HH10 HB10 hb hv
  go_wp2_with fail
  refine (compare_lit 0 bOne bTwo One Two _ (order_same gOne (Good.ext gOne gTwo fun u => by have := EOne.out u; have := EJ.out u; have := ETwo.out u; have := EK.out u; omega)) gOne sOne gTwo sTwo (Has.get HH11.out (by simp)) (Has.get HH11.out (by simp)) (by omega) (by omega)).mono ?_
  rintro e w12 ⟨rfl, hb⟩
  have HH12 := Lib.hid (Has.below HH11.out hb)
  have HB12 := Lib.hid (below_then HB11.out (Nat.le_refl _) hb)
  clear HH11 HB11 hb
  go_wp2_with fail
  refine (compare_lit 0 bThr bFou Thr Fou _ (order_same gThr (Good.ext gThr gFou fun u => by have := EThr.out u; have := EM.out u; have := EFou.out u; have := EN.out u; omega)) gThr sThr gFou sFou (Has.get HH12.out (by simp)) (Has.get HH12.out (by simp)) (by omega) (by omega)).mono ?_
  rintro e w13 ⟨rfl, hb⟩
  have HH13 := Lib.hid (Has.below HH12.out hb)
  have HB13 := Lib.hid (below_then HB12.out (Nat.le_refl _) hb)
  clear HH12 HB12 hb
  go_wp2_with fail
  refine (join_any bX bX X X _ gX sX gX sX (Has.get HH13.out (by simp)) (Has.get HH13.out (by simp)) (by omega) (by omega)).mono ?_
  rintro e w14 ⟨bXX, rfl, hv, -, hb⟩
  have gXX := joinF_good gX X
  have sXX := Sm.join sX sX
  have lXX := joinF_len X X
  have EXX := Lib.hid (joinF_get X gX gX)
  obtain ⟨XX, hXX⟩ : ∃ XX, XX = joinF X X := ⟨_, rfl⟩
  rw [← hXX] at hv gXX sXX lXX EXX
  clear hXX
  have HH14 := Lib.hid (Has.cons hv (Has.below HH13.out hb))
  have HB14 := Lib.hid (below_then HB13.out (Nat.le_refl _) hb)
  clear HH13 HB13 hb hv
  go_wp2_with fail
  refine (compare_lit 0 bXX bX XX X _ (order_same gXX (Good.ext gXX gX fun u => by have := EXX.out u; omega)) gXX sXX gX sX (Has.get HH14.out (by simp)) (Has.get HH14.out (by simp)) (by omega) (by omega)).mono ?_
  rintro e w15 ⟨rfl, hb⟩
  have HH15 := Lib.hid (Has.below HH14.out hb)
  have HB15 := Lib.hid (below_then HB14.out (Nat.le_refl _) hb)
  clear HH14 HB14 hb
  go_wp2_with fail
  refine (meet_any bX bX X X _ gX sX gX (Has.get HH15.out (by simp)) (Has.get HH15.out (by simp)) (by omega)).mono ?_
  rintro e w16 ⟨bXM, rfl, hv, -, hb⟩
  have gXM := meetF_good X gX
  have sXM := Sm.meet (b := X) sX
  have lXM := meetF_len X X
  have EXM := Lib.hid (meetF_get gX gX)
  obtain ⟨XM, hXM⟩ : ∃ XM, XM = meetF X X := ⟨_, rfl⟩
  rw [← hXM] at hv gXM sXM lXM EXM
  clear hXM
  have HH16 := Lib.hid (Has.cons hv (Has.below HH15.out hb))
  have HB16 := Lib.hid (below_then HB15.out (Nat.le_refl _) hb)
  clear HH15 HB15 hb hv
  go_wp2_with fail
  refine (compare_lit 0 bXM bX XM X _ (order_same gXM (Good.ext gXM gX fun u => by have := EXM.out u; omega)) gXM sXM gX sX (Has.get HH16.out (by simp)) (Has.get HH16.out (by simp)) (by omega) (by omega)).mono ?_
  rintro e w17 ⟨rfl, hb⟩
  have HH17 := Lib.hid (Has.below HH16.out hb)
  have HB17 := Lib.hid (below_then HB16.out (Nat.le_refl _) hb)
  clear HH16 HB16 hb
  go_wp2_with fail
  refine (join_any bX bY X Y _ gX sX gY sY (Has.get HH17.out (by simp)) (Has.get HH17.out (by simp)) (by omega) (by omega)).mono ?_
  rintro e w18 ⟨bU, rfl, hv, -, hb⟩
  have gU := joinF_good gX Y
  have sU := Sm.join sX sY
  have lU := joinF_len X Y
  have EU := Lib.hid (joinF_get Y gX gY)
  obtain ⟨U, hU⟩ : ∃ U, U = joinF X Y := ⟨_, rfl⟩
  rw [← hU] at hv gU sU lU EU
  clear hU
  have HH18 := Lib.hid (Has.cons hv (Has.below HH17.out hb))
  have HB18 := Lib.hid (below_then HB17.out (Nat.le_refl _) hb)
  clear HH17 HB17 hb hv
  go_wp2_with fail
  refine (meet_any bX bU X U _ gX sX gU (Has.get HH18.out (by simp)) (Has.get HH18.out (by simp)) (by omega)).mono ?_
  rintro e w19 ⟨bV, rfl, hv, -, hb⟩
  have gV := meetF_good U gX
  have sV := Sm.meet (b := U) sX
  have lV := meetF_len X U
  have EV := Lib.hid (meetF_get gX gU)
  obtain ⟨V, hV⟩ : ∃ V, V = meetF X U := ⟨_, rfl⟩
  rw [← hV] at hv gV sV lV EV
  clear hV
  have HH19 := Lib.hid (Has.cons hv (Has.below HH18.out hb))
  have HB19 := Lib.hid (below_then HB18.out (Nat.le_refl _) hb)
  clear HH18 HB18 hb hv
  go_wp2_with fail
  refine (compare_lit 0 bV bX V X _ (order_same gV (Good.ext gV gX fun u => by have := EV.out u; have := EU.out u; omega)) gV sV gX sX (Has.get HH19.out (by simp)) (Has.get HH19.out (by simp)) (by omega) (by omega)).mono ?_
  rintro e w20 ⟨rfl, hb⟩
  have HH20 := Lib.hid (Has.below HH19.out hb)
  have HB20 := Lib.hid (below_then HB19.out (Nat.le_refl _) hb)
  clear HH19 HB19 hb
  go_wp2_with fail
  refine (covers_lit true bOne bZ One Z _ ((coversF_iff gOne gZ).2 (fun u => by have := EOne.out u; omega)) gZ sZ (Has.get HH20.out (by simp)) (Has.get HH20.out (by simp)) (by omega)).mono ?_
  rintro e w21 ⟨rfl, hb⟩
  have HH21 := Lib.hid (Has.below HH20.out hb)
  have HB21 := Lib.hid (below_then HB20.out (Nat.le_refl _) hb)
  clear HH20 HB20 hb
  go_wp2_with fail
  refine (covers_lit true bZ bThr Z Thr _ ((coversF_iff gZ gThr).2 (fun u => by have := EThr.out u; omega)) gThr sThr (Has.get HH21.out (by simp)) (Has.get HH21.out (by simp)) (by omega)).mono ?_
  rintro e w22 ⟨rfl, hb⟩
  have HH22 := Lib.hid (Has.below HH21.out hb)
  have HB22 := Lib.hid (below_then HB21.out (Nat.le_refl _) hb)
  clear HH21 HB21 hb
  go_wp2_with fail
  refine (alive_any _).mono ?_
  rintro e w23 ⟨rfl, hb⟩
  have HH23 := Lib.hid (Has.below HH22.out hb)
  have HB23 := Lib.hid (below_then HB22.out (Nat.le_refl _) hb)
  clear HH22 HB22 hb
  go_wp2_with fail
  go_ret
  exact ⟨rfl, HB23.out⟩

theorem vectorLaws_any (ao bo co : Option Addr) (ac bc cc : Nat) (a b c : List P) (w : World) (ha : DRow w (.slice ao a.length ac) a) (hb : DRow w (.slice bo b.length bc) b) (hc : DRow w (.slice co c.length cc) c)
    (sa : Sm a) (sb : Sm b) (sc : Sm c) :
    Calls Try.prog 12 #[.slice ao a.length ac, .slice bo b.length bc, .slice co c.length cc] w fun e w' => e = .returned (.bool true) ∧ Below w.heap.size w w' := by
  by_cases h : 100 < a.length ∨ 100 < b.length ∨ 100 < c.length
  · exact laws_out ao bo co _ ac _ bc _ cc w h
  · exact laws_in ao bo co ac bc cc a b c w ha hb hc sa sb sc (by omega) (by omega) (by omega)
end Go.Proofs.Ytehcndjpckolmaa.Vec
