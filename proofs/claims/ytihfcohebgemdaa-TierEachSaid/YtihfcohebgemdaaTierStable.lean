/- Layer 18 (tier): a stable sort of at most sixty. -/
import Derived.Test.YtihfcohebgemdaaTierSym
set_option linter.unusedSimpArgs false
set_option linter.unusedVariables false
namespace Go.Proofs.Ytihfcohebgemdaa.Tier
open Go.RowKit Go.Proofs.Ytihfcohebgemdaa.Ints Go.Proofs.Ytihfcohebgemdaa.Sort Go.Proofs.Ytihfcohebgemdaa.Ord

/-- Three blocks. -/
def f3 (l : List Int) (n : Nat) (f : Nat → Int) : Nat → Int := isort (ltK l) 40 (n - 41) 41 (isort (ltK l) 20 19 21 (isort (ltK l) 0 19 1 f))
theorem three_blocks {l : List Int} {n : Nat} {f : Nat → Int} (h1 : 40 ≤ n) (hf : ∀ p q, p < q → q < n → f p < f q) :
    On (R l) (f3 l n f) 0 20 ∧ On (R l) (f3 l n f) 20 40 ∧ On (R l) (f3 l n f) 40 n ∧ Same f (f3 l n f) 0 n ∧
    (∀ p k, p < 20 → 20 ≤ k → k < 40 → f3 l n f p < f3 l n f k) ∧ ∀ p k, p < 40 → 40 ≤ k → k < n → f3 l n f p < f3 l n f k := by
  obtain ⟨t1, t2, t3, t4⟩ := two_blocks (l := l) (n := 40) (f := f) (by omega) (fun p q hpq hq => hf p q hpq (by omega))
  rw [show (40 : Nat) - 21 = 19 from rfl] at t1 t2 t3 t4
  unfold f3
  obtain ⟨f2, hf2⟩ : ∃ x, x = isort (ltK l) 20 19 21 (isort (ltK l) 0 19 1 f) := ⟨_, rfl⟩
  rw [← hf2] at t1 t2 t3 t4 ⊢
  have hB : On (R l) (isort (ltK l) 40 (n - 41) 41 f2) 40 n ∧ Same f2 (isort (ltK l) 40 (n - 41) 41 f2) 40 n := by
    by_cases h40 : n ≤ 40
    · obtain rfl : n = 40 := by omega
      exact ⟨fun p q hp hpq hq => by omega, Same.refl _ _ _⟩
    · exact isort_sorts (lt := ltK l) (r := R l) (a := 40) (b := n) (n - 41) 41 f2 (by omega) (by omega) (fun _ _ _ => R_trans) (ltK_spec l) (fun p q _ _ hq => by omega) (fun p q hp hpq _ hq => by rw [← t3.2 p (by omega), ← t3.2 q (by omega)]; exact hf p q hpq hq)
  obtain ⟨b1, b2⟩ := hB
  generalize isort (ltK l) 40 (n - 41) 41 f2 = f4 at *
  refine ⟨fun p q hp hpq hq => by rw [← b2.2 p (by omega), ← b2.2 q (by omega)]; exact t1 p q hp hpq hq, fun p q hp hpq hq => by rw [← b2.2 p (by omega), ← b2.2 q (by omega)]; exact t2 p q hp hpq hq, b1, (t3.wide (Nat.le_refl _) h1).trans (b2.wide (by omega) (Nat.le_refl _)), fun p k hp hk hkn => ?_, fun p k hp hk hkn => ?_⟩
  · rw [← b2.2 p (by omega), ← b2.2 k (by omega)]
    exact t4 p k hp hk hkn
  · rw [← b2.2 p (by omega)]
    obtain ⟨p', p1, p2, pe⟩ := (t3.1 (f2 p)).2 ⟨p, by omega, hp, rfl⟩
    obtain ⟨k', q1, q2, ke⟩ := (b2.1 (f4 k)).2 ⟨k, hk, hkn, rfl⟩
    rw [← pe, ← ke, ← t3.2 k' (by omega)]
    exact hf p' k' (by omega) q2
/-- The first two merged, then with the third. -/
theorem merged {l : List Int} {n : Nat} {f : Nat → Int} (h1 : 40 ≤ n) (hf : ∀ p q, p < q → q < n → f p < f q) (q : Nat) (hq : n ≤ q) :
    On (R l) (symM (ltK l) q 0 20 40 (f3 l n f)) 0 40 ∧ On (R l) (symM (ltK l) q 0 20 40 (f3 l n f)) 40 n ∧ Same f (symM (ltK l) q 0 20 40 (f3 l n f)) 0 n ∧
    ∀ p k, p < 40 → 40 ≤ k → k < n → symM (ltK l) q 0 20 40 (f3 l n f) p < symM (ltK l) q 0 20 40 (f3 l n f) k := by
  obtain ⟨a1, a2, a3, a4, a5, a6⟩ := three_blocks (l := l) h1 hf
  generalize f3 l n f = g at *
  obtain ⟨m1, m2⟩ := symM_sorts (lt := ltK l) (r := R l) (fun _ _ _ => R_trans) (fun _ _ => R_asymm) (ltK_spec l) q 0 20 40 g (by omega) (by omega) (by omega) a1 a2 (fun p k _ hp hk hkn => a5 p k hp hk hkn)
  generalize symM (ltK l) q 0 20 40 g = g2 at *
  refine ⟨m1, fun p q hp hpq hq => by rw [← m2.2 p (by omega), ← m2.2 q (by omega)]; exact a3 p q hp hpq hq, a4.trans (m2.wide (Nat.le_refl _) h1), fun p k hp hk hkn => ?_⟩
  obtain ⟨p', p1, p2, pe⟩ := (m2.1 (g2 p)).2 ⟨p, by omega, hp, rfl⟩
  rw [← pe, ← m2.2 k (by omega)]
  exact a6 p' k p2 hk hkn

set_option maxRecDepth 100000 in
set_option maxHeartbeats 4000000 in
theorem stable_big (β : Nat) (W0 : World) (g cap n : Nat) (f : Nat → Int) (G : Nat → Value) (ao : Option Addr) (ac : Nat) (l : List Int) (Bs Bl : Nat) (hC : Cap β W0 ao ac l Bs Bl) (hg : Hid (g = β)) (hn : n ≤ cap) (hn1 : 40 ≤ n) (hn2 : n ≤ 60) (hl : l.length ≤ 100000)
    (hf : ∀ p q, p < q → q < n → f p < f q) (w : World) (hS : St W0 w g cap n f G l.length) :
    Calls Try.prog 56 #[.slice (some ⟨g, 0, none⟩) n cap, .int .i64 n, .func (.func 27) #[] #[.pointer (some ⟨Bs, 0, none⟩)]] w fun e w' =>
      e = .returned (.tuple #[]) ∧ Done l W0 g cap n f G w' := by
  have HC := Lib.hid hC
  have HS := Lib.hid hS
  have HT := Lib.hid (three_blocks (l := l) hn1 hf)
  have HM := Lib.hid (merged (l := l) hn1 hf n (Nat.le_refl _))
  clear hC hS hf
  obtain ⟨F3, hF3⟩ : ∃ x, x = f3 l n f := ⟨_, rfl⟩
  have HF3 := Lib.hid (show isort (ltK l) 40 (n - 41) 41 (isort (ltK l) 20 19 21 (isort (ltK l) 0 19 1 f)) = F3 from hF3.symm)
  rw [← hF3] at HT HM
  clear hF3
  go_enter Try.func56, Try.ntmps56
  go_wp2_with fail
  go_loopw [7, 8] (fun av bv wr => (av = .int .i64 0 ∧ bv = .int .i64 20 ∧ Hid (St W0 wr g cap n f G l.length)) ∨ (av = .int .i64 20 ∧ bv = .int .i64 40 ∧ Hid (St W0 wr g cap n (isort (ltK l) 0 19 1 f) G l.length)) ∨ (av = .int .i64 40 ∧ bv = .int .i64 60 ∧ Hid (St W0 wr g cap n (isort (ltK l) 20 19 21 (isort (ltK l) 0 19 1 f)) G l.length)) ∨ (Hid (60 ≤ n) ∧ av = .int .i64 60 ∧ bv = .int .i64 80 ∧ Hid (St W0 wr g cap n F3 G l.length))) (fun _ bv _ => 100 - (intOf bv).toNat)
  case atStart => exact Or.inl ⟨rfl, rfl, HS⟩
  case round =>
    rcases hrel with ⟨rfl, rfl, hS1⟩ | ⟨rfl, rfl, hS1⟩ | ⟨rfl, rfl, hS1⟩ | ⟨hn60, rfl, rfl, hS1⟩
    · have hlt : (20 : Int) ≤ n := by omega
      go_wp2_with fail
      refine (isort_any β W0 g cap n 0 20 f G ao ac l Bs Bl HC.out hg hn (by omega) (by omega) (by omega) hl _ hS1.out).mono ?_
      rintro e w1 ⟨rfl, hS2⟩
      have HS2 := Lib.hid hS2
      clear hS2
      go_wp2_with fail
      go_roundw
      case rel => exact Or.inr (Or.inl ⟨rfl, rfl, HS2⟩)
      case measure => simp [intOf]
    · have hlt : (40 : Int) ≤ n := by omega
      go_wp2_with fail
      refine (isort_any β W0 g cap n 20 40 (isort (ltK l) 0 19 1 f) G ao ac l Bs Bl HC.out hg hn (by omega) (by omega) (by omega) hl _ hS1.out).mono ?_
      rintro e w1 ⟨rfl, hS2⟩
      have HS2 := Lib.hid hS2
      clear hS2
      go_wp2_with fail
      go_roundw
      case rel => exact Or.inr (Or.inr (Or.inl ⟨rfl, rfl, HS2⟩))
      case measure => simp [intOf]
    · by_cases hn60 : 60 ≤ n
      · have hle60 : (60 : Int) ≤ n := by omega
        go_wp2_with fail
        refine (isort_any β W0 g cap n 40 60 (isort (ltK l) 20 19 21 (isort (ltK l) 0 19 1 f)) G ao ac l Bs Bl HC.out hg hn (by omega) hn60 (by omega) hl _ hS1.out).mono ?_
        rintro e w1 ⟨rfl, hS2⟩
        have HS2 := Lib.hid (show St W0 w1 g cap n F3 G l.length from by have h := hS2; rw [show 60 - (40 + 1) = n - 41 by omega, HF3.out] at h; exact h)
        have HN60 := Lib.hid hn60
        clear hS2
        go_wp2_with fail
        go_roundw
        case rel => exact Or.inr (Or.inr (Or.inr ⟨HN60, rfl, rfl, HS2⟩))
        case measure => simp [intOf]
      · have hlt : ¬ ((60 : Int) ≤ n) := by omega
        go_wp2_with fail
        refine (isort_any β W0 g cap n 40 n (isort (ltK l) 20 19 21 (isort (ltK l) 0 19 1 f)) G ao ac l Bs Bl HC.out hg hn (by omega) (Nat.le_refl _) (by omega) hl _ hS1.out).mono ?_
        rintro e w1 ⟨rfl, hS2⟩
        have HS2 := Lib.hid (show St W0 w1 g cap n F3 G l.length from by have h := hS2; rw [show n - (40 + 1) = n - 41 from rfl, HF3.out] at h; exact h)
        clear hS2 hS1
        go_wp2_with fail
        have hlt2 : (20 : Int) < (n : Int) := by omega
        go_loopw [6] (fun bv wr => (bv = .int .i64 20 ∧ wr = w1) ∨ (bv = .int .i64 40 ∧ Hid (St W0 wr g cap n (symM (ltK l) n 0 20 40 F3) G l.length)) ∨ (bv = .int .i64 80 ∧ Hid (Done l W0 g cap n f G wr))) (fun bv _ => 100 - (intOf bv).toNat)
        case atStart => exact Or.inl ⟨rfl, rfl⟩
        case round =>
          rcases hrel with ⟨rfl, rfl⟩ | ⟨rfl, hD⟩ | ⟨rfl, hD⟩
          · go_wp2_with fail
            go_loopw [7, 8] (fun av bv wx => (av = .int .i64 0 ∧ bv = .int .i64 40 ∧ wx = wr) ∨ (av = .int .i64 40 ∧ bv = .int .i64 80 ∧ Hid (St W0 wx g cap n (symM (ltK l) n 0 20 40 F3) G l.length))) (fun _ bv _ => 100 - (intOf bv).toNat)
            case atStart => exact Or.inl ⟨rfl, rfl, rfl⟩
            case round =>
              rcases hrel with ⟨rfl, rfl, rfl⟩ | ⟨rfl, rfl, hX⟩
              · have hle : (40 : Int) ≤ (n : Int) := by omega
                go_wp2_with fail
                refine (sym_any β W0 g cap n G ao ac l Bs Bl HC.out hg hn (by omega) hl n 0 20 40 _ _ (by omega) (by omega) (by omega) (by omega) HS2.out).mono ?_
                rintro e w2 ⟨rfl, hS3⟩
                have HS3 := Lib.hid hS3
                clear hS3
                go_wp2_with fail
                go_roundw
                case rel => exact Or.inr ⟨rfl, rfl, HS3⟩
                case measure => simp [intOf]
              · have hle : ¬ ((80 : Int) ≤ (n : Int)) := by omega
                have hle2 : ¬ ((60 : Int) < (n : Int)) := by omega
                go_wp2_with fail
                go_roundw
                case rel => exact Or.inr (Or.inl ⟨rfl, hX⟩)
                case measure => simp [intOf]
          · by_cases hq : n ≤ 40
            · have hle : ¬ ((40 : Int) < (n : Int)) := by omega
              have HE := Lib.hid (show Done l W0 g cap n f G wr from ⟨_, hD.out, fun p q h1 h2 (h3 : q < n) => HM.out.1 p q h1 h2 (by omega), HM.out.2.2.1⟩)
              go_wp2_with fail
              go_end0
              exact ⟨rfl, HE.out⟩
            · have hle : (40 : Int) < (n : Int) := by omega
              go_wp2_with fail
              go_loopw [7, 8] (fun av bv wx => av = .int .i64 0 ∧ bv = .int .i64 80 ∧ wx = wr) (fun _ _ _ => 0)
              case atStart => exact ⟨rfl, rfl, rfl⟩
              case round =>
                obtain ⟨rfl, rfl, rfl⟩ := hrel
                have hle3 : ¬ ((80 : Int) ≤ (n : Int)) := by omega
                go_wp2_with fail
                refine (sym_any β W0 g cap n G ao ac l Bs Bl HC.out hg hn (by omega) hl n 0 40 n _ _ (by omega) (by omega) (Nat.le_refl _) (by omega) hD.out).mono ?_
                rintro e w2 ⟨rfl, hS3⟩
                obtain ⟨m1, m2⟩ := symM_sorts (lt := ltK l) (r := R l) (fun _ _ _ => R_trans) (fun _ _ => R_asymm) (ltK_spec l) n 0 40 n _ (by omega) (by omega) (by omega) HM.out.1 HM.out.2.1 (fun p k _ hp hk hkn => HM.out.2.2.2 p k hp hk hkn)
                have HE := Lib.hid (show Done l W0 g cap n f G w2 from ⟨_, hS3, m1, HM.out.2.2.1.trans m2⟩)
                clear hS3 m1 m2
                go_wp2_with fail
                go_roundw
                case rel => exact Or.inr (Or.inr ⟨rfl, HE⟩)
                case measure => simp [intOf]
          · have hle : ¬ ((80 : Int) < (n : Int)) := by omega
            go_wp2_with fail
            go_end0
            exact ⟨rfl, hD.out⟩
    · have h60 := hn60.out
      have hlt : ¬ ((80 : Int) ≤ n) := by omega
      go_wp2_with fail
      refine (isort_any β W0 g cap n 60 n F3 G ao ac l Bs Bl HC.out hg hn (by omega) (Nat.le_refl _) (by omega) hl _ hS1.out).mono ?_
      rintro e w1 ⟨rfl, hS2⟩
      have HS2 := Lib.hid (show St W0 w1 g cap n F3 G l.length from by have h := hS2; rw [show n - (60 + 1) = 0 by omega] at h; exact h)
      clear hS2 hS1
      go_wp2_with fail
      have hlt2 : (20 : Int) < (n : Int) := by omega
      go_loopw [6] (fun bv wr => (bv = .int .i64 20 ∧ wr = w1) ∨ (bv = .int .i64 40 ∧ Hid (St W0 wr g cap n (symM (ltK l) n 0 20 40 F3) G l.length)) ∨ (bv = .int .i64 80 ∧ Hid (Done l W0 g cap n f G wr))) (fun bv _ => 100 - (intOf bv).toNat)
      case atStart => exact Or.inl ⟨rfl, rfl⟩
      case round =>
        rcases hrel with ⟨rfl, rfl⟩ | ⟨rfl, hD⟩ | ⟨rfl, hD⟩
        · go_wp2_with fail
          go_loopw [7, 8] (fun av bv wx => (av = .int .i64 0 ∧ bv = .int .i64 40 ∧ wx = wr) ∨ (av = .int .i64 40 ∧ bv = .int .i64 80 ∧ Hid (St W0 wx g cap n (symM (ltK l) n 0 20 40 F3) G l.length))) (fun _ bv _ => 100 - (intOf bv).toNat)
          case atStart => exact Or.inl ⟨rfl, rfl, rfl⟩
          case round =>
            rcases hrel with ⟨rfl, rfl, rfl⟩ | ⟨rfl, rfl, hX⟩
            · have hle : (40 : Int) ≤ (n : Int) := by omega
              go_wp2_with fail
              refine (sym_any β W0 g cap n G ao ac l Bs Bl HC.out hg hn (by omega) hl n 0 20 40 _ _ (by omega) (by omega) (by omega) (by omega) HS2.out).mono ?_
              rintro e w2 ⟨rfl, hS3⟩
              have HS3 := Lib.hid hS3
              clear hS3
              go_wp2_with fail
              go_roundw
              case rel => exact Or.inr ⟨rfl, rfl, HS3⟩
              case measure => simp [intOf]
            · have hle : ¬ ((80 : Int) ≤ (n : Int)) := by omega
              have hle2 : ¬ ((60 : Int) < (n : Int)) := by omega
              go_wp2_with fail
              go_roundw
              case rel => exact Or.inr (Or.inl ⟨rfl, hX⟩)
              case measure => simp [intOf]
        · by_cases hq : n ≤ 40
          · have hle : ¬ ((40 : Int) < (n : Int)) := by omega
            have HE := Lib.hid (show Done l W0 g cap n f G wr from ⟨_, hD.out, fun p q h1 h2 (h3 : q < n) => HM.out.1 p q h1 h2 (by omega), HM.out.2.2.1⟩)
            go_wp2_with fail
            go_end0
            exact ⟨rfl, HE.out⟩
          · have hle : (40 : Int) < (n : Int) := by omega
            go_wp2_with fail
            go_loopw [7, 8] (fun av bv wx => av = .int .i64 0 ∧ bv = .int .i64 80 ∧ wx = wr) (fun _ _ _ => 0)
            case atStart => exact ⟨rfl, rfl, rfl⟩
            case round =>
              obtain ⟨rfl, rfl, rfl⟩ := hrel
              have hle3 : ¬ ((80 : Int) ≤ (n : Int)) := by omega
              go_wp2_with fail
              refine (sym_any β W0 g cap n G ao ac l Bs Bl HC.out hg hn (by omega) hl n 0 40 n _ _ (by omega) (by omega) (Nat.le_refl _) (by omega) hD.out).mono ?_
              rintro e w2 ⟨rfl, hS3⟩
              obtain ⟨m1, m2⟩ := symM_sorts (lt := ltK l) (r := R l) (fun _ _ _ => R_trans) (fun _ _ => R_asymm) (ltK_spec l) n 0 40 n _ (by omega) (by omega) (by omega) HM.out.1 HM.out.2.1 (fun p k _ hp hk hkn => HM.out.2.2.2 p k hp hk hkn)
              have HE := Lib.hid (show Done l W0 g cap n f G w2 from ⟨_, hS3, m1, HM.out.2.2.1.trans m2⟩)
              clear hS3 m1 m2
              go_wp2_with fail
              go_roundw
              case rel => exact Or.inr (Or.inr ⟨rfl, HE⟩)
              case measure => simp [intOf]
        · have hle : ¬ ((80 : Int) < (n : Int)) := by omega
          go_wp2_with fail
          go_end0
          exact ⟨rfl, hD.out⟩

theorem sort_any (β : Nat) (W0 : World) (g cap n : Nat) (f : Nat → Int) (G : Nat → Value) (ao : Option Addr) (ac : Nat) (l : List Int) (Bs Bl : Nat) (hC : Cap β W0 ao ac l Bs Bl) (hg : Hid (g = β)) (hn : n ≤ cap) (hn2 : n ≤ 60) (hl : l.length ≤ 100000)
    (hf : ∀ p q, p < q → q < n → f p < f q) (w : World) (hS : St W0 w g cap n f G l.length) :
    Calls Try.prog 26 #[.slice (some ⟨g, 0, none⟩) n cap, .func (.func 27) #[] #[.pointer (some ⟨Bs, 0, none⟩)]] w fun e w' =>
      e = .returned (.tuple #[]) ∧ Done l W0 g cap n f G w' := by
  by_cases h20 : n < 20
  · exact sort_small β W0 g cap n f G ao ac l Bs Bl hC hg hn h20 hl hf w hS
  have hst : Calls Try.prog 56 #[.slice (some ⟨g, 0, none⟩) n cap, .int .i64 n, .func (.func 27) #[] #[.pointer (some ⟨Bs, 0, none⟩)]] w fun e w' => e = .returned (.tuple #[]) ∧ Done l W0 g cap n f G w' := by
    by_cases h40 : n < 40
    · exact stable_mid β W0 g cap n f G ao ac l Bs Bl hC hg hn (by omega) h40 hl hf w hS
    · exact stable_big β W0 g cap n f G ao ac l Bs Bl hC hg hn (by omega) hn2 hl hf w hS
  have HST := Lib.hid hst
  clear hC hS hf hst
  go_enter Try.func26, Try.ntmps26
  go_wp2_with fail
  refine HST.out.mono ?_
  rintro e w1 ⟨rfl, hd⟩
  have HD := Lib.hid hd
  clear hd
  go_wp2_with fail
  go_end0
  exact ⟨rfl, HD.out⟩
end Go.Proofs.Ytihfcohebgemdaa.Tier
