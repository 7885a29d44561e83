/- The walks of layer 43 (pick): a stable sort of fewer than forty. -/
import Derived.Test.YtehcndjpckolmaaPickSym
namespace Go.Proofs.Ytehcndjpckolmaa.Pick
open Go.RowKit Go.Proofs.Ytehcndjpckolmaa.Ints Go.Proofs.Ytehcndjpckolmaa.Sort

theorem two_blocks {now : Int} {l : List Need} {n : Nat} {f : Nat → Int} (h1 : 20 ≤ n) (hf : ∀ p q, p < q → q < n → f p < f q) :
    On (R now l) (isort (ltK now l) 20 (n - 21) 21 (isort (ltK now l) 0 19 1 f)) 0 20 ∧ On (R now l) (isort (ltK now l) 20 (n - 21) 21 (isort (ltK now l) 0 19 1 f)) 20 n ∧
    Same f (isort (ltK now l) 20 (n - 21) 21 (isort (ltK now l) 0 19 1 f)) 0 n ∧
    ∀ p k, p < 20 → 20 ≤ k → k < n → isort (ltK now l) 20 (n - 21) 21 (isort (ltK now l) 0 19 1 f) p < isort (ltK now l) 20 (n - 21) 21 (isort (ltK now l) 0 19 1 f) k := by
  obtain ⟨a1, a2⟩ := isort_sorts (lt := ltK now l) (r := R now l) (a := 0) (b := 20) 19 1 f (by omega) (by omega) (fun _ _ _ => R_trans) (ltK_spec now l) (fun p q _ _ hq => by omega) (fun p q _ hpq _ hq => hf p q hpq (by omega))
  generalize isort (ltK now l) 0 19 1 f = f1 at *
  have hB : On (R now l) (isort (ltK now l) 20 (n - 21) 21 f1) 20 n ∧ Same f1 (isort (ltK now l) 20 (n - 21) 21 f1) 20 n := by
    by_cases h20 : n ≤ 20
    · obtain rfl : n = 20 := by omega
      exact ⟨fun p q hp hpq hq => by omega, Same.refl _ _ _⟩
    · exact isort_sorts (lt := ltK now l) (r := R now l) (a := 20) (b := n) (n - 21) 21 f1 (by omega) (by omega) (fun _ _ _ => R_trans) (ltK_spec now l) (fun p q _ _ hq => by omega) (fun p q hp hpq _ hq => by rw [← a2.2 p (by omega), ← a2.2 q (by omega)]; exact hf p q hpq hq)
  obtain ⟨b1, b2⟩ := hB
  generalize isort (ltK now l) 20 (n - 21) 21 f1 = f2 at *
  refine ⟨fun p q hp hpq hq => by rw [← b2.2 p (by omega), ← b2.2 q (by omega)]; exact a1 p q hp hpq hq, b1, (a2.wide (Nat.le_refl _) h1).trans (b2.wide (by omega) (Nat.le_refl _)), fun p k hp hk hkn => ?_⟩
  rw [← b2.2 p (by omega)]
  obtain ⟨p', p1, p2, pe⟩ := (a2.1 (f1 p)).2 ⟨p, by omega, hp, rfl⟩
  obtain ⟨k', q1, q2, ke⟩ := (b2.1 (f2 k)).2 ⟨k, hk, hkn, rfl⟩
  rw [← pe, ← ke, ← a2.2 k' (by omega)]
  exact hf p' k' (by omega) q2

set_option maxRecDepth 100000 in
set_option maxHeartbeats 2000000 in
theorem stable_mid (β : Nat) (W0 : World) (g cap n : Nat) (f : Nat → Int) (G : Nat → Value) (ao : Option Addr) (ac : Nat) (l : List Need) (now : Int) (Bl Bn : Nat) (hC : Cap β W0 ao ac l now Bl Bn) (hg : β ≤ g) (hn : n ≤ cap) (hn1 : 20 ≤ n) (hn2 : n < 40) (hl : l.length ≤ 100000)
    (hf : ∀ p q, p < q → q < n → f p < f q) (w : World) (hS : St W0 w g cap n f G l.length) :
    Calls Try.prog 105 #[.slice (some ⟨g, 0, none⟩) n cap, .int .i64 n, .func (.func 90) #[] #[.pointer (some ⟨Bl, 0, none⟩), .pointer (some ⟨Bn, 0, none⟩)]] w fun e w' =>
      e = .returned (.tuple #[]) ∧ Done now l W0 g cap n f G w' := by
  have HC := Lib.hid hC
  have HS := Lib.hid hS
  have HT := Lib.hid (two_blocks (now := now) (l := l) hn1 hf)
  clear hC hS hf
  go_enter Try.func105, Try.ntmps105
  go_wp2_with fail
  go_loopw [7, 8] (fun av bv wr => (av = .int .i64 0 ∧ bv = .int .i64 20 ∧ Hid (St W0 wr g cap n f G l.length)) ∨ (av = .int .i64 20 ∧ bv = .int .i64 40 ∧ Hid (St W0 wr g cap n (isort (ltK now l) 0 19 1 f) G l.length))) (fun _ bv _ => 100 - (intOf bv).toNat)
  case atStart => exact Or.inl ⟨rfl, rfl, HS⟩
  case round =>
    rcases hrel with ⟨rfl, rfl, hS1⟩ | ⟨rfl, rfl, hS1⟩
    · have hlt : (20 : Int) ≤ n := by omega
      go_wp2_with fail
      refine (isort_any β W0 g cap n 0 20 f G ao ac l now Bl Bn HC.out hg hn (by omega) (by omega) (by omega) hl _ hS1.out).mono ?_
      rintro e w1 ⟨rfl, hS2⟩
      have HS2 := Lib.hid hS2
      clear hS2
      go_wp2_with fail
      go_roundw
      case rel => exact Or.inr ⟨rfl, rfl, HS2⟩
      case measure => simp [intOf]
    · have hlt : ¬ ((40 : Int) ≤ n) := by omega
      go_wp2_with fail
      refine (isort_any β W0 g cap n 20 n (isort (ltK now l) 0 19 1 f) G ao ac l now Bl Bn HC.out hg hn (by omega) (Nat.le_refl _) (by omega) hl _ hS1.out).mono ?_
      rintro e w1 ⟨rfl, hS2⟩
      have HS2 := Lib.hid hS2
      clear hS2
      go_wp2_with fail
      by_cases h20 : n = 20
      · subst h20
        have hend : Done now l W0 g cap 20 f G w1 := ⟨_, HS2.out, HT.out.1, HT.out.2.2.1⟩
        have HE := Lib.hid hend
        clear hend
        go_loopw [6] (fun bv wr => bv = .int .i64 20 ∧ wr = w1) (fun _ _ => 0)
        case atStart => exact ⟨rfl, rfl⟩
        case round =>
          obtain ⟨rfl, rfl⟩ := hrel
          go_wp2_with fail
          go_end0
          exact ⟨rfl, HE.out⟩
      · have hlt2 : (20 : Int) < n := by omega
        go_loopw [6] (fun bv wr => (bv = .int .i64 20 ∧ wr = w1) ∨ (bv = .int .i64 40 ∧ Hid (Done now l W0 g cap n f G wr))) (fun bv _ => 100 - (intOf bv).toNat)
        case atStart => exact Or.inl ⟨rfl, rfl⟩
        case round =>
          rcases hrel with ⟨rfl, rfl⟩ | ⟨rfl, hD⟩
          · go_wp2_with fail
            go_loopw [7, 8] (fun av bv wx => av = .int .i64 0 ∧ bv = .int .i64 40 ∧ wx = wr) (fun _ _ _ => 0)
            case atStart => exact ⟨rfl, rfl, rfl⟩
            case round =>
              obtain ⟨rfl, rfl, rfl⟩ := hrel
              go_wp2_with fail
              refine (sym_any β W0 g cap n G ao ac l now Bl Bn HC.out hg hn (by omega) hl n 0 20 n _ _ (by omega) (by omega) (Nat.le_refl _) (by omega) HS2.out).mono ?_
              rintro e w2 ⟨rfl, hS3⟩
              obtain ⟨m1, m2⟩ := symM_sorts (lt := ltK now l) (r := R now l) (fun _ _ _ => R_trans) (fun _ _ => R_asymm) (ltK_spec now l) n 0 20 n _ (by omega) (by omega) (by omega) HT.out.1 HT.out.2.1 (fun p k _ hp hk hkn => HT.out.2.2.2 p k hp hk hkn)
              have hend : Done now l W0 g cap n f G w2 := ⟨_, hS3, m1, HT.out.2.2.1.trans m2⟩
              have HE := Lib.hid hend
              clear hend hS3 m1 m2
              go_wp2_with fail
              go_roundw
              case rel => exact Or.inr ⟨rfl, HE⟩
              case measure => simp [intOf]
          · have hlt3 : ¬ ((40 : Int) < n) := by omega
            go_wp2_with fail
            go_end0
            exact ⟨rfl, hD.out⟩

theorem sort_any (β : Nat) (W0 : World) (g cap n : Nat) (f : Nat → Int) (G : Nat → Value) (ao : Option Addr) (ac : Nat) (l : List Need) (now : Int) (Bl Bn : Nat) (hC : Cap β W0 ao ac l now Bl Bn) (hg : β ≤ g) (hn : n ≤ cap) (hn2 : n < 40) (hl : l.length ≤ 100000)
    (hf : ∀ p q, p < q → q < n → f p < f q) (w : World) (hS : St W0 w g cap n f G l.length) :
    Calls Try.prog 89 #[.slice (some ⟨g, 0, none⟩) n cap, .func (.func 90) #[] #[.pointer (some ⟨Bl, 0, none⟩), .pointer (some ⟨Bn, 0, none⟩)]] w fun e w' =>
      e = .returned (.tuple #[]) ∧ Done now l W0 g cap n f G w' := by
  by_cases h20 : n < 20
  · exact sort_small β W0 g cap n f G ao ac l now Bl Bn hC hg hn h20 hl hf w hS
  have HST := Lib.hid (stable_mid β W0 g cap n f G ao ac l now Bl Bn hC hg hn (by omega) hn2 hl hf w hS)
  clear hC hS hf
  go_enter Try.func89, Try.ntmps89
  go_wp2_with fail
  refine HST.out.mono ?_
  rintro e w1 ⟨rfl, hd⟩
  have HD := Lib.hid hd
  clear hd
  go_wp2_with fail
  go_end0
  exact ⟨rfl, HD.out⟩
end Go.Proofs.Ytehcndjpckolmaa.Pick
