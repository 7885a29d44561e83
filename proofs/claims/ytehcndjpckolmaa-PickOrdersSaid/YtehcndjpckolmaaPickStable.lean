/- The walks of layer 43 (pick): a stable sort of few. -/
import Derived.Test.YtehcndjpckolmaaPickSort
namespace Go.Proofs.Ytehcndjpckolmaa.Pick
open Go.RowKit Go.Proofs.Ytehcndjpckolmaa.Ints Go.Proofs.Ytehcndjpckolmaa.Sort

/-- The row is sorted, and holds what it held. -/
def Done (now : Int) (l : List Need) (W0 : World) (g cap n : Nat) (f : Nat → Int) (G : Nat → Value) (w' : World) : Prop :=
  ∃ f', St W0 w' g cap n f' G l.length ∧ On (R now l) f' 0 n ∧ Same f f' 0 n

theorem ltK_spec (now : Int) (l : List Need) (x y : Int) (h : y < x) : (ltK now l x y = true → R now l x y) ∧ (ltK now l x y = false → R now l y x) := by
  unfold ltK R
  constructor
  · intro h2; simp at h2; omega
  · intro h2; simp at h2; omega

theorem isort_done {now : Int} {l : List Need} {W0 w' : World} {g cap n : Nat} {f : Nat → Int} {G : Nat → Value} (hf : ∀ p q, p < q → q < n → f p < f q) (h : St W0 w' g cap n (isort (ltK now l) 0 (n - 1) 1 f) G l.length) : Done now l W0 g cap n f G w' := by
  by_cases h0 : n = 0
  · subst h0
    exact ⟨_, h, fun p q _ _ hq => by omega, ⟨fun v => ⟨fun ⟨k, _, h2, _⟩ => by omega, fun ⟨k, _, h2, _⟩ => by omega⟩, fun k hk => rfl⟩⟩
  · obtain ⟨q1, q2⟩ := isort_sorts (lt := ltK now l) (r := R now l) (a := 0) (b := n) (n - 1) 1 f (by omega) (by omega) (fun _ _ _ => R_trans) (ltK_spec now l) (fun p q _ _ hq => by omega) (fun p q _ hpq _ hq => hf p q hpq hq)
    exact ⟨_, h, q1, q2⟩

set_option maxRecDepth 100000 in
set_option maxHeartbeats 1000000 in
theorem stable_small (β : Nat) (W0 : World) (g cap n : Nat) (f : Nat → Int) (G : Nat → Value) (ao : Option Addr) (ac : Nat) (l : List Need) (now : Int) (Bl Bn : Nat) (hC : Cap β W0 ao ac l now Bl Bn) (hg : β ≤ g) (hn : n ≤ cap) (hn2 : n < 20) (hl : l.length ≤ 100000)
    (hf : ∀ p q, p < q → q < n → f p < f q) (w : World) (hS : St W0 w g cap n f G l.length) :
    Calls Try.prog 105 #[.slice (some ⟨g, 0, none⟩) n cap, .int .i64 n, .func (.func 90) #[] #[.pointer (some ⟨Bl, 0, none⟩), .pointer (some ⟨Bn, 0, none⟩)]] w fun e w' =>
      e = .returned (.tuple #[]) ∧ Done now l W0 g cap n f G w' := by
  have HC := Lib.hid hC
  have HS := Lib.hid hS
  have HF := Lib.hid hf
  clear hC hS hf
  go_enter Try.func105, Try.ntmps105
  go_wp2_with fail
  go_loopw [7, 8] (fun av bv wr => av = .int .i64 0 ∧ bv = .int .i64 20 ∧ wr = w) (fun _ _ _ => 0)
  case atStart => exact ⟨rfl, rfl, rfl⟩
  case round =>
    obtain ⟨rfl, rfl, rfl⟩ := hrel
    have hlt : ¬ ((20 : Int) ≤ n) := by omega
    go_wp2_with fail
    refine (isort_any β W0 g cap n 0 n f G ao ac l now Bl Bn HC.out hg hn (by omega) (Nat.le_refl _) (by omega) hl _ HS.out).mono ?_
    rintro e w1 ⟨rfl, hS1⟩
    have HS1 := Lib.hid (isort_done HF.out hS1)
    clear hS1
    go_wp2_with fail
    go_loopw [6] (fun bv wr => bv = .int .i64 20 ∧ wr = w1) (fun _ _ => 0)
    case atStart => exact ⟨rfl, rfl⟩
    case round =>
      obtain ⟨rfl, rfl⟩ := hrel
      have hlt2 : ¬ ((20 : Int) < n) := by omega
      go_wp2_with fail
      go_end0
      exact ⟨rfl, HS1.out⟩

theorem sort_small (β : Nat) (W0 : World) (g cap n : Nat) (f : Nat → Int) (G : Nat → Value) (ao : Option Addr) (ac : Nat) (l : List Need) (now : Int) (Bl Bn : Nat) (hC : Cap β W0 ao ac l now Bl Bn) (hg : β ≤ g) (hn : n ≤ cap) (hn2 : n < 20) (hl : l.length ≤ 100000)
    (hf : ∀ p q, p < q → q < n → f p < f q) (w : World) (hS : St W0 w g cap n f G l.length) :
    Calls Try.prog 89 #[.slice (some ⟨g, 0, none⟩) n cap, .func (.func 90) #[] #[.pointer (some ⟨Bl, 0, none⟩), .pointer (some ⟨Bn, 0, none⟩)]] w fun e w' =>
      e = .returned (.tuple #[]) ∧ Done now l W0 g cap n f G w' := by
  have HST := Lib.hid (stable_small β W0 g cap n f G ao ac l now Bl Bn hC hg hn hn2 hl hf w hS)
  clear hC hS hf
  go_enter Try.func89, Try.ntmps89
  go_wp2_with fail
  refine HST.out.mono ?_
  rintro e w1 ⟨rfl, hd⟩
  have HD := Lib.hid hd
  clear hd
  go_wp2_with fail
  go_end0
  exact ⟨rfl, HD.out⟩
end Go.Proofs.Ytehcndjpckolmaa.Pick
