/- slices.BinarySearch at runes. -/
import Derived.Test.YtehoanpjlinfaaaSlRow
namespace Go.Proofs.Ytehoanpjlinfaaa.Tri
open Go.RowKit

theorem nan_c (a : Int) (w : World) : Calls Try.prog 164 #[.int .i32 a] w fun e w' => e = .returned (.bool false) ∧ w = w' := by
  have h : (a != a) = false := by simp
  go_enter Try.func164, Try.ntmps164
  go_wp2
  go_ret
  exact ⟨rfl, rfl⟩
theorem nan_s (a : Int) (w : World) : Calls Try.prog 134 #[.int .i32 a] w fun e w' => e = .returned (.bool false) ∧ w = w' := by
  have h : (a != a) = false := by simp
  go_enter Try.func134, Try.ntmps134
  go_wp2
  go_ret
  exact ⟨rfl, rfl⟩
theorem less_lit (q : Bool) (a b : Int) (w : World) (hq : decide (a < b) = q) : Calls Try.prog 133 #[.int .i32 a, .int .i32 b] w fun e w' => e = .returned (.bool q) ∧ w = w' := by
  subst hq
  go_enter Try.func133, Try.ntmps133
  go_wp2_with (go_at_call 164; refine (nan_c _ _).mono ?_; rintro e w' ⟨rfl, rfl⟩)
  go_ret
  exact ⟨rfl, rfl⟩

theorem below_mid {l : List Int} {h : Nat} {x r : Int} (hr : l.Pairwise (· < ·)) (hg : l[h]? = some x) (hx : x < r) : ∀ y ∈ l.take (h + 1), y < r := by
  intro y hy
  obtain ⟨j, hj⟩ := List.getElem?_of_mem hy
  rw [List.getElem?_take] at hj
  split at hj
  · rename_i hlt
    obtain ⟨h1, e1⟩ := List.getElem?_eq_some_iff.1 hj
    obtain ⟨h2, e2⟩ := List.getElem?_eq_some_iff.1 hg
    rcases Nat.lt_or_ge j h with h3 | h3
    · have := List.pairwise_iff_getElem.1 hr j h h1 h2 h3
      omega
    · obtain rfl : j = h := by omega
      omega
  · cases hj
theorem above_mid {l : List Int} {h : Nat} {x r : Int} (hr : l.Pairwise (· < ·)) (hg : l[h]? = some x) (hx : r ≤ x) : ∀ y ∈ l.drop h, r ≤ y := by
  intro y hy
  obtain ⟨j, hj⟩ := List.getElem?_of_mem hy
  rw [List.getElem?_drop] at hj
  obtain ⟨h1, e1⟩ := List.getElem?_eq_some_iff.1 hj
  obtain ⟨h2, e2⟩ := List.getElem?_eq_some_iff.1 hg
  rcases Nat.eq_zero_or_pos j with h3 | h3
  · subst h3
    simp at e1
    omega
  · have := List.pairwise_iff_getElem.1 hr h (h + j) h2 h1 (by omega)
    omega

/-- Where a rune stands among rising ones, or belongs. -/
def BsPost (l : List Int) (r : Int) (w : World) (e : Ending) (w' : World) : Prop :=
  ∃ i : Nat, e = .returned (.tuple #[.int .i64 i, .bool (decide (l[i]? = some r))]) ∧ i ≤ l.length ∧ (∀ x ∈ l.take i, x < r) ∧ (∀ x ∈ l.drop i, r ≤ x) ∧ w = w'

set_option maxHeartbeats 1000000 in
set_option maxRecDepth 100000 in
theorem search_any (ao : Option Addr) (cap : Nat) (l : List Int) (r : Int) (w : World) (hl : l.length ≤ 1000000) (hr : l.Pairwise (· < ·))
    (hc : ∀ i x, l[i]? = some x → ∃ b off, ao = some ⟨b, off, none⟩ ∧ w.cell? ⟨b, off + i, none⟩ = some (.int .i32 x)) :
    Calls Try.prog 93 #[.slice ao l.length cap, .int .i32 r] w (BsPost l r w) := by
  have HC := Lib.hid hc
  have HR := Lib.hid hr
  clear hc hr
  obtain ⟨n, hn⟩ : ∃ n, n = l.length := ⟨_, rfl⟩
  rw [← hn] at hl ⊢
  have HN := Lib.hid hn
  clear hn
  go_enter Try.func93, Try.ntmps93
  go_wp2_with fail
  go_loop [7, 8] (fun iv jv => ∃ (i j : Nat), iv = .int .i64 i ∧ jv = .int .i64 j ∧ i ≤ j ∧ j ≤ n ∧ Hid ((∀ x ∈ l.take i, x < r) ∧ (∀ x ∈ l.drop j, r ≤ x))) (fun iv jv => (intOf jv - intOf iv).toNat)
  case atStart => exact ⟨0, n, rfl, rfl, by omega, by omega, Lib.hid ⟨by simp, by rw [HN.out]; simp⟩⟩
  case round =>
    obtain ⟨i, j, rfl, rfl, hij, hjn, hrel⟩ := hrel
    by_cases hlt : i < j
    · obtain ⟨h, hh⟩ : ∃ h, h = (i + j) / 2 := ⟨_, rfl⟩
      have h1 : i ≤ h := by omega
      have h2 : h < j := by omega
      obtain ⟨x, hg⟩ : ∃ x, l[h]? = some x := ⟨_, List.getElem?_eq_getElem (by have := HN.out; omega)⟩
      obtain ⟨b, off, rfl, hcell⟩ := HC.out h _ hg
      have w1 : IntKind.i64.wrap ((i : Int) + (j : Int)) = (i : Int) + (j : Int) := IntWalk.i64_in _ (by omega)
      have w2 : IntKind.u64.wrap ((i : Int) + (j : Int)) = (i : Int) + (j : Int) := by rw [IntKind.wrap_u64]; omega
      have w3 : ((i : Int) + (j : Int)) / 2 = (h : Int) := by omega
      have HGX := Lib.hid hg
      have HH := Lib.hid hh
      clear hg hh
      by_cases hx : x < r
      · have hq : decide (x < r) = true := decide_eq_true hx
        go_wp2_with (go_at_call 133; refine (less_lit true _ _ _ hq).mono ?_; rintro e w' ⟨rfl, rfl⟩)
        go_round
        case rel => exact ⟨h + 1, j, by go_num, rfl, by omega, hjn, Lib.hid ⟨below_mid HR.out HGX.out hx, hrel.out.2⟩⟩
        case measure => simp [intOf]; omega
      · have hq : decide (x < r) = false := decide_eq_false hx
        go_wp2_with (go_at_call 133; refine (less_lit false _ _ _ hq).mono ?_; rintro e w' ⟨rfl, rfl⟩)
        go_round
        case rel => exact ⟨i, h, rfl, by go_num, by omega, by omega, Lib.hid ⟨hrel.out.1, above_mid HR.out HGX.out (by omega)⟩⟩
        case measure => simp [intOf]; omega
    · obtain rfl : i = j := by omega
      by_cases hin : i < n
      · obtain ⟨x, hg⟩ : ∃ x, l[i]? = some x := ⟨_, List.getElem?_eq_getElem (by have := HN.out; omega)⟩
        obtain ⟨b, off, rfl, hcell⟩ := HC.out i _ hg
        have HGX := Lib.hid hg
        clear hg
        cases hx : (x == r)
        · go_wp2_with (go_at_call 134; refine (nan_s _ _).mono ?_; rintro e w' ⟨rfl, rfl⟩)
          go_ret2
          exact ⟨i, by rw [HGX.out]; simp at hx ⊢; exact hx, by have := HN.out; omega, hrel.out.1, hrel.out.2, rfl⟩
        · go_wp2_with fail
          go_ret2
          exact ⟨i, by rw [HGX.out]; simp at hx ⊢; exact hx, by have := HN.out; omega, hrel.out.1, hrel.out.2, rfl⟩
      · go_wp2_with fail
        go_ret2
        exact ⟨i, by rw [List.getElem?_eq_none (by have := HN.out; omega)]; simp, by have := HN.out; omega, hrel.out.1, hrel.out.2, rfl⟩
end Go.Proofs.Ytehoanpjlinfaaa.Tri
