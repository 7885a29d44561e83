/- The walk of cenotaphlaw23.LeasePlays. -/
import Derived.Test.YtigeieahhkoolaaLeaseWalks
import Derived.Lib.Hide
namespace Go.Proofs.Ytigeieahhkoolaa.Lease
open Go.RowKit

/-- What the lease and the law's own two variables have in common, and that old memory is as it was. -/
def Plays (w : World) (u : Int) (s : Bool) (wr : World) : Prop :=
  wr.cell? ⟨w.heap.size, 0, none⟩ = some (.int .i64 u) ∧ wr.cell? ⟨w.heap.size, 1, none⟩ = some (.bool s) ∧ wr.frozen? ⟨w.heap.size, 0, none⟩ = false ∧ wr.frozen? ⟨w.heap.size, 1, none⟩ = false ∧
    w.heap.size < wr.heap.size ∧ Below w.heap.size w wr ∧ 0 ≤ u ∧ u ≤ 1099511627784 ∧ (s = true → 8 ≤ u)

theorem plays_start (w : World) : Plays w 0 false (w.alloc (.cells #[.int .i64 0, .bool false] 25)) := by
  refine ⟨by simp [go_sem], by simp [go_sem], by simp [go_sem], by simp [go_sem], by simp, (Below.refl _ _).alloc (Nat.le_refl _) _, by omega, by omega, by simp⟩

theorem plays_grant {w wr : World} {u : Int} {s : Bool} (n : Int) (h0 : 8 ≤ n) (h1 : n ≤ 1099511627784) (h : Plays w u s wr) : Plays w n true ((wr.setCell ⟨w.heap.size, 0, none⟩ (.int .i64 n)).setCell ⟨w.heap.size, 1, none⟩ (.bool true)) := by
  obtain ⟨c0, c1, f0, f1, hs, hb, hu, hu2, hsu⟩ := h
  refine ⟨?_, ?_, ?_, ?_, by simpa [World.setCell] using hs, (hb.setCell (Nat.le_refl _) _).setCell (Nat.le_refl _) _, by omega, h1, fun _ => h0⟩
  all_goals simp [go_sem, c0, c1, f0, f1]

theorem plays_drop {w wr : World} {u : Int} {s : Bool} (h : Plays w u s wr) : Plays w u false (wr.setCell ⟨w.heap.size, 1, none⟩ (.bool false)) := by
  obtain ⟨c0, c1, f0, f1, hs, hb, hu, hu2, hsu⟩ := h
  refine ⟨?_, ?_, ?_, ?_, by simpa [World.setCell] using hs, hb.setCell (Nat.le_refl _) _, hu, hu2, by simp⟩
  all_goals simp [go_sem, c0, c1, f0, f1]

set_option maxHeartbeats 2000000 in
theorem leasePlays_any (ao : Option Addr) (len cap : Nat) (K N : Nat → Int) (w : World) (hao : len = 0 ∨ ∃ b off, ao = some ⟨b, off, none⟩ ∧ b < w.heap.size ∧
      ∀ i, i < len → w.cell? ⟨b, off + i * 2, none⟩ = some (.int .i64 (K i)) ∧ w.cell? ⟨b, off + i * 2 + 1, none⟩ = some (.int .i64 (N i)))
    (hlen : len ≤ 9223372036854775807) (hN : ∀ i, i < len → -9223372036854775808 ≤ N i ∧ N i ≤ 9223372036854775807) :
    Calls Try.prog 3 #[.slice ao len cap] w fun e w' => e = .returned (.bool true) ∧ Below w.heap.size w w' := by
  by_cases h100 : 100 < len
  · go_enter Try.func3, Try.ntmps3
    go_wp2
    go_ret
    exact ⟨rfl, Below.refl _ _⟩
  have HAO := Lib.hid hao
  clear hao
  have HS := plays_start w
  go_enter Try.func3, Try.ntmps3
  go_wp2
  go_loopw [4, 5, 6] (fun uv sv iv wr => ∃ (k : Nat) (u : Int) (s : Bool), k ≤ len ∧ iv = .int .i64 k ∧ uv = .int .i64 u ∧ sv = .bool s ∧ Plays w u s wr) (fun _ _ iv _ => len - (intOf iv).toNat)
  case atStart => exact ⟨0, 0, false, Nat.zero_le _, rfl, rfl, rfl, HS⟩
  case round =>
    obtain ⟨k, u, s, hk, rfl, rfl, rfl, hp⟩ := hrel
    have HP := Lib.hid hp
    obtain ⟨c0, c1, f0, f1, hs, hb, hu, hu2, hsu⟩ := hp
    by_cases hlt : k < len
    · rcases HAO.out with h0 | ⟨b, off, rfl, hbs, hc⟩
      · omega
      have d0 := (hb.cell (p := ⟨b, off + k * 2, none⟩) hbs).trans (hc k hlt).1
      have d1 := (hb.cell (p := ⟨b, off + k * 2 + 1, none⟩) hbs).trans (hc k hlt).2
      obtain ⟨n1, n2⟩ := hN k hlt
      clear hc hN hb hsu HS
      cases k0 : ((K k).tmod 3 == 0)
      · cases k1 : ((K k).tmod 3 == 1)
        · have hsu := HP.out.2.2.2.2.2.2.2.2
          cases s
          · go_wp2
            go_roundw
            case rel => exact ⟨k + 1, u, false, by omega, by go_num, rfl, rfl, HP.out⟩
            case measure => simp [intOf]; omega
          · have hu8 := hsu rfl
            clear hsu
            by_cases hn : N k < u
            · by_cases hm : N k < 0
              all_goals
                go_wp2
                go_roundw
                case rel => exact ⟨k + 1, u, true, by omega, by go_num, rfl, rfl, HP.out⟩
                case measure => simp [intOf]; omega
            · go_wp2
              go_roundw
              case rel => exact ⟨k + 1, u, true, by omega, by go_num, rfl, rfl, HP.out⟩
              case measure => simp [intOf]; omega
        · go_wp2
          go_end0
          go_wp2
          go_roundw
          case rel => exact ⟨k + 1, u, false, by omega, by go_num, rfl, rfl, plays_drop HP.out⟩
          case measure => simp [intOf]; omega
      · by_cases hm : N k < 0
        · go_wp2
          go_end0
          go_wp2
          go_roundw
          case rel => exact ⟨k + 1, 8, true, by omega, by go_num, rfl, rfl, plays_grant _ (by omega) (by omega) HP.out⟩
          case measure => simp [intOf]; omega
        · by_cases hm2 : 1099511627776 < N k
          · go_wp2
            go_end0
            go_wp2
            go_roundw
            case rel => exact ⟨k + 1, 1099511627784, true, by omega, by go_num, rfl, rfl, plays_grant _ (by omega) (by omega) HP.out⟩
            case measure => simp [intOf]; omega
          · go_wp2
            go_end0
            go_wp2
            go_roundw
            case rel => exact ⟨k + 1, N k + 8, true, by omega, by go_num, rfl, rfl, plays_grant _ (by omega) (by omega) HP.out⟩
            case measure => simp [intOf]; omega
    · clear HAO HS hN
      go_wp2_with (first | (go_at_call 16; refine (alive_any _).mono ?_; rintro e w' ⟨rfl, hbb⟩) | go_in)
      go_ret
      exact ⟨rfl, hb.trans (hbb.mono hb.size)⟩
end Go.Proofs.Ytigeieahhkoolaa.Lease
