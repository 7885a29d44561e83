/- The walks of layer 41 (skew): New, Within, Ahead, Steady. -/
import Derived.Test.YtigeieahhkoolaaSkewWalks
namespace Go.Proofs.Ytigeieahhkoolaa.Skew
open Go.RowKit

theorem within_false (g : Nat → Int) (sl : Int) (N a b : Nat) (ha : a < N) (hb : b < N) (h : sl < g (26 + (a * 5 + b))) : within g sl N = false := by
  unfold within
  rw [List.all_eq_false]
  refine ⟨a, List.mem_range.2 ha, ?_⟩
  rw [Bool.not_eq_true, List.all_eq_false]
  exact ⟨b, List.mem_range.2 hb, by simp; omega⟩
theorem within_true (g : Nat → Int) (sl : Int) (N : Nat) (h : ∀ a, a < N → ∀ b, b < N → g (26 + (a * 5 + b)) ≤ sl) : within g sl N = true := by
  unfold within
  rw [List.all_eq_true]
  intro a ha
  rw [List.all_eq_true]
  intro b hb
  exact decide_eq_true (h a (List.mem_range.1 ha) b (List.mem_range.1 hb))

def WPost (g : Nat → Int) (sl : Int) (N : Nat) (w : World) (e : Ending) (w' : World) : Prop := e = .returned (.bool (within g sl N)) ∧ w = w'

set_option maxHeartbeats 400000 in
theorem within_any (R N : Nat) (sl : Int) (g : Nat → Int) (w : World) (hg : Rts w R g) (hN : N ≤ 5) :
    Calls Try.prog 45 #[.pointer (some ⟨R, 0, none⟩), .int .i64 sl, .int .i64 N] w (WPost g sl N w) := by
  have m1 : min (max (N : Int) 0) 5 = N := by omega
  have HG := Lib.hid hg
  clear hg
  go_enter Try.func45, Try.ntmps45
  go_wp2
  go_loop [12] (fun av => ∃ a : Nat, a ≤ N ∧ av = .int .i64 a ∧ Hid (∀ i, i < a → ∀ b, b < N → g (26 + (i * 5 + b)) ≤ sl)) (fun av => N - (intOf av).toNat)
  case atStart => exact ⟨0, by omega, rfl, Lib.hid fun i hi => by omega⟩
  case round =>
    obtain ⟨a, ha, rfl, HA⟩ := hrel
    by_cases hlt : a < N
    · go_wp2
      go_loop [18] (fun bv => ∃ b : Nat, b ≤ N ∧ bv = .int .i64 b ∧ Hid (∀ i, i < b → g (26 + (a * 5 + i)) ≤ sl)) (fun bv => N - (intOf bv).toNat)
      case atStart => exact ⟨0, by omega, rfl, Lib.hid fun i hi => by omega⟩
      case round =>
        obtain ⟨b, hb, rfl, HB⟩ := hrel
        by_cases hblt : b < N
        · have c1 : w.cell? ⟨R, 26 + a * 5 + b, none⟩ = some (.int .i64 (g (26 + (a * 5 + b)))) := by rw [Nat.add_assoc]; exact HG.out.cell (by omega)
          by_cases hs : sl < g (26 + (a * 5 + b))
          · go_wp2
            go_ret
            exact ⟨by rw [within_false g sl N a b hlt hblt hs]; rfl, rfl⟩
          · go_wp2
            go_round
            case rel => exact ⟨b + 1, by omega, by go_num, Lib.hid fun i hi => by
              by_cases e : i = b
              · subst e; omega
              · exact HB.out i (by omega)⟩
            case measure => simp [intOf]; omega
        · go_wp2
          go_round
          case rel => exact ⟨a + 1, by omega, by go_num, Lib.hid fun i hi => by
            by_cases e : i = a
            · subst e; exact fun j hj => HB.out j (by omega)
            · exact HA.out i (by omega)⟩
          case measure => simp [intOf]; omega
    · go_wp2
      go_ret
      exact ⟨by rw [within_true g sl N (fun i hi => HA.out i (by omega))]; rfl, rfl⟩

theorem new_any (rho : Int) (w : World) (h1 : rho = 2) : Calls Try.prog 43 #[.int .i64 rho] w fun e w' => e = .returned (.pointer (some ⟨w.heap.size, 0, none⟩)) ∧ Rts w' w.heap.size g0 ∧ w.grownBy w' none := by
  subst h1
  go_enter Try.func43, Try.ntmps43
  go_wp2
  go_ret
  refine ⟨rfl, ?_, grown_alloc (World.grownBy.refl _ _) _⟩
  refine World.rowIs_alloc w _ _ _ ?_
  intro i hi
  have hi' : i < 56 := hi
  change (⟨(List.range 56).map fun i => Value.int .i64 (g0 i)⟩ : Array Value)[i]? = some (.int .i64 (g0 i))
  simp [hi']

/-- The cells of a step. -/
def StepAt (w : World) (b off : Nat) (kd n t tb lv : Int) (ke en va : ByteArray) (cx : Int) : Prop :=
  w.cell? ⟨b, off, none⟩ = some (.int .i64 kd) ∧ w.cell? ⟨b, off + 1, none⟩ = some (.int .i64 n) ∧ w.cell? ⟨b, off + 2, none⟩ = some (.int .i64 t) ∧ w.cell? ⟨b, off + 3, none⟩ = some (.int .i64 tb) ∧
    w.cell? ⟨b, off + 4, none⟩ = some (.int .i64 lv) ∧ w.cell? ⟨b, off + 5, none⟩ = some (.string ke) ∧ w.cell? ⟨b, off + 6, none⟩ = some (.string en) ∧ w.cell? ⟨b, off + 7, none⟩ = some (.string va) ∧ w.cell? ⟨b, off + 8, none⟩ = some (.int .i64 cx)
/-- The script. -/
structure Steps where
  kd : Nat → Int
  n : Nat → Int
  t : Nat → Int
  tb : Nat → Int
  lv : Nat → Int
  cx : Nat → Int
  ke : Nat → ByteArray
  en : Nat → ByteArray
  va : Nat → ByteArray
def Steps.At (s : Steps) (w : World) (b off i : Nat) : Prop := StepAt w b (off + i * 9) (s.kd i) (s.n i) (s.t i) (s.tb i) (s.lv i) (s.ke i) (s.en i) (s.va i) (s.cx i)
def Steps.Fit (s : Steps) (i : Nat) : Prop := (-9223372036854775808 ≤ s.n i ∧ s.n i ≤ 9223372036854775807)
theorem stepAt_same {w w' : World} {b off : Nat} {kd n t tb lv cx : Int} {ke en va : ByteArray} (h : StepAt w b off kd n t tb lv ke en va cx) (e : w'.heap[b]? = w.heap[b]?) : StepAt w' b off kd n t tb lv ke en va cx := by
  have c : ∀ o, w'.cell? ⟨b, o, none⟩ = w.cell? ⟨b, o, none⟩ := fun o => World.cell?_of_block (w := w) e
  unfold StepAt
  simp only [c]
  exact h

set_option maxRecDepth 100000 in
set_option maxHeartbeats 1000000 in
theorem steady_any (nodes : Int) (ao : Option Addr) (len cap : Nat) (s : Steps) (w : World) (hao : len = 0 ∨ ∃ b off, ao = some ⟨b, off, none⟩ ∧ b < w.heap.size ∧ ∀ i, i < len → s.At w b off i)
    (hlen : len ≤ 60) (h1 : 1 ≤ nodes) (h5 : nodes ≤ 5) (hfit : ∀ i, i < len → s.Fit i) :
    Calls Try.prog 31 #[.int .i64 nodes, .slice ao len cap] w fun e w' => e = .returned (.bool (wantF (evl nodes s.kd s.n s.t len) 4 nodes.toNat)) ∧ Below w.heap.size w w' := by
  obtain ⟨N, rfl⟩ : ∃ N : Nat, nodes = N := ⟨nodes.toNat, by omega⟩
  have HAO := Lib.hid hao
  have HF := Lib.hid hfit
  clear hao hfit
  go_enter Try.func31, Try.ntmps31
  go_wp2_with fail
  refine (new_any _ _ rfl).mono ?_
  rintro e w1 ⟨rfl, hr0, hgr0⟩
  go_wp2_with fail
  have hb0 : Below w.heap.size w w1 := ⟨hgr0.os, hgr0.tape, hgr0.output, hgr0.size, fun k hk => hgr0.block k hk (by simp)⟩
  clear hgr0
  go_loopw [18] (fun iv wr => ∃ k : Nat, k ≤ len ∧ iv = .int .i64 k ∧ Rts wr w.heap.size (rt (evl N s.kd s.n s.t k)) ∧ Below w.heap.size w wr) (fun iv _ => len - (intOf iv).toNat)
  case atStart => exact ⟨0, by omega, rfl, hr0, hb0⟩
  case round =>
    obtain ⟨k, hk, rfl, hr, hb⟩ := hrel
    clear hr0 hb0
    have hB := World.rowIs.lt hr
    by_cases hlt : k < len
    · rcases HAO.out with h0 | ⟨b, off, rfl, hbs, hc⟩
      · omega
      have HF' := HF.out k hlt
      obtain ⟨c0, c1, c2, c3, c4, c5, c6, c7, c8⟩ := stepAt_same (hc k hlt) (hb.block b hbs)
      obtain ⟨n1, n2⟩ := HF'
      obtain ⟨t1, t2⟩ := tmod_bd (s.n k) N h1
      have hrtb := rt_bd (evl N s.kd s.n s.t k) (evl_good _ _ _ _ _ h1 h5)
      have hll := evl_len N s.kd s.n s.t k
      have HR := Lib.hid hr
      have HRB := Lib.hid hrtb
      have HLL := Lib.hid hll
      clear hc hr hrtb hll
      cases k10 : (s.kd k == 10)
      · have hev : evOf N (s.kd k) (s.n k) (s.t k) = [] := by unfold evOf; rw [if_neg (by simpa using k10)]
        have HE := Lib.hid hev
        clear hev
        have k10' : (s.kd k != 10) = true := by simp [bne, k10]
        go_wp2
        go_roundw
        case rel => exact ⟨k + 1, by omega, by go_num, by unfold evl; rw [HE.out, List.append_nil]; exact World.rowIs.alloc HR.out _, hb.alloc (by omega) _⟩
        case measure => simp [intOf]; omega
      · have k10' : (s.kd k != 10) = false := by simp [bne, k10]
        by_cases hneg : (s.n k).tmod N < 0
        · obtain ⟨nd, hnd⟩ : ∃ nd : Nat, (s.n k).tmod N + N = (nd : Int) := ⟨((s.n k).tmod N + N).toNat, by omega⟩
          have hnd5 : nd < 5 := by omega
          have hev : evOf N (s.kd k) (s.n k) (s.t k) = [(nd, min (max (s.t k) 0) 64)] := by
            unfold evOf; rw [if_pos (by simpa using k10), if_pos hneg, hnd]; rfl
          have HE := Lib.hid hev
          clear hev
          go_wp2_with fail
          refine (go_any w.heap.size nd (min (max (s.t k) 0) 64) (rt (evl N s.kd s.n s.t k)) _ (World.rowIs.alloc HR.out _) hnd5 (by omega) (by omega) (fun i hi => by have := HRB.out.2 i hi; have := HLL.out; omega) HRB.out.1).mono ?_
          rintro e w2 ⟨rfl, hr2, hg2⟩
          go_wp2
          go_roundw
          case rel => exact ⟨k + 1, by omega, by go_num, by unfold evl; rw [HE.out, rt_snoc]; exact hr2, below_row (hb.alloc (by omega) _) (Nat.le_refl _) (Nat.le_refl _) hg2⟩
          case measure => simp [intOf]; omega
        · obtain ⟨nd, hnd⟩ : ∃ nd : Nat, (s.n k).tmod N = (nd : Int) := ⟨((s.n k).tmod N).toNat, by omega⟩
          have hnd5 : nd < 5 := by omega
          have hev : evOf N (s.kd k) (s.n k) (s.t k) = [(nd, min (max (s.t k) 0) 64)] := by
            unfold evOf; rw [if_pos (by simpa using k10), if_neg hneg, hnd, Int.add_zero]; rfl
          have HE := Lib.hid hev
          clear hev
          go_wp2_with fail
          refine (go_any w.heap.size nd (min (max (s.t k) 0) 64) (rt (evl N s.kd s.n s.t k)) _ (World.rowIs.alloc HR.out _) hnd5 (by omega) (by omega) (fun i hi => by have := HRB.out.2 i hi; have := HLL.out; omega) HRB.out.1).mono ?_
          rintro e w2 ⟨rfl, hr2, hg2⟩
          go_wp2
          go_roundw
          case rel => exact ⟨k + 1, by omega, by go_num, by unfold evl; rw [HE.out, rt_snoc]; exact hr2, below_row (hb.alloc (by omega) _) (Nat.le_refl _) (Nat.le_refl _) hg2⟩
          case measure => simp [intOf]; omega
    · obtain rfl : k = len := by omega
      have HB := Lib.hid hb
      have HR := Lib.hid hr
      clear hr hb
      go_wp2_with fail
      refine (within_any w.heap.size N 4 (rt (evl N s.kd s.n s.t k)) _ HR.out (by omega)).mono ?_
      rintro e w2 ⟨rfl, rfl⟩
      go_wp2
      go_ret
      exact ⟨by rw [Int.toNat_natCast, ← within_want _ (evl_good _ _ _ _ _ h1 h5) 4 N (by omega)]; rfl, HB.out⟩
end Go.Proofs.Ytigeieahhkoolaa.Skew
