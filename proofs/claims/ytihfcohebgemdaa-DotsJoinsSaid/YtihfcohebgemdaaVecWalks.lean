/- The walks of layer 5 (vector): Right, twice; the reference's Get, Set. -/
import Derived.Test.YtihfcohebgemdaaRange
import Derived.Test.YtihfcohebgemdaaVecDat
namespace Go.Proofs.Ytihfcohebgemdaa.Vec
open Go.RowKit

def vInt : Value → Int
  | .int _ q => q
  | _ => 0
abbrev enD (d : P) : List Value := [.int .i64 d.who, .int .i64 d.n]
theorem enD_len (d : P) : (enD d).length = 2 := rfl
theorem enD_one (d : P) : ∀ u ∈ enD d, u.oneCell' = true := by intro u hu; simp at hu; rcases hu with rfl | rfl <;> rfl
abbrev DRow (w : World) (v : Value) (l : List P) : Prop := Lst 2 enD w v l
theorem info_R : (Try.prog.info? 42).map (fun i => (i.zero, i.size, i.bytes)) = some (some (.agg #[.int .i64 0, .int .i64 0]), 2, 16) := by kernel_rfl
theorem info_D : (Try.prog.info? 33).map (fun i => (i.zero, i.size, i.bytes)) = some (some (.agg #[.int .i64 0, .int .i64 0]), 2, 16) := by kernel_rfl
def RowPost (w : World) (l : List P) (e : Ending) (w' : World) : Prop := ∃ v, e = .returned v ∧ DRow w' v l ∧ Below w.heap.size w w'

theorem dot_at {w : World} {ao : Option Addr} {n cap : Nat} {l : List P} (h : DRow w (.slice ao n cap) l) {k : Nat} {x : P} (hk : l[k]? = some x) :
    ∃ b off, ao = some ⟨b, off, none⟩ ∧ b < w.heap.size ∧ w.cell? ⟨b, off + k * 2, none⟩ = some (.int .i64 x.who) ∧ w.cell? ⟨b, off + k * 2 + 1, none⟩ = some (.int .i64 x.n) := by
  have hlt : k < l.length := (List.getElem?_eq_some_iff.1 hk).1
  obtain ⟨b, off, ha, hb, hc⟩ := Lst.get h hlt
  have hx : l[k] = x := (List.getElem?_eq_some_iff.1 hk).2
  rw [hx] at hc
  exact ⟨b, off, ha, hb, hc 0 (by decide), hc 1 (by decide)⟩

theorem right_any (d : P) (w : World) :
    Calls Try.prog 45 #[.agg #[.int .i64 d.who, .int .i64 d.n]] w fun e w' => e = .returned (.bool (right d)) ∧ Below w.heap.size w w' := by
  unfold right
  by_cases h1 : 0 ≤ d.who <;> by_cases h2 : 1 ≤ d.n
  all_goals
    go_enter Try.func45, Try.ntmps45
    go_wp2
    go_ret
    exact ⟨ret_bool (by first | (simp [h1, h2]; done) | (simp; omega)), (Below.refl _ _).alloc (Nat.le_refl _) _⟩
theorem refright_any (d : P) (w : World) :
    Calls Try.prog 34 #[.agg #[.int .i64 d.who, .int .i64 d.n]] w fun e w' => e = .returned (.bool (right d)) ∧ Below w.heap.size w w' := by
  unfold right
  by_cases h1 : 0 ≤ d.who <;> by_cases h2 : 1 ≤ d.n
  all_goals
    go_enter Try.func34, Try.ntmps34
    go_wp2
    go_ret
    exact ⟨ret_bool (by first | (simp [h1, h2]; done) | (simp; omega)), (Below.refl _ _).alloc (Nat.le_refl _) _⟩

set_option maxHeartbeats 1000000 in
theorem get_any (ao : Option Addr) (ac : Nat) (l : List P) (who : Int) (w : World) (ha : DRow w (.slice ao l.length ac) l) (h1 : l.length ≤ 100000) :
    Calls Try.prog 71 #[.slice ao l.length ac, .int .i64 who] w fun e w' => e = .returned (.int .i64 (getF l who)) ∧ w = w' := by
  have HA := Lib.hid ha
  clear ha
  go_enter Try.func71, Try.ntmps71
  go_wp2_with fail
  go_loop [5] (fun iv => ∃ k : Nat, k ≤ l.length ∧ iv = .int .i64 k ∧ Hid (getF (l.drop k) who = getF l who)) (fun iv => l.length - (vInt iv).toNat)
  case atStart => exact ⟨0, by omega, rfl, Lib.hid rfl⟩
  case round =>
    obtain ⟨k, hk, rfl, hg⟩ := hrel
    by_cases hlt : k < l.length
    · obtain ⟨xb, xoff, rfl, hxb, x0, x1⟩ := dot_at HA.out (List.getElem?_eq_getElem hlt)
      have hdl := List.drop_eq_getElem_cons hlt
      have hg' := hg.out
      rw [hdl] at hg'
      generalize l[k] = x at *
      have HG := Lib.hid hg'
      clear hdl hg hg'
      by_cases c : x.who = who
      · have hr : x.n = getF l who := by have := HG.out; rw [getF, if_pos c] at this; exact this
        have HR := Lib.hid hr
        clear hr
        go_wp2_with fail
        go_ret
        exact ⟨ret_int HR.out, rfl⟩
      · have hr : getF (l.drop (k + 1)) who = getF l who := by have := HG.out; rw [getF, if_neg c] at this; exact this
        have HR := Lib.hid hr
        clear hr
        go_wp2_with fail
        go_round
        case rel => exact ⟨k + 1, by omega, by go_num, HR⟩
        case measure => simp [vInt]; omega
    · obtain rfl : k = l.length := by omega
      have hr := hg.out
      rw [List.drop_length] at hr
      have HR := Lib.hid hr
      clear hr hg
      go_wp2_with fail
      go_ret
      exact ⟨ret_int HR.out, rfl⟩
end Go.Proofs.Ytihfcohebgemdaa.Vec
