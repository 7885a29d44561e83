/- Rows of runes: compared, equal, one that begins with another one. -/
import Derived.Test.YtehoanpjlinfaaaTriOrd
import Derived.Test.YtehoanpjlinfaaaTriKeys
namespace Go.Proofs.Ytehoanpjlinfaaa.Tri
open Go.RowKit

abbrev enr (r : Int) : List Value := [enR r]
abbrev RRow (w : World) (v : Value) (l : Tx) : Prop := Lst 1 enr w v l
theorem rune_at {w : World} {ao : Option Addr} {n cap : Nat} {l : Tx} {k : Nat} {x : Int} (h : RRow w (.slice ao n cap) l) (hk : l[k]? = some x) :
    ∃ b off, ao = some ⟨b, off, none⟩ ∧ b < w.heap.size ∧ w.cell? ⟨b, off + k, none⟩ = some (.int .i32 x) := by
  obtain ⟨hlt, he⟩ := List.getElem?_eq_some_iff.1 hk
  obtain ⟨b, off, ha, hb, hc⟩ := Lst.get h hlt
  have := hc 0 (by decide)
  rw [he, Nat.mul_one] at this
  exact ⟨b, off, ha, hb, this⟩

def cmpR (a b : Int) : Int := if a < b then -1 else if b < a then 1 else 0
theorem cmpR_any (a b : Int) (w : World) : Calls Try.prog 159 #[.int .i32 a, .int .i32 b] w fun e w' => e = .returned (.int .i64 (cmpR a b)) ∧ w = w' := by
  have n1 : (a != a) = false := by simp
  have n2 : (b != b) = false := by simp
  by_cases h : a < b
  · go_enter Try.func159, Try.ntmps159
    go_wp2_with (go_at_call 164; refine (nan_c _ _).mono ?_; rintro e w' ⟨rfl, rfl⟩)
    go_ret
    exact ⟨ret_int (by unfold cmpR; repeat' split; all_goals omega), rfl⟩
  · by_cases h2 : b < a
    · go_enter Try.func159, Try.ntmps159
      go_wp2_with (go_at_call 164; refine (nan_c _ _).mono ?_; rintro e w' ⟨rfl, rfl⟩)
      go_ret
      exact ⟨ret_int (by unfold cmpR; repeat' split; all_goals omega), rfl⟩
    · go_enter Try.func159, Try.ntmps159
      go_wp2_with (go_at_call 164; refine (nan_c _ _).mono ?_; rintro e w' ⟨rfl, rfl⟩)
      go_ret
      exact ⟨ret_int (by unfold cmpR; repeat' split; all_goals omega), rfl⟩

theorem cmpT_cons (a b : Int) (s t : Tx) : cmpT (a :: s) (b :: t) = (if cmpR a b = 0 then cmpT s t else cmpR a b) := by
  simp only [cmpT]
  unfold cmpR
  by_cases h1 : a < b
  · simp [h1]
  · by_cases h2 : b < a
    · simp [h1, h2]
    · simp [h1, h2]

set_option maxHeartbeats 1000000 in
set_option maxRecDepth 100000 in
theorem compare_s (ao bo : Option Addr) (ac bc : Nat) (a b : Tx) (w : World) (ha : RRow w (.slice ao a.length ac) a) (hb : RRow w (.slice bo b.length bc) b) (h1 : a.length ≤ 100000) (h2 : b.length ≤ 100000) :
    Calls Try.prog 128 #[.slice ao a.length ac, .slice bo b.length bc] w fun e w' => e = .returned (.int .i64 (cmpT a b)) ∧ w = w' := by
  have HA := Lib.hid ha
  have HB := Lib.hid hb
  clear ha hb
  obtain ⟨n, hn⟩ : ∃ n, n = a.length := ⟨_, rfl⟩
  obtain ⟨m, hm⟩ : ∃ m, m = b.length := ⟨_, rfl⟩
  rw [← hn] at HA h1 ⊢
  rw [← hm] at HB h2 ⊢
  have HN := Lib.hid hn
  have HM := Lib.hid hm
  clear hn hm
  go_enter Try.func128, Try.ntmps128
  go_wp2_with fail
  go_loop [11] (fun iv => ∃ (k : Nat), iv = .int .i64 k ∧ k ≤ n ∧ k ≤ m ∧ Hid (cmpT (a.drop k) (b.drop k) = cmpT a b)) (fun iv => n - (intOf iv).toNat)
  case atStart => exact ⟨0, rfl, by omega, by omega, Lib.hid (by simp)⟩
  case round =>
    obtain ⟨k, rfl, hk, hkm, hc⟩ := hrel
    by_cases hlt : k < n
    · obtain ⟨x, hx⟩ : ∃ x, a[k]? = some x := ⟨_, List.getElem?_eq_getElem (by have := HN.out; omega)⟩
      obtain ⟨ab, aoff, rfl, _, ac1⟩ := rune_at HA.out hx
      have hda : a.drop k = x :: a.drop (k + 1) := by rw [List.drop_eq_getElem_cons (by have := HN.out; omega)]; congr 1; exact (List.getElem?_eq_some_iff.1 hx).2
      have HDA := Lib.hid hda
      clear hda hx
      by_cases hlb : k < m
      · obtain ⟨y, hy⟩ : ∃ y, b[k]? = some y := ⟨_, List.getElem?_eq_getElem (by have := HM.out; omega)⟩
        obtain ⟨bb, boff, rfl, _, bc1⟩ := rune_at HB.out hy
        have hdb : b.drop k = y :: b.drop (k + 1) := by rw [List.drop_eq_getElem_cons (by have := HM.out; omega)]; congr 1; exact (List.getElem?_eq_some_iff.1 hy).2
        have HDB := Lib.hid hdb
        clear hdb hy
        have h3 := hc.out
        rw [HDA.out, HDB.out, cmpT_cons] at h3
        cases hz : (cmpR x y != 0)
        · have hz0 : cmpR x y = 0 := by simpa using hz
          rw [if_pos hz0] at h3
          have H3 := Lib.hid h3
          clear h3 hz0 hc
          go_wp2_with fail
          refine (cmpR_any x y _).mono ?_
          rintro e w1 ⟨rfl, rfl⟩
          go_wp2_with fail
          go_round
          case rel => exact ⟨k + 1, by go_num, by omega, by omega, H3⟩
          case measure => simp [intOf]; omega
        · have hz0 : ¬ cmpR x y = 0 := by simpa using hz
          rw [if_neg hz0] at h3
          have H3 := Lib.hid h3
          clear h3 hz0 hc
          go_wp2_with fail
          refine (cmpR_any x y _).mono ?_
          rintro e w1 ⟨rfl, rfl⟩
          go_wp2_with fail
          go_ret
          exact ⟨ret_int H3.out, rfl⟩
      · obtain rfl : m = k := by omega
        have h3 := hc.out
        rw [HDA.out, List.drop_of_length_le (l := b) (i := m) (by have := HM.out; omega)] at h3
        have H3 := Lib.hid h3
        clear h3 hc
        go_wp2_with fail
        go_ret
        exact ⟨ret_int H3.out, rfl⟩
    · obtain rfl : n = k := by omega
      have h3 := hc.out
      rw [List.drop_of_length_le (l := a) (i := n) (by have := HN.out; omega)] at h3
      by_cases hlb : n < m
      · have hlb' : decide ((n : Int) < (m : Int)) = true := decide_eq_true (by omega)
        cases hd : b.drop n with
        | nil => have h9 := congrArg List.length hd; rw [List.length_drop] at h9; have h8 := HM.out; simp at h9; omega
        | cons y r =>
          rw [hd] at h3
          have H3 := Lib.hid h3
          clear h3 hc hd
          go_wp2_with fail
          go_ret
          exact ⟨ret_int H3.out, rfl⟩
      · obtain rfl : n = m := by omega
        rw [List.drop_of_length_le (l := b) (i := n) (by have := HM.out; omega)] at h3
        have H3 := Lib.hid h3
        clear h3 hc
        go_wp2_with fail
        go_ret
        exact ⟨ret_int H3.out, rfl⟩

theorem compare_any (ao bo : Option Addr) (ac bc : Nat) (a b : Tx) (w : World) (ha : RRow w (.slice ao a.length ac) a) (hb : RRow w (.slice bo b.length bc) b) (h1 : a.length ≤ 100000) (h2 : b.length ≤ 100000) :
    Calls Try.prog 87 #[.slice ao a.length ac, .slice bo b.length bc] w fun e w' => e = .returned (.int .i64 (cmpT a b)) ∧ w = w' := by
  have HC := Lib.hid (compare_s ao bo ac bc a b w ha hb h1 h2)
  clear ha hb
  go_enter Try.func87, Try.ntmps87
  go_wp2_with fail
  refine HC.out.mono ?_
  rintro e w1 ⟨rfl, rfl⟩
  go_wp2_with fail
  go_ret
  exact ⟨rfl, rfl⟩

def eqR (a b : Tx) : Bool := decide (a = b)
theorem eqR_iff (a b : Tx) : eqR a b = true ↔ a = b := by unfold eqR; simp
theorem eqR_self (a : Tx) : eqR a a = true := (eqR_iff a a).2 rfl

set_option maxHeartbeats 400000 in
theorem equalR_any (ao bo : Option Addr) (ac bc : Nat) (a b : Tx) (w : World) (ha : RRow w (.slice ao a.length ac) a) (hb : RRow w (.slice bo b.length bc) b) (h1 : a.length ≤ 100000) (h2 : b.length ≤ 100000) :
    Calls Try.prog 49 #[.slice ao a.length ac, .slice bo b.length bc] w fun e w' => e = .returned (.bool (eqR a b)) ∧ Below w.heap.size w w' := by
  have HA := Lib.hid ha
  have HB := Lib.hid hb
  clear ha hb
  cases hl : ((a.length : Int) != (b.length : Int))
  · have hll : a.length = b.length := by simp at hl; omega
    have HLL := Lib.hid hll
    obtain ⟨r, hr⟩ : ∃ r, r = eqR a b := ⟨_, rfl⟩
    rw [← hr]
    have HR := Lib.hid hr
    clear hr hll
    go_enter Try.func49, Try.ntmps49
    go_wp2_with fail
    go_loopw [13] (fun iv wr => ∃ (k nq : Nat), k ≤ a.length ∧ iv = .int .i64 k ∧ wr = w.drewN nq ∧ Hid (eqR (a.drop k) (b.drop k) = r)) (fun iv _ => a.length - (intOf iv).toNat)
    case atStart => exact ⟨0, 0, by omega, rfl, rfl, Lib.hid (by rw [HR.out]; simp)⟩
    case round =>
      obtain ⟨k, nq0, hk, rfl, rfl, hq0⟩ := hrel
      by_cases hlt : k < a.length
      · have hlb : k < b.length := by have := HLL.out; omega
        obtain ⟨ab, aoff, rfl, _, a0⟩ := rune_at HA.out (List.getElem?_eq_getElem hlt)
        obtain ⟨bb, boff, rfl, _, b0⟩ := rune_at HB.out (List.getElem?_eq_getElem hlb)
        have hda := List.drop_eq_getElem_cons hlt
        have hdb := List.drop_eq_getElem_cons hlb
        generalize a[k] = x at *
        generalize b[k] = y at *
        have HDA := Lib.hid hda
        have HDB := Lib.hid hdb
        clear hda hdb
        cases hqq : (x != y)
        · have HQ := Lib.hid hqq
          go_wp2_with fail
          go_quiet (fail)
          go_wp2_with fail
          go_roundw
          case rel => exact ⟨k + 1, _, by omega, by go_num, rfl, Lib.hid (by have h1 := hq0.out; rw [HDA.out, HDB.out] at h1; have h2 := HQ.out; simp at h2; rw [← h1]; unfold eqR; simp [h2])⟩
          case measure => simp [intOf]; omega
        · have HQ := Lib.hid hqq
          go_wp2_with fail
          go_quiet (fail)
          go_wp2_with fail
          go_ret
          exact ⟨by have h1 := hq0.out; rw [HDA.out, HDB.out] at h1; have h2 := HQ.out; simp at h2; rw [← h1]; unfold eqR; simp [h2], by repeat (first | exact Below.refl _ _ | apply below_drewN)⟩
      · obtain rfl : k = a.length := by omega
        go_wp2_with fail
        go_ret
        exact ⟨by have := hq0.out; rw [List.drop_length, HLL.out, List.drop_length] at this; rw [← this]; rfl, by repeat (first | exact Below.refl _ _ | apply below_drewN)⟩
  · have hll : a.length ≠ b.length := by simp at hl; omega
    have : eqR a b = false := by
      cases h : eqR a b with
      | false => rfl
      | true => rw [eqR_iff] at h; exact (hll (by rw [h])).elim
    rw [this]
    clear hll this
    go_enter Try.func49, Try.ntmps49
    go_wp2_with fail
    go_ret
    exact ⟨rfl, Below.refl _ _⟩

theorem equalR_lit (q : Bool) (ao bo : Option Addr) (ac bc : Nat) (a b : Tx) (w : World) (hq : eqR a b = q) (ha : RRow w (.slice ao a.length ac) a) (hb : RRow w (.slice bo b.length bc) b) (h1 : a.length ≤ 100000) (h2 : b.length ≤ 100000) :
    Calls Try.prog 49 #[.slice ao a.length ac, .slice bo b.length bc] w fun e w' => e = .returned (.bool q) ∧ Below w.heap.size w w' := by
  rw [← hq]; exact equalR_any ao bo ac bc a b w ha hb h1 h2


/-- Does a row begin with another one? -/
theorem begins_eq (s a : Tx) : begins s a = (decide (a.length ≤ s.length) && eqR (s.take a.length) a) := rfl
theorem RRow.take {w : World} {ao : Option Addr} {n cap : Nat} {s : Tx} (h : RRow w (.slice ao n cap) s) {k : Nat} (hk : k ≤ s.length) : RRow w (.slice ao (s.take k).length cap) (s.take k) := by
  obtain ⟨ao', cap', hv, h1, h2, h3⟩ := h
  cases hv
  refine ⟨ao, cap, rfl, by rw [List.length_take]; omega, h2, ?_⟩
  rcases h3 with h3 | ⟨b, off, ha, hb, hc⟩
  · left; rw [List.length_take]; omega
  · right
    refine ⟨b, off, ha, hb, fun i x hi j hj => ?_⟩
    rw [List.getElem?_take] at hi
    split at hi
    · exact hc i x hi j hj
    · cases hi

theorem begins_any (ao bo : Option Addr) (ac bc : Nat) (s a : Tx) (w : World) (hs : RRow w (.slice ao s.length ac) s) (ha : RRow w (.slice bo a.length bc) a) (h1 : s.length ≤ 100000) (h2 : a.length ≤ 100000) :
    Calls Try.prog 12 #[.slice ao s.length ac, .slice bo a.length bc] w fun e w' => e = .returned (.bool (begins s a)) ∧ Below w.heap.size w w' := by
  rw [begins_eq]
  by_cases h : a.length ≤ s.length
  · have hst := hs.take (k := a.length) h
    have hlt : (s.take a.length).length = a.length := by rw [List.length_take]; omega
    have he := equalR_any ao bo ac bc (s.take a.length) a w hst ha (by omega) h2
    rw [hlt] at he
    have HE := Lib.hid he
    rw [decide_eq_true h, Bool.true_and]
    have hcap : a.length ≤ ac := by obtain ⟨_, _, e, q, _⟩ := hs; cases e; omega
    obtain ⟨q, hq⟩ : ∃ q, q = eqR (s.take a.length) a := ⟨_, rfl⟩
    rw [← hq] at HE ⊢
    generalize s.length = n at *
    generalize a.length = m at *
    have hg : decide ((m : Int) ≤ (n : Int)) = true := decide_eq_true (by omega)
    clear he hst hs ha hlt hq
    go_enter Try.func12, Try.ntmps12
    go_wp2_with fail
    refine HE.out.mono ?_
    rintro e w1 ⟨rfl, hb⟩
    have HB := Lib.hid hb
    clear hb
    go_wp2_with fail
    go_ret
    exact ⟨rfl, HB.out⟩
  · rw [decide_eq_false h, Bool.false_and]
    generalize s.length = n at *
    generalize a.length = m at *
    have hg : decide ((m : Int) ≤ (n : Int)) = false := decide_eq_false (by omega)
    clear hs ha
    go_enter Try.func12, Try.ntmps12
    go_wp2_with fail
    go_ret
    exact ⟨rfl, Below.refl _ _⟩
end Go.Proofs.Ytehoanpjlinfaaa.Tri
