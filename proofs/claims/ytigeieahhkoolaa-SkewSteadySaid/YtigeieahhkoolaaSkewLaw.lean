/- The walks of layer 41 (skew): the document's Ahead, the chapter's example, and the law SkewSteady. -/
import Derived.Test.YtigeieahhkoolaaSkewSteady
namespace Go.Proofs.Ytigeieahhkoolaa.Skew
open Go.RowKit

theorem steady_out (nodes : Int) (v : Value) (w : World) (h : nodes < 1 ∨ 5 < nodes) :
    Calls Try.prog 31 #[.int .i64 nodes, v] w fun e w' => e = .returned (.bool true) ∧ Below w.heap.size w w' := by
  rcases h with h | h
  all_goals
    go_enter Try.func31, Try.ntmps31
    go_wp2_with fail
    refine (new_any _ _ rfl).mono ?_
    rintro e w1 ⟨rfl, hr0, hgr0⟩
    go_wp2_with fail
    go_ret
    exact ⟨rfl, ⟨hgr0.os, hgr0.tape, hgr0.output, hgr0.size, fun k hk => hgr0.block k hk (by simp)⟩⟩

theorem ahead_any (R a b : Nat) (g : Nat → Int) (w : World) (hg : Rts w R g) (ha : a < 5) (hb : b < 5) :
    Calls Try.prog 46 #[.pointer (some ⟨R, 0, none⟩), .int .i64 a, .int .i64 b] w fun e w' => e = .returned (.int .i64 (g (26 + (a * 5 + b)))) ∧ w = w' := by
  have c1 : w.cell? ⟨R, 26 + a * 5 + b, none⟩ = some (.int .i64 (g (26 + (a * 5 + b)))) := by rw [Nat.add_assoc]; exact hg.cell (by omega)
  clear hg
  go_enter Try.func46, Try.ntmps46
  go_wp2
  go_ret
  exact ⟨rfl, rfl⟩

theorem alive_any (w : World) : Calls Try.prog 32 #[] w fun e w' => e = .returned (.bool true) ∧ Below w.heap.size w w' := by
  have e1 : goF (goF g0 0 3) 1 1 (26 + (0 * 5 + 1)) = 3 := by decide +kernel
  have e2 : goF (goF g0 0 3) 1 1 (26 + (1 * 5 + 0)) = 1 := by decide +kernel
  have e3 : within (goF (goF g0 0 3) 1 1) 3 2 = true := by decide +kernel
  have e4 : within (goF (goF g0 0 3) 1 1) 2 2 = false := by decide +kernel
  have hz : ∀ i, 1 ≤ i → 0 ≤ g0 i ∧ g0 i ≤ 0 := fun i hi => by unfold g0; rw [if_neg (by omega)]; omega
  have hb1 := goF_bd g0 0 3 0 (by omega) rfl hz
  have E1 := Lib.hid e1
  have E2 := Lib.hid e2
  have E3 := Lib.hid e3
  have E4 := Lib.hid e4
  have HZ := Lib.hid hz
  have HB1 := Lib.hid hb1
  clear e1 e2 e3 e4 hz hb1
  go_enter Try.func32, Try.ntmps32
  go_wp2_with fail
  refine (new_any _ _ rfl).mono ?_
  rintro e w1 ⟨rfl, hr0, hgr0⟩
  have hb0 : Below w.heap.size w w1 := ⟨hgr0.os, hgr0.tape, hgr0.output, hgr0.size, fun k hk => hgr0.block k hk (by simp)⟩
  have HR0 := Lib.hid hr0
  have HB0 := Lib.hid hb0
  clear hr0 hgr0 hb0
  go_wp2_with fail
  refine (go_any w.heap.size 0 3 g0 _ HR0.out (by omega) (by omega) (by omega) (fun i hi => by have := HZ.out i hi; omega) rfl).mono ?_
  rintro e w2 ⟨rfl, hr2, hg2⟩
  have HB2 := Lib.hid (below_row HB0.out (Nat.le_refl _) (Nat.le_refl _) hg2)
  have HR2 := Lib.hid hr2
  clear hr2 hg2
  go_wp2_with fail
  refine (go_any w.heap.size 1 1 (goF g0 0 3) _ HR2.out (by omega) (by omega) (by omega) (fun i hi => by have := HB1.out i hi; omega) (by unfold goF; rw [many_zero]; rfl)).mono ?_
  rintro e w3 ⟨rfl, hr3, hg3⟩
  have HB3 := Lib.hid (below_row HB2.out (Nat.le_refl _) (Nat.le_refl _) hg3)
  have HR3 := Lib.hid hr3
  clear hr3 hg3
  go_wp2_with fail
  refine (ahead_any w.heap.size 0 1 _ _ HR3.out (by omega) (by omega)).mono ?_
  rintro e w4 ⟨rfl, rfl⟩
  rw [E1.out]
  go_wp2_with fail
  refine (ahead_any w.heap.size 1 0 _ _ HR3.out (by omega) (by omega)).mono ?_
  rintro e w4 ⟨rfl, rfl⟩
  rw [E2.out]
  go_wp2_with fail
  refine (within_any w.heap.size 2 3 _ _ HR3.out (by omega)).mono ?_
  rintro e w4 ⟨rfl, rfl⟩
  rw [E3.out]
  go_wp2_with fail
  refine (within_any w.heap.size 2 2 _ _ HR3.out (by omega)).mono ?_
  rintro e w4 ⟨rfl, rfl⟩
  rw [E4.out]
  go_wp2_with fail
  go_ret
  exact ⟨rfl, HB3.out⟩

/-! ### the document's Ahead -/
/-- what is left of the list from place k on -/
def left (d : Nat → Int) (len : Nat) (k : Nat) : List Int := (List.range (len - k)).map fun j => d (k + j)
theorem left_cons (d : Nat → Int) (len k : Nat) (h : k < len) : left d len k = d k :: left d len (k + 1) := by
  unfold left
  rw [show len - k = (len - (k + 1)) + 1 by omega, List.range_succ_eq_map, List.map_cons, List.map_map]
  have e : ((fun j => d (k + j)) ∘ Nat.succ) = fun j => d (k + 1 + j) := by
    funext j
    simp only [Function.comp]
    congr 1
    omega
  rw [e]
  rfl
theorem left_nil (d : Nat → Int) (len : Nat) : left d len len = [] := by simp [left]

def addI (a b : Nat) (nd tk : Nat → Int) (k : Nat) : Int := (if nd k = a then tk k else 0) - 2 * (if nd k = b then tk k else 0)

def APost (r : Int) (w : World) (e : Ending) (w' : World) : Prop := e = .returned (.int .i64 r) ∧ w = w'

set_option maxHeartbeats 1000000 in
theorem refahead_any (ao : Option Addr) (len cap a b : Nat) (nd tk : Nat → Int) (w : World) (hao : len = 0 ∨ ∃ g off, ao = some ⟨g, off, none⟩ ∧
      ∀ i, i < len → w.cell? ⟨g, off + i * 2, none⟩ = some (.int .i64 (nd i)) ∧ w.cell? ⟨g, off + i * 2 + 1, none⟩ = some (.int .i64 (tk i)))
    (hlen : len ≤ 60) (ht : ∀ i, i < len → 0 ≤ tk i ∧ tk i ≤ 64) (ha : a < 5) (hb : b < 5) :
    Calls Try.prog 33 #[.slice ao len cap, .int .i64 2, .int .i64 a, .int .i64 b] w (APost (if a = b then 0 else outer 0 (left (addI a b nd tk) len 0)) w) := by
  have HAO := Lib.hid hao
  have HT := Lib.hid ht
  clear hao ht
  by_cases hab : a = b
  · subst hab
    go_enter Try.func33, Try.ntmps33
    go_wp2
    go_ret
    exact ⟨rfl, rfl⟩
  · have hne : ((a : Int) == (b : Int)) = false := by simp; omega
    rw [if_neg hab]
    obtain ⟨D, hD⟩ : ∃ D, D = addI a b nd tk := ⟨_, rfl⟩
    obtain ⟨C, hC⟩ : ∃ C, C = outer 0 (left D len 0) := ⟨_, rfl⟩
    rw [← hD, ← hC]
    have HD := Lib.hid hD
    have HC := Lib.hid hC
    have HAB := Lib.hid hab
    clear hD hC hab
    go_enter Try.func33, Try.ntmps33
    go_wp2
    go_loop [9, 10] (fun bv iv => ∃ (i : Nat) (bst : Int), i ≤ len ∧ iv = .int .i64 i ∧ bv = .int .i64 bst ∧ 0 ≤ bst ∧ bst ≤ 4000 ∧ Hid (outer bst (left D len i) = C)) (fun _ iv => len - (intOf iv).toNat)
    case atStart => exact ⟨0, 0, by omega, rfl, rfl, by omega, by omega, Lib.hid HC.out.symm⟩
    case round =>
      obtain ⟨i, bst, hi, rfl, rfl, b0, b1, HO⟩ := hrel
      by_cases hlt : i < len
      · go_wp2
        go_loop [9, 11, 12] (fun bv nv kv => ∃ (k : Nat) (bst n : Int), i ≤ k ∧ k ≤ len ∧ kv = .int .i64 k ∧ bv = .int .i64 bst ∧ nv = .int .i64 n ∧ 0 ≤ bst ∧ bst ≤ 4000 ∧ n ≤ 64 * k ∧ -(128 * k) ≤ n ∧ n ≤ bst ∧
            Hid (outer (inner (bst, n) (left D len k)).1 (left D len (i + 1)) = C)) (fun _ _ kv => len - (intOf kv).toNat)
        case atStart => exact ⟨i, bst, 0, by omega, by omega, rfl, rfl, rfl, by omega, by omega, by omega, by omega, by omega, Lib.hid (by have := HO.out; rw [left_cons D len i hlt] at this ⊢; exact this)⟩
        case round =>
          obtain ⟨k, bs2, n, hik, hk, rfl, rfl, rfl, b2, b3, n1, n2, n3, HI⟩ := hrel
          by_cases hklt : k < len
          · rcases HAO.out with h0 | ⟨g, off, rfl, hc⟩
            · omega
            obtain ⟨c0, c1⟩ := hc k hklt
            obtain ⟨t0, t1⟩ := HT.out k hklt
            have HL := Lib.hid (left_cons D len k hklt)
            have hdk : D k = addI a b nd tk k := by rw [HD.out]
            have HDK := Lib.hid hdk
            clear hc hdk
            cases q1 : (nd k == (a : Int))
            · cases q2 : (nd k == (b : Int))
              · have hd : D k = 0 := by rw [HDK.out]; unfold addI; rw [if_neg (by simpa using q1), if_neg (by simpa using q2)]; rfl
                have HH := Lib.hid hd
                clear hd
                go_wp2
                go_round
                case rel => exact ⟨k + 1, bs2, n, by omega, by omega, by go_num, rfl, rfl, b2, b3, by omega, by omega, n3, Lib.hid (by
                  have := HI.out; rw [HL.out] at this; unfold inner at this; rw [HH.out, Int.add_zero, show max bs2 n = bs2 by omega] at this; exact this)⟩
                case measure => simp [intOf]; omega
              · have hd : D k = - (2 * tk k) := by rw [HDK.out]; unfold addI; rw [if_neg (by simpa using q1), if_pos (by simpa using q2)]; omega
                have HH := Lib.hid hd
                clear hd
                go_wp2
                go_round
                case rel => exact ⟨k + 1, bs2, n - 2 * tk k, by omega, by omega, by go_num, rfl, by go_num, b2, b3, by omega, by omega, by omega, Lib.hid (by
                  have := HI.out; rw [HL.out] at this; unfold inner at this; rw [HH.out, show max bs2 (n + -(2 * tk k)) = bs2 by omega, show n + -(2 * tk k) = n - 2 * tk k by omega] at this; exact this)⟩
                case measure => simp [intOf]; omega
            · have q2 : (nd k == (b : Int)) = false := by have := HAB.out; simp at q1 ⊢; omega
              have hd : D k = tk k := by rw [HDK.out]; unfold addI; rw [if_pos (by simpa using q1), if_neg (by simpa using q2)]; omega
              have HH := Lib.hid hd
              clear hd
              by_cases hbig : bs2 < n + tk k
              · go_wp2
                go_round
                case rel => exact ⟨k + 1, n + tk k, n + tk k, by omega, by omega, by go_num, rfl, rfl, by omega, by omega, by omega, by omega, by omega, Lib.hid (by
                  have := HI.out; rw [HL.out] at this; unfold inner at this; rw [HH.out, show max bs2 (n + tk k) = n + tk k by omega] at this; exact this)⟩
                case measure => simp [intOf]; omega
              · go_wp2
                go_round
                case rel => exact ⟨k + 1, bs2, n + tk k, by omega, by omega, by go_num, rfl, rfl, by omega, by omega, by omega, by omega, by omega, Lib.hid (by
                  have := HI.out; rw [HL.out] at this; unfold inner at this; rw [HH.out, show max bs2 (n + tk k) = bs2 by omega] at this; exact this)⟩
                case measure => simp [intOf]; omega
          · obtain rfl : k = len := by omega
            go_wp2
            go_round
            case rel => exact ⟨i + 1, bs2, by omega, by go_num, rfl, b2, b3, Lib.hid (by have := HI.out; rw [left_nil] at this; exact this)⟩
            case measure => simp [intOf]; omega
      · obtain rfl : i = len := by omega
        go_wp2
        go_ret
        exact ⟨by have := HO.out; rw [left_nil] at this; rw [← this]; rfl, rfl⟩

/-! ### the law -/
theorem info_T : (Try.prog.info? 62).map (fun i => (i.zero, i.size, i.bytes)) = some (some (.agg #[.int .i64 0, .int .i64 0]), 2, 16) := by kernel_rfl

/-- the cells of the document's list of events -/
def evCells (l : List (Nat × Int)) : List Value := l.flatMap fun e => [.int .i64 e.1, .int .i64 e.2]
theorem evCells_len (l : List (Nat × Int)) : (evCells l).length = l.length * 2 := by
  induction l with
  | nil => rfl
  | cons x l ih => show ([Value.int .i64 x.1, .int .i64 x.2] ++ evCells l).length = _; rw [List.length_append, ih]; simp; omega
theorem evCells_snoc (l : List (Nat × Int)) (e : Nat × Int) : evCells (l ++ [e]) = evCells l ++ [.int .i64 e.1, .int .i64 e.2] := by simp [evCells]
theorem evCells_get (l : List (Nat × Int)) : ∀ i (h : i < l.length), (evCells l)[i * 2]? = some (.int .i64 (l[i]).1) ∧ (evCells l)[i * 2 + 1]? = some (.int .i64 (l[i]).2) := by
  induction l with
  | nil => intro i h; simp at h
  | cons x l ih =>
    intro i h
    have e : evCells (x :: l) = Value.int .i64 x.1 :: Value.int .i64 x.2 :: evCells l := rfl
    cases i with
    | zero => rw [e]; exact ⟨rfl, rfl⟩
    | succ i =>
      rw [e, show (i + 1) * 2 = i * 2 + 1 + 1 by omega]
      have := ih i (by simpa using h)
      simpa using this
def nds (l : List (Nat × Int)) (i : Nat) : Int := ((l[i]?.getD (0, 0)).1 : Nat)
def tks (l : List (Nat × Int)) (i : Nat) : Int := (l[i]?.getD (0, 0)).2
theorem evs_cells {w : World} {B : Nat} {v : Value} {l : List (Nat × Int)} (h : w.ownsRow B 62 2 v l.length (evCells l)) :
    ∃ mo mc, v = .slice mo l.length mc ∧ (l.length = 0 ∨ ∃ g off, mo = some ⟨g, off, none⟩ ∧ ∀ i, i < l.length → w.cell? ⟨g, off + i * 2, none⟩ = some (.int .i64 (nds l i)) ∧ w.cell? ⟨g, off + i * 2 + 1, none⟩ = some (.int .i64 (tks l i))) := by
  have h0 := h
  obtain ⟨h1, h2⟩ := h
  rcases h2 with ⟨rfl, hl⟩ | ⟨g, cap, cur, rfl, hg, r⟩
  · exact ⟨none, 0, by rw [hl], Or.inl hl⟩
  · refine ⟨some ⟨g, 0, none⟩, cap, rfl, Or.inr ⟨g, 0, rfl, fun i hi => ?_⟩⟩
    obtain ⟨e1, e2⟩ := evCells_get l i hi
    have c1 := h0.cellAt (i * 2) (by omega)
    have c2 := h0.cellAt (i * 2 + 1) (by omega)
    rw [Nat.zero_add, c1, c2, e1, e2]
    simp [nds, tks, hi]

def rowW (l : List (Nat × Int)) (sl : Int) (a b : Nat) : Bool := (List.range b).all fun b => decide (aheadF l a b ≤ sl)
def colW (l : List (Nat × Int)) (sl : Int) (N a : Nat) : Bool := (List.range a).all fun a => rowW l sl a N
theorem rowW_succ (l : List (Nat × Int)) (sl : Int) (a b : Nat) : rowW l sl a (b + 1) = (rowW l sl a b && decide (aheadF l a b ≤ sl)) := by simp [rowW, List.range_succ]
theorem colW_succ (l : List (Nat × Int)) (sl : Int) (N a : Nat) : colW l sl N (a + 1) = (colW l sl N a && rowW l sl a N) := by simp [colW, List.range_succ]

theorem left_map (l : List (Nat × Int)) (a b : Nat) : left (addI a b (nds l) (tks l)) l.length 0 = l.map (add a b) := by
  unfold left
  apply List.ext_getElem
  · simp
  · intro i h1 h2
    have hi : i < l.length := by simpa using h1
    have hc : ∀ x y : Nat, ((x : Int) = (y : Int)) ↔ x = y := fun x y => Int.ofNat_inj
    simp [addI, add, nds, tks, hi, hc]

set_option maxRecDepth 100000 in
set_option maxHeartbeats 1000000 in
theorem build_any (nodes : Int) (ao : Option Addr) (len cap : Nat) (s : Steps) (w : World) (hao : len = 0 ∨ ∃ b off, ao = some ⟨b, off, none⟩ ∧ b < w.heap.size ∧ ∀ i, i < len → s.At w b off i)
    (hlen : len ≤ 60) (h1 : 1 ≤ nodes) (h5 : nodes ≤ 5) (hfit : ∀ i, i < len → s.Fit i) :
    Calls Try.prog 10 #[.int .i64 nodes, .slice ao len cap] w fun e w' => e = .returned (.bool true) ∧ Below w.heap.size w w' := by
  obtain ⟨N, rfl⟩ : ∃ N : Nat, nodes = N := ⟨nodes.toNat, by omega⟩
  have HAO := Lib.hid hao
  have HF := Lib.hid hfit
  clear hao hfit
  obtain ⟨i0, hi, hz0, hz1, hz2⟩ := info_parts info_T
  have HI := Lib.hid hi
  have HZ0 := Lib.hid hz0
  have HZ1 := Lib.hid hz1
  have HZ2 := Lib.hid hz2
  clear hi hz0 hz1 hz2
  go_enter Try.func10, Try.ntmps10
  go_wp2_with fail
  go_loopw [5, 6] (fun mv iv wr => ∃ k : Nat, k ≤ len ∧ iv = .int .i64 k ∧ Hid (wr.ownsRow w.heap.size 62 2 mv (evl N s.kd s.n s.t k).length (evCells (evl N s.kd s.n s.t k))) ∧ Below w.heap.size w wr) (fun _ iv _ => len - (intOf iv).toNat)
  case atStart => exact ⟨0, by omega, rfl, Lib.hid (World.ownsRow_nil _ _ _ _), Below.refl _ _⟩
  case round =>
    obtain ⟨k, hk, rfl, hown, hb⟩ := hrel
    by_cases hlt : k < len
    · rcases HAO.out with h0 | ⟨b, off, rfl, hbs, hc⟩
      · omega
      obtain ⟨c0, c1, c2, c3, c4, c5, c6, c7, c8⟩ := stepAt_same (hc k hlt) (hb.block b hbs)
      obtain ⟨n1, n2⟩ := HF.out k hlt
      obtain ⟨t1, t2⟩ := tmod_bd (s.n k) N h1
      have hsz := hb.size
      have hll := evl_len N s.kd s.n s.t k
      have HLL := Lib.hid hll
      clear hc c3 c4 c5 c6 c7 c8 hll
      cases k10 : (s.kd k == 10)
      · have hev : evOf N (s.kd k) (s.n k) (s.t k) = [] := by unfold evOf; rw [if_neg (by simpa using k10)]
        have HE := Lib.hid hev
        clear hev
        by_cases hneg : (s.n k).tmod N < 0
        all_goals
          go_wp2
          go_roundw
          case rel => exact ⟨k + 1, by omega, by go_num, by unfold evl; rw [HE.out, List.append_nil]; exact hown, hb⟩
          case measure => simp [intOf]; omega
      · by_cases hneg : (s.n k).tmod N < 0
        · obtain ⟨nd, hnd⟩ : ∃ nd : Nat, (s.n k).tmod N + N = (nd : Int) := ⟨((s.n k).tmod N + N).toNat, by omega⟩
          have hev : evOf N (s.kd k) (s.n k) (s.t k) = [(nd, min (max (s.t k) 0) 64)] := by
            unfold evOf; rw [if_pos (by simpa using k10), if_pos hneg, hnd]; rfl
          have HE := Lib.hid hev
          clear hev
          go_wp2_with (at_builtin; refine wpList_append_own _ rfl _ _ 56 rfl w.heap.size 62 i0 (.agg #[.int .i64 0, .int .i64 0]) 2 16 Try.underlying56 HI.out HZ0.out HZ1.out HZ2.out rfl (by decide) _ _ _ rfl (hown.out.alloc _) ⟨wr.heap.size, 0, none⟩ 1 1 [.int .i64 nd, .int .i64 (min (max (s.t k) 0) 64)] rfl rfl ?c1 ?c2 ?c3 ?c4 ?c5 ?_)
          case c1 => exact new_cells _ [_, _] _
          case c2 => intro u hu; simp at hu; rcases hu with rfl | rfl <;> rfl
          case c3 => have := HLL.out; unfold maxLen; omega
          case c4 => have := HLL.out; omega
          case c5 => simp; omega
          intro v' w2 hown2 hgrow2 _
          have R := Lib.hid hown2
          have hb2 : Below w.heap.size w w2 := (hb.alloc hsz _).grown hgrow2 (by simp; omega) (fun k hk => (World.ownsRow.lt hown.out k hk).1)
          clear hown2 hgrow2
          go_wp2
          go_roundw
          case rel => exact ⟨k + 1, by omega, by go_num, by unfold evl; rw [HE.out, evCells_snoc, List.length_append]; exact R, hb2⟩
          case measure => simp [intOf]; omega
        · obtain ⟨nd, hnd⟩ : ∃ nd : Nat, (s.n k).tmod N = (nd : Int) := ⟨((s.n k).tmod N).toNat, by omega⟩
          have hev : evOf N (s.kd k) (s.n k) (s.t k) = [(nd, min (max (s.t k) 0) 64)] := by
            unfold evOf; rw [if_pos (by simpa using k10), if_neg hneg, hnd, Int.add_zero]; rfl
          have HE := Lib.hid hev
          clear hev
          go_wp2_with (at_builtin; refine wpList_append_own _ rfl _ _ 56 rfl w.heap.size 62 i0 (.agg #[.int .i64 0, .int .i64 0]) 2 16 Try.underlying56 HI.out HZ0.out HZ1.out HZ2.out rfl (by decide) _ _ _ rfl (hown.out.alloc _) ⟨wr.heap.size, 0, none⟩ 1 1 [.int .i64 nd, .int .i64 (min (max (s.t k) 0) 64)] rfl rfl ?d1 ?d2 ?d3 ?d4 ?d5 ?_)
          try (case d1 => exact new_cells _ [_, _] _)
          case d2 => first | (intro u hu; simp at hu; rcases hu with rfl | rfl <;> rfl) | exact ⟨rfl, rfl⟩
          case d3 => have := HLL.out; unfold maxLen; omega
          case d4 => have := HLL.out; omega
          case d5 => first | (simp; omega) | omega
          intro v' w2 hown2 hgrow2 _
          have R := Lib.hid hown2
          have hb2 : Below w.heap.size w w2 := (hb.alloc hsz _).grown hgrow2 (by simp; omega) (fun k hk => (World.ownsRow.lt hown.out k hk).1)
          clear hown2 hgrow2
          go_wp2
          go_roundw
          case rel => exact ⟨k + 1, by omega, by go_num, by unfold evl; rw [HE.out, evCells_snoc, List.length_append]; exact R, hb2⟩
          case measure => simp [intOf]; omega
    · obtain rfl : k = len := by omega
      have hgood := evl_good N s.kd s.n s.t k h1 h5
      have hll := evl_len N s.kd s.n s.t k
      obtain ⟨l, hl⟩ : ∃ l, l = evl N s.kd s.n s.t k := ⟨_, rfl⟩
      rw [← hl] at hown hgood hll
      have hHA : ∃ mo mc, u5 = .slice mo l.length mc ∧ (l.length = 0 ∨ ∃ g off, mo = some ⟨g, off, none⟩ ∧ ∀ i, i < l.length → wr.cell? ⟨g, off + i * 2, none⟩ = some (.int .i64 (nds l i)) ∧ wr.cell? ⟨g, off + i * 2 + 1, none⟩ = some (.int .i64 (tks l i))) :=
        evs_cells hown.out
      obtain ⟨mo, mc, rfl, hmc⟩ := hHA
      have HM := Lib.hid hmc
      have HL := Lib.hid hl
      have HGD := Lib.hid hgood
      have HW : ∀ i, i < l.length → 0 ≤ tks l i ∧ tks l i ≤ 64 := fun i hi => by
        have := hgood l[i] (List.getElem_mem hi)
        simp only [tks, List.getElem?_eq_getElem hi, Option.getD_some]
        omega
      have HTK := Lib.hid HW
      clear hmc hl hgood HW hown
      go_wp2_with fail
      go_loop [8, 9] (fun wv av => ∃ (a : Nat) (q : Bool), a ≤ N ∧ av = .int .i64 a ∧ wv = .bool q ∧ Hid (q = colW l 4 N a)) (fun _ av => N - (intOf av).toNat)
      case atStart => exact ⟨0, true, by omega, rfl, rfl, Lib.hid rfl⟩
      case round =>
        obtain ⟨a, q, ha, rfl, rfl, hq⟩ := hrel
        by_cases halt : a < N
        · go_wp2_with fail
          go_loop [8, 10] (fun wv bv => ∃ (b : Nat) (q : Bool), b ≤ N ∧ bv = .int .i64 b ∧ wv = .bool q ∧ Hid (q = (colW l 4 N a && rowW l 4 a b))) (fun _ bv => N - (intOf bv).toNat)
          case atStart => exact ⟨0, q, by omega, rfl, rfl, Lib.hid (by rw [hq.out]; simp [rowW])⟩
          case round =>
            obtain ⟨b, q', hb', rfl, rfl, hq'⟩ := hrel
            by_cases hblt : b < N
            · cases q'
              · go_wp2_with fail
                go_round
                case rel => exact ⟨b + 1, false, by omega, by go_num, rfl, Lib.hid (by rw [rowW_succ, ← Bool.and_assoc, ← hq'.out]; rfl)⟩
                case measure => simp [intOf]; omega
              · go_wp2_with fail
                refine (refahead_any mo l.length mc a b (nds l) (tks l) _ HM.out (by omega) HTK.out (by omega) (by omega)).mono ?_
                rintro e w2 ⟨rfl, rfl⟩
                have hA : (if a = b then 0 else outer 0 (left (addI a b (nds l) (tks l)) l.length 0)) = aheadF l a b := by unfold aheadF; rw [left_map]
                rw [hA]
                clear hA
                obtain ⟨v, hv⟩ : ∃ v, v = aheadF l a b := ⟨_, rfl⟩
                rw [← hv]
                have HV := Lib.hid hv
                clear hv
                cases h4 : decide (v ≤ 4)
                · go_wp2_with fail
                  go_round
                  case rel => exact ⟨b + 1, false, by omega, by go_num, rfl, Lib.hid (by rw [rowW_succ, ← Bool.and_assoc, ← hq'.out, ← HV.out, h4]; rfl)⟩
                  case measure => simp [intOf]; omega
                · go_wp2_with fail
                  go_round
                  case rel => exact ⟨b + 1, true, by omega, by go_num, rfl, Lib.hid (by rw [rowW_succ, ← Bool.and_assoc, ← hq'.out, ← HV.out, h4]; rfl)⟩
                  case measure => simp [intOf]; omega
            · obtain rfl : b = N := by omega
              go_wp2_with fail
              go_round
              case rel => exact ⟨a + 1, q', by omega, by go_num, rfl, Lib.hid (by rw [colW_succ]; exact hq'.out)⟩
              case measure => simp [intOf]; omega
        · obtain rfl : a = N := by omega
          have hst : k = 0 ∨ ∃ b off, ao = some ⟨b, off, none⟩ ∧ b < wr.heap.size ∧ ∀ i, i < k → s.At wr b off i := by
            rcases HAO.out with h0 | ⟨b, off, rfl, hbs, hc⟩
            · exact Or.inl h0
            · exact Or.inr ⟨b, off, rfl, by have := hb.size; omega, fun i hi => stepAt_same (hc i hi) (hb.block b hbs)⟩
          have HST := Lib.hid hst
          clear hst
          go_wp2_with fail
          refine (steady_any a ao k cap s _ HST.out hlen h1 h5 HF.out).mono ?_
          rintro e w2 ⟨rfl, hb2⟩
          rw [Int.toNat_natCast, ← HL.out]
          have hq2 : q = wantF l 4 a := hq.out
          rw [← hq2]
          have HB := Lib.hid (below_then hb (Nat.le_refl _) hb2)
          clear hb2 hq2
          go_wp2_with fail
          refine (alive_any _).mono ?_
          rintro e w3 ⟨rfl, hb3⟩
          have HB3 := Lib.hid (below_then HB.out (Nat.le_refl _) hb3)
          clear hb3
          go_wp2_with fail
          go_ret
          exact ⟨rfl, HB3.out⟩

theorem skewSteady_any (nodes : Int) (ao : Option Addr) (len cap : Nat) (s : Steps) (w : World) (hao : len = 0 ∨ ∃ b off, ao = some ⟨b, off, none⟩ ∧ b < w.heap.size ∧ ∀ i, i < len → s.At w b off i)
    (hfit : ∀ i, i < len → s.Fit i) (hl : len ≤ 9223372036854775807) :
    Calls Try.prog 10 #[.int .i64 nodes, .slice ao len cap] w fun e w' => e = .returned (.bool true) ∧ Below w.heap.size w w' := by
  by_cases hlen : len ≤ 60
  · by_cases hin : 1 ≤ nodes ∧ nodes ≤ 5
    · exact build_any nodes ao len cap s w hao hlen hin.1 hin.2 hfit
    · have ho : nodes < 1 ∨ 5 < nodes := by omega
      have HO := Lib.hid ho
      clear hao hfit hin
      rcases ho with h | h
      all_goals
        go_enter Try.func10, Try.ntmps10
        go_wp2_with fail
        refine (steady_out nodes _ _ HO.out).mono ?_
        rintro e w2 ⟨rfl, hb2⟩
        have HB := Lib.hid hb2
        clear hb2
        go_wp2_with fail
        refine (alive_any _).mono ?_
        rintro e w3 ⟨rfl, hb3⟩
        have HB3 := Lib.hid (below_then HB.out (Nat.le_refl _) hb3)
        clear hb3
        go_wp2_with fail
        go_ret
        exact ⟨rfl, HB3.out⟩
  · clear hao hfit
    go_enter Try.func10, Try.ntmps10
    go_wp2
    go_ret
    exact ⟨rfl, Below.refl _ _⟩
end Go.Proofs.Ytigeieahhkoolaa.Skew
