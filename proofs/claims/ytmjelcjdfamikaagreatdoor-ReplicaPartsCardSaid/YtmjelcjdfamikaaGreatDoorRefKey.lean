/- The walks of cenotaphref01.Bad, Val, letter, Key (layer 1): as the program's. -/
import Derived.Test.YtmjelcjdfamikaaGreatDoorMutRights
import Derived.Test.YtmjelcjdfamikaaGreatDoorTexts
import Derived.Test.YtmjelcjdfamikaaGreatDoorSlRow
import Derived.Shelf.Unicode.ValidAny
import Derived.Lib.ValidLaws
import Derived.Lib.RuneCountTail
set_option linter.unusedSimpArgs false
set_option linter.unusedVariables false
namespace Go.Proofs.YtmjelcjdfamikaaGreatDoor.Mut
open Go.RowKit Go.Shelf Go.Sort Go.Proofs.YtmjelcjdfamikaaGreatDoor.Ord
set_option linter.unusedSectionVars false
variable [Inhabited Lim]

def layVal_ren : Go.Shelf.Ren := ⟨fun | 196 => 157 | 259 => 195 | n => n, fun | 9 => 9 | 3 => 3 | 4 => 4 | 5 => 5 | 12 => 12 | 53 => 171 | 119 => 230 | 0 => 0 | 46 => 119 | 139 => 233 | 138 => 232 | n => n, fun | 3 => 0 | 4 => 1 | n => n⟩
theorem layVal : Go.Proofs.Lays.n196 Tryz.prog layVal_ren := {
  mixed := by kernel_rfl
  f196 := Tryz.func157.trans (congrArg some (by kernel_rfl))
  f259 := Tryz.func195.trans (congrArg some (by kernel_rfl))
  t0 := Tryz.underlying0
  a0 := Tryz.isAgg0
  z0 := Tryz.sizeOf0
  v0 := Tryz.zeroValue0
  t3 := Tryz.underlying3
  a3 := Tryz.isAgg3
  z3 := Tryz.sizeOf3
  v3 := Tryz.zeroValue3
  t4 := Tryz.underlying4
  a4 := Tryz.isAgg4
  z4 := Tryz.sizeOf4
  v4 := Tryz.zeroValue4
  t5 := Tryz.underlying5
  a5 := Tryz.isAgg5
  z5 := Tryz.sizeOf5
  v5 := Tryz.zeroValue5
  t9 := Tryz.underlying9
  a9 := Tryz.isAgg9
  z9 := Tryz.sizeOf9
  v9 := Tryz.zeroValue9
  t12 := Tryz.underlying12
  a12 := Tryz.isAgg12
  z12 := Tryz.sizeOf12
  v12 := Tryz.zeroValue12
  t46 := Tryz.underlying119
  a46 := Tryz.isAgg119
  z46 := Tryz.sizeOf119
  v46 := Tryz.zeroValue119
  t53 := Tryz.underlying171
  a53 := Tryz.isAgg171
  z53 := Tryz.sizeOf171
  v53 := Tryz.zeroValue171
  t119 := Tryz.underlying230
  a119 := Tryz.isAgg230
  z119 := Tryz.sizeOf230
  t138 := Tryz.underlying232
  a138 := Tryz.isAgg232
  z138 := Tryz.sizeOf232
  v138 := Tryz.zeroValue232
  t139 := Tryz.underlying233
  a139 := Tryz.isAgg233
  z139 := Tryz.sizeOf233
  v139 := Tryz.zeroValue233
  g3 := by kernel_rfl
  g4 := by kernel_rfl }

theorem ext_list (s : ByteArray) (p : Nat) : (s.extract p s.size).data.toList = s.data.toList.drop p := by
  rw [ByteArray.data_extract, Array.toList_extract, List.extract_eq_take_drop]
  exact List.take_of_length_le (by rw [List.length_drop]; exact Nat.le_refl _)

theorem valid_from (s : ByteArray) : ∀ (f pos : Nat), s.size ≤ pos + f → valFrom s f pos = Lib.validD (s.extract pos s.size).data.toList := by
  intro f
  induction f with
  | zero =>
    intro pos h
    have : (s.extract pos s.size).data.toList = [] := by
      apply List.eq_nil_of_length_eq_zero
      have := ByteArray.size_extract (a := s) (b := pos) (e := s.size)
      have h2 : (s.extract pos s.size).size = 0 := by rw [this]; omega
      simpa using h2
    rw [this]; rfl
  | succ f ih =>
    intro pos h
    by_cases hp : pos < s.size
    · have hsz : (s.extract pos s.size).size = s.size - pos := by rw [ByteArray.size_extract]; omega
      have hne : (s.extract pos s.size).data.toList ≠ [] := by
        intro e
        have h2 := congrArg List.length e
        have h3 : (s.extract pos s.size).data.toList.length = (s.extract pos s.size).size := by simp
        rw [h3, hsz] at h2
        simp at h2
        omega
      rw [valFrom_step s f hp, Lib.validD_step _ hne]
      have hd : Lib.decodeL (s.extract pos s.size).data.toList = Utf8.decode s pos := by
        show Utf8.decode (s.extract pos s.size) 0 = _
        rw [Lib.tail_decode, Nat.add_zero]
      have hg : Lib.decodeGo (s.extract pos s.size) = Utf8.decode s pos := by
        unfold Lib.decodeGo
        rw [if_neg (by omega), Lib.tail_decode, Nat.add_zero]
      have hw := width_pos s pos hp
      rw [hd]
      have hb : badF s pos (Utf8.decode s pos).1 = decide ((Utf8.decode s pos).1 = 65533 ∧ (Utf8.decode s pos).2 = 1) := by
        unfold badF
        rw [hg]
        by_cases e1 : (Utf8.decode s pos).1 = 65533
        · have : (((Utf8.decode s pos).1 : Nat) : Int) = 65533 := by omega
          by_cases e2 : (Utf8.decode s pos).2 = 1
          · simp [e1, e2]
          · have h2 : ¬ (Utf8.decode s pos).2 < 2 := by omega
            have h3 : ¬ (((Utf8.decode s pos).2 : Nat) : Int) < 2 := by omega
            simp [e1, e2, h3]
        · have : ¬ (((Utf8.decode s pos).1 : Nat) : Int) = 65533 := by omega
          simp [e1, this]
      rw [hb]
      have hdrop : (s.extract pos s.size).data.toList.drop (Utf8.decode s pos).2 = (s.extract (pos + (Utf8.decode s pos).2) s.size).data.toList := by
        rw [ext_list, ext_list, List.drop_drop]
      rw [hdrop, ← ih (pos + (Utf8.decode s pos).2) (by omega)]
      by_cases hc : (Utf8.decode s pos).1 = 65533 ∧ (Utf8.decode s pos).2 = 1
      · rw [if_pos hc, decide_eq_true hc]; rfl
      · rw [if_neg hc, decide_eq_false hc]; rfl
    · rw [valFrom_end s _ hp]
      have : (s.extract pos s.size).data.toList = [] := by
        apply List.eq_nil_of_length_eq_zero
        have := ByteArray.size_extract (a := s) (b := pos) (e := s.size)
        have h2 : (s.extract pos s.size).size = 0 := by rw [this]; omega
        simpa using h2
      rw [this]; rfl
theorem valid_all (s : ByteArray) : Lib.validD s.data.toList = valFrom s s.size 0 := by
  rw [valid_from s s.size 0 (by omega)]
  rw [ext_list, List.drop_zero]

theorem refbad_any (s : ByteArray) (w : World) (hT : Tabs w) (hs : s.size ≤ 1000000) : Calls Tryz.prog 112 #[.string s] w fun e w' => e = .returned (.bool (!valFrom s s.size 0)) ∧ RowKit.Below w.heap.size w w' := by
  have hc := Any.utf8_ValidString layVal s w (by omega) hT
  rw [valid_all] at hc
  have HC := Lib.hid hc
  obtain ⟨q, hq⟩ : ∃ q, q = valFrom s s.size 0 := ⟨_, rfl⟩
  rw [← hq] at HC ⊢
  clear hc hq hT
  go_enter Tryz.func112, Tryz.ntmps112
  go_wp2_with fail
  refine HC.out.mono ?_
  rintro e w1 ⟨rfl, hb⟩
  go_wp2_with fail
  go_ret
  exact ⟨rfl, hb⟩

set_option maxHeartbeats 1000000 in
theorem refval_any (s : ByteArray) (w : World) (hT : Tabs w) (hs : s.size ≤ 1000000) : Calls Tryz.prog 73 #[.string s] w fun e w' => e = .returned (.bool (valF s)) ∧ RowKit.Below w.heap.size w w' := by
  have HB := Lib.hid (refbad_any s w hT hs)
  by_cases h64 : s.size ≤ 64
  · have hv : valF s = valFrom s s.size 0 := by unfold valF; rw [decide_eq_true h64]; rfl
    rw [hv]
    obtain ⟨q, hq⟩ : ∃ q, q = valFrom s s.size 0 := ⟨_, rfl⟩
    rw [← hq] at HB ⊢
    clear hv hq hT
    have hd : decide ((s.size : Int) ≤ 64) = true := decide_eq_true (by omega)
    go_enter Tryz.func73, Tryz.ntmps73
    go_wp2_with fail
    refine HB.out.mono ?_
    rintro e w1 ⟨rfl, hb⟩
    go_wp2_with fail
    go_ret
    exact ⟨ret_bool (by simp), hb⟩
  · have hv : valF s = false := by unfold valF; rw [decide_eq_false h64]; rfl
    rw [hv]
    clear hv hT HB
    have hd : decide ((s.size : Int) ≤ 64) = false := decide_eq_false (by omega)
    go_enter Tryz.func73, Tryz.ntmps73
    go_wp2_with fail
    go_ret
    exact ⟨rfl, Below.refl _ _⟩

/-- Is a rune a letter? May it be within a key? -/
def letF (r : Int) : Bool := decide (128 ≤ r) || ((decide (65 ≤ r) && decide (r ≤ 90)) || (decide (97 ≤ r) && decide (r ≤ 122)))
def okR (r : Int) : Bool := letF r || ((decide (48 ≤ r) && decide (r ≤ 57)) || (r == 45 || r == 95))
theorem part_first (r : Int) : partF r true = letF r := by
  unfold partF letF
  cases decide (97 ≤ r) <;> cases decide (r ≤ 122) <;> cases decide (65 ≤ r) <;> cases decide (r ≤ 90) <;> cases decide (128 ≤ r) <;> rfl
theorem part_rest (r : Int) : partF r false = okR r := by
  unfold partF okR letF
  cases decide (97 ≤ r) <;> cases decide (r ≤ 122) <;> cases decide (65 ≤ r) <;> cases decide (r ≤ 90) <;> cases decide (128 ≤ r) <;> simp
set_option maxHeartbeats 1000000 in
theorem letter_any (r : Int) (w : World) : Calls Tryz.prog 113 #[.int .i32 r] w fun e w' => e = .returned (.bool (letF r)) ∧ w = w' := by
  unfold letF
  have hc : r ≤ 64 ∨ (65 ≤ r ∧ r ≤ 90) ∨ (91 ≤ r ∧ r ≤ 96) ∨ (97 ≤ r ∧ r ≤ 122) ∨ (123 ≤ r ∧ r ≤ 127) ∨ 128 ≤ r := by omega
  rcases hc with hc | hc | hc | hc | hc | hc
  · have e0 : decide (97 ≤ r) = false := decide_eq_false (by omega)
    have e1 : decide (r ≤ 122) = true := decide_eq_true (by omega)
    have e2 : decide (65 ≤ r) = false := decide_eq_false (by omega)
    have e3 : decide (r ≤ 90) = true := decide_eq_true (by omega)
    have e4 : decide (128 ≤ r) = false := decide_eq_false (by omega)
    clear hc
    simp only [e0, e1, e2, e3, e4]
    go_enter Tryz.func113, Tryz.ntmps113
    go_wp2_with fail
    go_ret
    exact ⟨rfl, rfl⟩
  · have e0 : decide (97 ≤ r) = false := decide_eq_false (by omega)
    have e1 : decide (r ≤ 122) = true := decide_eq_true (by omega)
    have e2 : decide (65 ≤ r) = true := decide_eq_true (by omega)
    have e3 : decide (r ≤ 90) = true := decide_eq_true (by omega)
    have e4 : decide (128 ≤ r) = false := decide_eq_false (by omega)
    clear hc
    simp only [e0, e1, e2, e3, e4]
    go_enter Tryz.func113, Tryz.ntmps113
    go_wp2_with fail
    go_ret
    exact ⟨rfl, rfl⟩
  · have e0 : decide (97 ≤ r) = false := decide_eq_false (by omega)
    have e1 : decide (r ≤ 122) = true := decide_eq_true (by omega)
    have e2 : decide (65 ≤ r) = true := decide_eq_true (by omega)
    have e3 : decide (r ≤ 90) = false := decide_eq_false (by omega)
    have e4 : decide (128 ≤ r) = false := decide_eq_false (by omega)
    clear hc
    simp only [e0, e1, e2, e3, e4]
    go_enter Tryz.func113, Tryz.ntmps113
    go_wp2_with fail
    go_ret
    exact ⟨rfl, rfl⟩
  · have e0 : decide (97 ≤ r) = true := decide_eq_true (by omega)
    have e1 : decide (r ≤ 122) = true := decide_eq_true (by omega)
    have e2 : decide (65 ≤ r) = true := decide_eq_true (by omega)
    have e3 : decide (r ≤ 90) = false := decide_eq_false (by omega)
    have e4 : decide (128 ≤ r) = false := decide_eq_false (by omega)
    clear hc
    simp only [e0, e1, e2, e3, e4]
    go_enter Tryz.func113, Tryz.ntmps113
    go_wp2_with fail
    go_ret
    exact ⟨rfl, rfl⟩
  · have e0 : decide (97 ≤ r) = true := decide_eq_true (by omega)
    have e1 : decide (r ≤ 122) = false := decide_eq_false (by omega)
    have e2 : decide (65 ≤ r) = true := decide_eq_true (by omega)
    have e3 : decide (r ≤ 90) = false := decide_eq_false (by omega)
    have e4 : decide (128 ≤ r) = false := decide_eq_false (by omega)
    clear hc
    simp only [e0, e1, e2, e3, e4]
    go_enter Tryz.func113, Tryz.ntmps113
    go_wp2_with fail
    go_ret
    exact ⟨rfl, rfl⟩
  · have e0 : decide (97 ≤ r) = true := decide_eq_true (by omega)
    have e1 : decide (r ≤ 122) = false := decide_eq_false (by omega)
    have e2 : decide (65 ≤ r) = true := decide_eq_true (by omega)
    have e3 : decide (r ≤ 90) = false := decide_eq_false (by omega)
    have e4 : decide (128 ≤ r) = true := decide_eq_true (by omega)
    clear hc
    simp only [e0, e1, e2, e3, e4]
    go_enter Tryz.func113, Tryz.ntmps113
    go_wp2_with fail
    go_ret
    exact ⟨rfl, rfl⟩

theorem key_from (s : ByteArray) : ∀ (f pos : Nat), 0 < pos → keyFrom s f pos = (valFrom s f pos && (runesFrom s f pos).all okR) := by
  intro f
  induction f with
  | zero => intro pos _; rfl
  | succ f ih =>
    intro pos hp0
    by_cases hp : pos < s.size
    · have hw := width_pos s pos hp
      rw [keyFrom_step s f hp, valFrom_step s f hp, runesFrom_step s f hp, List.all_cons, decide_eq_false (show ¬ (pos : Int) = 0 by omega), part_rest, ih _ (by omega)]
      cases badF s pos (Utf8.decode s pos).1 <;> cases okR (Utf8.decode s pos).1 <;> simp
    · rw [keyFrom_end s _ hp, valFrom_end s _ hp, runesFrom_end s _ hp]; rfl
theorem okR_of_let {r : Int} (h : letF r = true) : okR r = true := by unfold okR; rw [h]; rfl
/-- The reference's words on a key. -/
theorem key_ref {s : ByteArray} {r : Int} {l : List Int} (hl : runesOf s = r :: l) : keyF s = (decide (s.size ≤ 24) && (valFrom s s.size 0 && (letF r && (r :: l).all okR))) := by
  have hs : 0 < s.size := by
    have := runesOf_len s
    rw [hl] at this
    simp at this; omega
  obtain ⟨f, hf⟩ : ∃ f, s.size = f + 1 := ⟨s.size - 1, by omega⟩
  have hl2 := hl
  unfold runesOf at hl2
  unfold keyF
  rw [decide_eq_true hs, Bool.true_and]
  rw [hf] at hl2 ⊢
  have h0 : (0 : Nat) < s.size := hs
  rw [runesFrom_step s f h0] at hl2
  injection hl2 with e1 e2
  have hw := width_pos s 0 h0
  rw [keyFrom_step s f h0, valFrom_step s f h0, show decide (((0 : Nat) : Int) = 0) = true from rfl, part_first, key_from s f _ (by omega), e2, e1, List.all_cons]
  cases hb : badF s 0 r <;> cases hq : letF r
  · simp
  · rw [okR_of_let hq]; simp
  · simp
  · simp
theorem key_none {s : ByteArray} (hl : runesOf s = []) : keyF s = false := by
  have : ¬ 0 < s.size := fun h => by
    obtain ⟨f, hf⟩ : ∃ f, s.size = f + 1 := ⟨s.size - 1, by omega⟩
    unfold runesOf at hl
    rw [hf, runesFrom_step s f h] at hl
    cases hl
  unfold keyF
  rw [decide_eq_false this]; rfl

set_option maxHeartbeats 4000000 in
set_option maxRecDepth 100000 in
theorem refkey_any (s : ByteArray) (w : World) (hT : Tabs w) (hs : s.size ≤ 1000000) : Calls Tryz.prog 72 #[.string s] w fun e w' => e = .returned (.bool (keyF s)) ∧ RowKit.Below w.heap.size w w' := by
  obtain ⟨G, C, hcv, hG, hC⟩ := runes_row (P := Tryz.prog) 9 130 21 s Tryz.underlying9 Tryz.underlying130 Tryz.underlying21 (by omega)
  have hln := runesOf_len s
  have hbd := runesOf_bound s
  have HBad := Lib.hid (fun (W : World) (h : RowKit.Below w.heap.size w W) => refbad_any s W (hT.below h) hs)
  obtain ⟨n, hn⟩ : ∃ n, n = (runesOf s).length := ⟨_, rfl⟩
  have hq : keyF s = (decide (0 < n) && (decide (s.size ≤ 24) && (valFrom s s.size 0 && (letF ((runesOf s).getD 0 0) && (runesOf s).all okR)))) := by
    cases hl : runesOf s with
    | nil => rw [key_none hl, hn, hl]; rfl
    | cons r l => rw [key_ref hl, hn, hl]; simp
  rw [hq]
  obtain ⟨v, hv⟩ : ∃ v, v = valFrom s s.size 0 := ⟨_, rfl⟩
  rw [← hv] at HBad ⊢
  obtain ⟨L, hL⟩ : ∃ L, L = runesOf s := ⟨_, rfl⟩
  rw [← hL] at hC hcv hn hG hbd hln ⊢
  rw [← hn] at hcv hG hln
  have HCV := Lib.hid hcv
  have HG := Lib.hid hG
  have HC := Lib.hid hC
  have HN := Lib.hid hn
  have HBD := Lib.hid hbd
  clear hcv hG hC hn hq hL hv hbd
  have hnm : n ≤ 1000000 := by omega
  have hcz : ∀ W, (convert 9 130 (.string s)).run Tryz.prog W = .ok (.slice (some ⟨W.heap.size, 0, none⟩) n (G W)) (W.drew.alloc (.cells (C W) 21)) := HCV.out
  by_cases hn0 : n = 0
  · subst hn0
    go_enter Tryz.func72, Tryz.ntmps72
    go_wp2_with fail
    go_ret
    exact ⟨rfl, (Below.refl _ _).drew.alloc (Nat.le_refl _) _⟩
  have p0 : decide (0 < n) = true := decide_eq_true (by omega)
  rw [p0, Bool.true_and]
  have g0 : decide ((n : Int) = 0) = false := decide_eq_false (by omega)
  have g0' : ((n : Int) == 0) = false := by simp; omega
  by_cases h24 : s.size ≤ 24
  case neg =>
    have g1 : decide ((24 : Int) < (s.size : Int)) = true := decide_eq_true (by omega)
    rw [decide_eq_false h24]
    go_enter Tryz.func72, Tryz.ntmps72
    go_wp2_with fail
    go_ret
    exact ⟨rfl, (Below.refl _ _).drew.alloc (Nat.le_refl _) _⟩
  have g1 : decide ((24 : Int) < (s.size : Int)) = false := decide_eq_false (by omega)
  rw [decide_eq_true h24, Bool.true_and]
  obtain ⟨r, hr⟩ : ∃ r, L[0]? = some r := ⟨L[0]'(by have := HN.out; omega), List.getElem?_eq_getElem _⟩
  have hgd : L.getD 0 0 = r := by rw [List.getD_eq_getElem?_getD, hr]; rfl
  rw [hgd]
  have HLt := Lib.hid (fun (W : World) => letter_any r W)
  obtain ⟨q, hq⟩ : ∃ q, q = letF r := ⟨_, rfl⟩
  rw [← hq] at HLt ⊢
  obtain ⟨Q, hQ⟩ : ∃ Q, Q = L.all okR := ⟨_, rfl⟩
  rw [← hQ]
  have HQ := Lib.hid hQ
  have HR0 := Lib.hid hr
  clear hq hgd hr hQ
  go_enter Tryz.func72, Tryz.ntmps72
  go_wp2_with fail
  have hb0 := ((Below.refl w.heap.size w).alloc (Nat.le_refl _) (.cells (C w) 21)).drew
  have HB0 := Lib.hid hb0
  refine (HBad.out _ hb0).mono ?_
  rintro e w1 ⟨rfl, hb1⟩
  have hcell : ∀ (i : Nat) (x : Int), L[i]? = some x → w1.cell? ⟨w.heap.size, i, none⟩ = some (.int .i32 x) := fun i x hx => by
    have h1 : w1.heap[w.heap.size]? = some (.cells (C w) 21 (0, 0)) := (hb1.block w.heap.size (by show w.heap.size < (w.alloc _).heap.size; simp)).trans (heap_alloc_new w _)
    have h2 := HC.out w i x hx
    obtain ⟨l⟩ := C w
    rw [cells_at h1]
    simpa using h2
  have HCE := Lib.hid hcell
  have HB1 := Lib.hid (below_then hb0 (Nat.le_refl _) hb1)
  clear hb0 hb1 hcell hcz
  cases v
  · go_wp2_with fail
    go_ret
    exact ⟨rfl, HB1.out⟩
  · have hc0 := HCE.out 0 r HR0.out
    have i0 : (0 : Int) < (n : Int) := by omega
    go_wp2_with fail
    refine (HLt.out _).mono ?_
    rintro e w' ⟨rfl, rfl⟩
    clear hc0
    cases q
    · go_wp2_with fail
      go_ret
      exact ⟨rfl, HB1.out⟩
    · go_wp2_with fail
      go_loop [4] (fun iv => ∃ k : Nat, k ≤ n ∧ iv = .int .i64 k ∧ Hid ((L.drop k).all okR = Q)) (fun iv => n - (intOf iv).toNat)
      case atStart => exact ⟨0, by omega, rfl, Lib.hid (by rw [HQ.out]; rfl)⟩
      case round =>
        obtain ⟨k, hk, rfl, hi⟩ := hrel
        by_cases hlt : k < n
        · have hkl : k < L.length := by have := HN.out; omega
          obtain ⟨r, hr⟩ : ∃ r, L[k]? = some r := ⟨_, List.getElem?_eq_getElem hkl⟩
          have hc0 := HCE.out k r hr
          have hst : (okR r && (L.drop (k + 1)).all okR) = Q := by rw [← hi.out, List.drop_eq_getElem_cons hkl, List.all_cons, (List.getElem?_eq_some_iff.1 hr).2]
          have hrb := HBD.out r (List.mem_of_getElem? hr)
          clear HLt HR0
          have HLt := Lib.hid (fun (W : World) => letter_any r W)
          have hok : okR r = (letF r || ((decide (48 ≤ r) && decide (r ≤ 57)) || (r == 45 || r == 95))) := rfl
          rw [hok] at hst
          obtain ⟨q, hq⟩ : ∃ q, q = letF r := ⟨_, rfl⟩
          rw [← hq] at HLt hst
          have HST := Lib.hid hst
          clear hq hst hok hr hi
          have i0 : (k : Int) < (n : Int) := by omega
          have i1 : (0 : Int) ≤ (k : Int) := by omega
          cases q
          · have hcase : (48 ≤ r ∧ r ≤ 57) ∨ r = 45 ∨ r = 95 ∨ (¬ (48 ≤ r ∧ r ≤ 57) ∧ ¬ r = 45 ∧ ¬ r = 95) := by omega
            rcases hcase with ⟨h1, h2⟩ | rfl | rfl | ⟨h1, h2, h3⟩
            · have e1 : decide (48 ≤ r) = true := decide_eq_true h1
              have e2 : decide (r ≤ 57) = true := decide_eq_true h2
              have H2 := Lib.hid (show (L.drop (k + 1)).all okR = Q by have h := HST.out; rw [e1, e2] at h; simpa using h)
              clear h1 h2
              go_wp2_with (go_at_call 113; refine (HLt.out _).mono ?_; rintro e w' ⟨rfl, rfl⟩)
              go_round
              case rel => exact ⟨k + 1, by omega, by go_num, H2⟩
              case measure => simp [intOf]; omega
            · have H2 := Lib.hid (show (L.drop (k + 1)).all okR = Q by have h := HST.out; simpa using h)
              go_wp2_with (go_at_call 113; refine (HLt.out _).mono ?_; rintro e w' ⟨rfl, rfl⟩)
              go_round
              case rel => exact ⟨k + 1, by omega, by go_num, H2⟩
              case measure => simp [intOf]; omega
            · have H2 := Lib.hid (show (L.drop (k + 1)).all okR = Q by have h := HST.out; simpa using h)
              go_wp2_with (go_at_call 113; refine (HLt.out _).mono ?_; rintro e w' ⟨rfl, rfl⟩)
              go_round
              case rel => exact ⟨k + 1, by omega, by go_num, H2⟩
              case measure => simp [intOf]; omega
            · have n45 : (r == 45) = false := by simp [h2]
              have n95 : (r == 95) = false := by simp [h3]
              have n45' : (r != 45) = true := by simp [h2]
              have n95' : (r != 95) = true := by simp [h3]
              have H2 := Lib.hid (show false = Q by
                have h := HST.out
                rw [n45, n95] at h
                have h4 : (decide (48 ≤ r) && decide (r ≤ 57)) = false := by simp; omega
                rw [h4] at h
                simpa using h)
              by_cases h5 : 48 ≤ r
              · have e1 : decide (48 ≤ r) = true := decide_eq_true h5
                have e2 : decide (r ≤ 57) = false := decide_eq_false (by omega)
                go_wp2_with (go_at_call 113; refine (HLt.out _).mono ?_; rintro e w' ⟨rfl, rfl⟩)
                go_ret
                exact ⟨ret_bool H2.out, HB1.out⟩
              · have e1 : decide (48 ≤ r) = false := decide_eq_false h5
                go_wp2_with (go_at_call 113; refine (HLt.out _).mono ?_; rintro e w' ⟨rfl, rfl⟩)
                go_ret
                exact ⟨ret_bool H2.out, HB1.out⟩
          · have H2 := Lib.hid (show (L.drop (k + 1)).all okR = Q by have h := HST.out; simpa using h)
            go_wp2_with (go_at_call 113; refine (HLt.out _).mono ?_; rintro e w' ⟨rfl, rfl⟩)
            go_round
            case rel => exact ⟨k + 1, by omega, by go_num, H2⟩
            case measure => simp [intOf]; omega
        · obtain rfl : k = n := by omega
          have H2 := Lib.hid (show true = Q by rw [← hi.out, List.drop_of_length_le (by have := HN.out; omega)]; rfl)
          go_wp2_with fail
          go_ret
          exact ⟨ret_bool H2.out, HB1.out⟩
end Go.Proofs.YtmjelcjdfamikaaGreatDoor.Mut
