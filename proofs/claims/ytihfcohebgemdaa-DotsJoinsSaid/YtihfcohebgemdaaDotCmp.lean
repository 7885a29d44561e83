/- Layer 6 (dots): the order of writes; slices.SortFunc at writes, by the library's contract. PRINTED by wip/gendotsort.py. -/
import Derived.Shelf.SlSortCmp.WholeK
import Derived.Ground.SlsfProg
import Derived.Test.YtihfcohebgemdaaSortRow
import Derived.Test.YtihfcohebgemdaaLays
import Derived.Test.YtihfcohebgemdaaOrd
import Derived.Test.YtihfcohebgemdaaDotPlain
import Derived.Test.YtihfcohebgemdaaVecO
set_option linter.unusedSimpArgs false
set_option linter.unusedVariables false
namespace Go.Proofs.Ytihfcohebgemdaa.Dots
open Go.RowKit Go.Shelf Go.Sort Go.Proofs.Ytihfcohebgemdaa.Ord Go.Proofs.Ytihfcohebgemdaa.Vec

def layDot_ren : Go.Shelf.Ren := ⟨fun | 6 => 47 | 15 => 30 | 14 => 74 | 28 => 67 | 29 => 68 | 20 => 89 | 21 => 90 | 22 => 91 | 23 => 92 | 24 => 93 | 25 => 94 | 26 => 95 | 27 => 96 | 46 => 102 | 47 => 85 | 48 => 86 | 49 => 103 | 50 => 104 | 57 => 107 | n => n, fun | 22 => 31 | 24 => 33 | 25 => 69 | 3 => 3 | 39 => 57 | 0 => 0 | 53 => 91 | 55 => 93 | 4 => 4 | 46 => 84 | 45 => 83 | 50 => 67 | 5 => 5 | 9 => 9 | 66 => 108 | 70 => 112 | 76 => 120 | 77 => 121 | n => n, fun | n => n⟩
theorem layDot : Go.Proofs.SlLaysF0.n6 Try.prog layDot_ren := {
  mixed := by kernel_rfl
  f6 := ⟨Try.f47.name, by decide, Try.func47.trans (congrArg some (by kernel_rfl))⟩
  f14 := ⟨Try.f74.name, by decide, Try.func74.trans (congrArg some (by kernel_rfl))⟩
  f15 := Try.func30.trans (congrArg some (by kernel_rfl))
  f20 := ⟨Try.f89.name, by decide, Try.func89.trans (congrArg some (by kernel_rfl))⟩
  f21 := ⟨Try.f90.name, by decide, Try.func90.trans (congrArg some (by kernel_rfl))⟩
  f22 := ⟨Try.f91.name, by decide, Try.func91.trans (congrArg some (by kernel_rfl))⟩
  f23 := ⟨Try.f92.name, by decide, Try.func92.trans (congrArg some (by kernel_rfl))⟩
  f24 := ⟨Try.f93.name, by decide, Try.func93.trans (congrArg some (by kernel_rfl))⟩
  f25 := ⟨Try.f94.name, by decide, Try.func94.trans (congrArg some (by kernel_rfl))⟩
  f26 := ⟨Try.f95.name, by decide, Try.func95.trans (congrArg some (by kernel_rfl))⟩
  f27 := ⟨Try.f96.name, by decide, Try.func96.trans (congrArg some (by kernel_rfl))⟩
  f28 := Try.func67.trans (congrArg some (by kernel_rfl))
  f29 := Try.func68.trans (congrArg some (by kernel_rfl))
  f46 := ⟨Try.f102.name, by decide, Try.func102.trans (congrArg some (by kernel_rfl))⟩
  f47 := Try.func85.trans (congrArg some (by kernel_rfl))
  f48 := Try.func86.trans (congrArg some (by kernel_rfl))
  f49 := ⟨Try.f103.name, by decide, Try.func103.trans (congrArg some (by kernel_rfl))⟩
  f50 := ⟨Try.f104.name, by decide, Try.func104.trans (congrArg some (by kernel_rfl))⟩
  f57 := ⟨Try.f107.name, by decide, Try.func107.trans (congrArg some (by kernel_rfl))⟩
  t0 := Try.underlying0
  a0 := Try.isAgg0
  z0 := Try.sizeOf0
  v0 := Try.zeroValue0
  t3 := Try.underlying3
  a3 := Try.isAgg3
  z3 := Try.sizeOf3
  v3 := Try.zeroValue3
  t4 := Try.underlying4
  a4 := Try.isAgg4
  z4 := Try.sizeOf4
  v4 := Try.zeroValue4
  t5 := Try.underlying5
  a5 := Try.isAgg5
  z5 := Try.sizeOf5
  v5 := Try.zeroValue5
  t9 := Try.underlying9
  a9 := Try.isAgg9
  z9 := Try.sizeOf9
  v9 := Try.zeroValue9
  t22 := Try.underlying31
  a22 := Try.isAgg31
  z22 := Try.sizeOf31
  v22 := Try.zeroValue31
  t25 := Try.underlying69
  a25 := Try.isAgg69
  z25 := Try.sizeOf69
  v25 := Try.zeroValue69
  t39 := Try.underlying57
  a39 := Try.isAgg57
  z39 := Try.sizeOf57
  v39 := Try.zeroValue57
  t45 := Try.underlying83
  a45 := Try.isAgg83
  z45 := Try.sizeOf83
  v45 := Try.zeroValue83
  t46 := Try.underlying84
  a46 := Try.isAgg84
  z46 := Try.sizeOf84
  v46 := Try.zeroValue84
  t50 := Try.underlying67
  a50 := Try.isAgg67
  z50 := Try.sizeOf67
  v50 := Try.zeroValue67
  t53 := Try.underlying91
  a53 := Try.isAgg91
  z53 := Try.sizeOf91
  v53 := Try.zeroValue91
  t55 := Try.underlying93
  a55 := Try.isAgg93
  z55 := Try.sizeOf93
  v55 := Try.zeroValue93
  t66 := Try.underlying108
  a66 := Try.isAgg108
  z66 := Try.sizeOf108
  v66 := Try.zeroValue108
  t70 := Try.underlying112
  a70 := Try.isAgg112
  z70 := Try.sizeOf112
  v70 := Try.zeroValue112
  t76 := Try.underlying120
  a76 := Try.isAgg120
  z76 := Try.sizeOf120
  v76 := Try.zeroValue120
  t77 := Try.underlying121
  a77 := Try.isAgg121
  z77 := Try.sizeOf121
  v77 := Try.zeroValue121 }

theorem cmpI_any (a b : Int) (w : World) : Calls Try.prog 28 #[.int .i64 a, .int .i64 b] w fun e w' => e = .returned (.int .i64 (cmpI a b)) ∧ w = w' := by
  by_cases h : a < b
  · go_enter Try.func28, Try.ntmps28
    go_wp2
    go_ret
    exact ⟨ret_int (by unfold cmpI; repeat' split; all_goals omega), rfl⟩
  · by_cases h2 : b < a
    · go_enter Try.func28, Try.ntmps28
      go_wp2
      go_ret
      exact ⟨ret_int (by unfold cmpI; repeat' split; all_goals omega), rfl⟩
    · go_enter Try.func28, Try.ntmps28
      go_wp2
      go_ret
      exact ⟨ret_int (by unfold cmpI; repeat' split; all_goals omega), rfl⟩
/-- A slice of ints that is read: cell i is (l[i]). -/
theorem or_any (b off cap : Nat) (l : List Int) (w : World) (hc : ∀ i (h : i < l.length), w.cell? ⟨b, off + i, none⟩ = some (.int .i64 l[i])) (hl : l.length ≤ 1000) :
    Calls Try.prog 73 #[.slice (some ⟨b, off, none⟩) l.length cap] w fun e w' => e = .returned (.int .i64 (orL l)) ∧ w = w' := by
  have HC := Lib.hid hc
  clear hc
  go_enter Try.func73, Try.ntmps73
  go_wp2
  go_loop [8] (fun iv => ∃ k : Nat, k ≤ l.length ∧ iv = .int .i64 k ∧ Hid (orL (l.drop k) = orL l)) (fun iv => l.length - (intOf iv).toNat)
  case atStart => exact ⟨0, by omega, rfl, Lib.hid (by rw [List.drop_zero])⟩
  case round =>
    obtain ⟨k, hk, rfl, hd⟩ := hrel
    by_cases hlt : k < l.length
    · have c0 := HC.out k hlt
      have hdr := List.drop_eq_getElem_cons hlt
      obtain ⟨x, hx⟩ : ∃ x, x = l[k] := ⟨_, rfl⟩
      rw [← hx] at c0 hdr
      have HD := Lib.hid hdr
      clear hdr hx
      cases h0 : (x != 0)
      · go_wp2
        go_round
        case rel => exact ⟨k + 1, by omega, by go_num, Lib.hid (by rw [← hd.out, HD.out]; show _ = if x = 0 then orL (l.drop (k + 1)) else x; rw [if_pos (by simpa using h0)])⟩
        case measure => simp [intOf]; omega
      · go_wp2
        go_ret
        exact ⟨ret_int (by rw [← hd.out, HD.out]; show _ = if x = 0 then orL (l.drop (k + 1)) else x; rw [if_neg (by simpa using h0)]), rfl⟩
    · obtain rfl : k = l.length := by omega
      go_wp2
      go_ret
      exact ⟨ret_int (by rw [← hd.out, List.drop_length]; rfl), rfl⟩
theorem ints_new (w : World) (t : TypeId) (l : List Int) : ∀ i (h : i < l.length), (w.alloc (.cells ⟨l.map (Value.int .i64)⟩ t)).cell? ⟨w.heap.size, 0 + i, none⟩ = some (.int .i64 l[i]) := by
  intro i h
  have := new_cells w (l.map (Value.int .i64)) t i (.int .i64 l[i]) (by simp [h])
  rw [← this, Nat.zero_add]
  unfold Addr.add
  split
  · rename_i h0; rw [h0]
  · simp

/-- The order of writes as a number. -/
def dC (a b : P) : Int := orL [cmpI a.who b.who, cmpI a.n b.n]
theorem dC_lt (a b : P) : dC a b < 0 ↔ lt a b := by
  unfold dC orL orL orL cmpI lt
  repeat' split
  all_goals omega
theorem dC_zero (a b : P) : dC a b = 0 ↔ a = b := by
  have e : a = b ↔ a.who = b.who ∧ a.n = b.n := by cases a; cases b; simp
  rw [e]
  unfold dC orL orL orL cmpI
  repeat' split
  all_goals omega
theorem dC_gt (a b : P) : 0 < dC a b ↔ lt b a := by
  unfold dC orL orL orL cmpI lt
  repeat' split
  all_goals omega
abbrev vD (d : P) : Value := .agg #[.int .i64 d.who, .int .i64 d.n]
set_option maxHeartbeats 1000000 in
theorem less_any (a b : P) (w : World) :
    Calls Try.prog 43 #[vD a, vD b] w fun e w' => e = .returned (.int .i64 (dC a b)) ∧ Lays w w' := by
  obtain ⟨p, l⟩ := a
  obtain ⟨p', l'⟩ := b
  go_enter Try.func43, Try.ntmps43
  go_wp2_with fail
  refine wp_region_lays_tail 10 (by kernel_rfl) (by kernel_rfl) ?_
  simp only [List.take_succ_cons, List.take_zero, List.drop_succ_cons, List.drop_zero]
  repeat (go_big_quiet_step (first | (go_at_call 28; exact laid_same (cmpI_any _ _ _))))
  refine wpQuiet_nil ?_
  rintro _ ⟨y, rfl⟩
  go_wp2_with fail
  refine (or_any y.at.heap.size 0 2 [cmpI p p', cmpI l l'] _ (ints_new _ _ [cmpI p p', cmpI l l']) (by simp)).mono ?_
  rintro e w2 ⟨rfl, rfl⟩
  go_wp2_with fail
  go_ret
  exact ⟨rfl, (((Lays.refl _).alloc _).alloc _).trans (y.lays.alloc _)⟩

theorem dO : SWO (ltOf dC) where
  irrefl x := by
    show decide (dC x x < 0) = false
    simp only [dC_lt, decide_eq_false_iff_not]; exact lt_irrefl x
  trans x y z h1 h2 := by
    unfold ltOf at *
    simp only [decide_eq_true_eq, dC_lt] at *
    exact lt_trans h1 h2
  ntrans x y z h1 h2 := by
    unfold ltOf at *
    simp only [decide_eq_false_iff_not, dC_lt] at *
    unfold lt at *
    omega
instance sortInh : Inhabited P := ⟨⟨0, 0⟩⟩
def SortP (base : Nat) (w : World) (v : Value) (R : List P) (e : Ending) (w' : World) : Prop :=
  e = .returned (.tuple #[]) ∧ ∃ R' : List P, R'.Perm R ∧ R'.Pairwise (fun a b => ¬ lt b a) ∧ w'.ownsRow base 33 2 v R'.length (R'.flatMap enD) ∧ w.grownBy w' v.ownBlock
theorem less_enters : ∀ args w, (callFunc 43 args).run Try.prog w = .ok (.enter 43 args) w := enters_of Try.func43 (by kernel_rfl) rfl
theorem sort_some (base g cap : Nat) (R : List P) (w : World) (hown : w.ownsRow base 33 2 (.slice (some ⟨g, 0, none⟩) R.length cap) R.length (R.flatMap enD)) (hn : R.length ≤ 1000000) :
    Calls Try.prog 47 #[.slice (some ⟨g, 0, none⟩) R.length cap, .func (.func 43) #[] #[]] w (SortP base w (.slice (some ⟨g, 0, none⟩) R.length cap) R) := by
  obtain ⟨-, -, cur, h4, -, -, -, -⟩ := owned_parts hown
  have hlt : g < w.heap.size := (Array.getElem?_eq_some_iff.1 h4).1
  have hC : CmpLays Try.prog 43 #[] enD 2 dC g 0 R.toArray.size w := fun m os dk hdk x y => less_any x y _
  have hcon := AnyQ.slices_SortFunc layDot 2 (fun w => Try.isAgg33 w) (fun w => Try.sizeOf33 w) enD enD_len enD_one dC dO 43 #[] g 0 cap R.toArray w less_enters hC (holds_owned enD_len hown) hlt (by simp; omega)
  have e0 : R.toArray.size = R.length := by simp
  rw [e0] at hcon
  refine hcon.mono ?_
  rintro e w' ⟨rfl, d', n, os, hp, hs, rfl⟩
  have hds : d'.size = R.length := by have := hp.1; simpa using this
  have hq := owned_put (cap := cap) enD_len hown d' hds n os
  refine ⟨rfl, d'.toList, ?_, ?_, ?_, hq.2⟩
  · have h := hp.2.2
    have x1 : (d'.extract 0 R.length).toList = d'.toList := by rw [← hds]; simp
    have x2 : (R.toArray.extract 0 R.length).toList = R := by simp
    rw [x1, x2] at h
    exact h
  · rw [List.pairwise_iff_getElem]
    intro i j hi hj hij
    have h := hs i j (Nat.zero_le _) hij (by simpa [hds] using hj)
    rw [getElem!_pos d' i (by simpa using hi), getElem!_pos d' j (by simpa using hj)] at h
    unfold ltOf at h
    simp only [decide_eq_false_iff_not, dC_lt] at h
    simpa using h
  · have := hq.1
    rw [show d'.toList.length = R.length by simp [hds]]
    exact this
end Go.Proofs.Ytihfcohebgemdaa.Dots
