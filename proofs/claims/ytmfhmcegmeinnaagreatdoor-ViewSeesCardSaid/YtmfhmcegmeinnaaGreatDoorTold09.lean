/- The walk of law09.told (layer 9): the keys of rows, each once. · The walk of the law's alive (layer 9). -/
import Derived.Test.YtmfhmcegmeinnaaGreatDoorViewSame
import Derived.Test.YtmfhmcegmeinnaaGreatDoorSpare
set_option linter.unusedSimpArgs false
set_option linter.unusedVariables false
namespace Go.Proofs.YtmfhmcegmeinnaaGreatDoor.Mut
open Go.RowKit Go.Sort Go.Proofs.YtmfhmcegmeinnaaGreatDoor.Ord Go.Proofs.YtmfhmcegmeinnaaGreatDoor.Spare
set_option linter.unusedSectionVars false
variable [Inhabited Lim]

def toldG : Option ByteArray → List Rw → List ByteArray
  | _, [] => []
  | p, x :: t => if p = some x.key then toldG (some x.key) t else x.key :: toldG (some x.key) t
/-- The key ahead of place k. -/
def prevK (A : List Rw) (k : Nat) : Option ByteArray := if k = 0 then none else (A[k - 1]?).map Rw.key
theorem eq_of_toList {a b : ByteArray} (h : a.toList = b.toList) : a = b := by
  rw [ByteArray.toList_eq, ByteArray.toList_eq] at h
  exact ByteArray.ext (Array.toList_inj.1 h)
theorem told_step (A : List Rw) (k : Nat) (x : Rw) (hx : A[k]? = some x) : toldG (prevK A k) (A.drop k) = if prevK A k = some x.key then toldG (prevK A (k + 1)) (A.drop (k + 1)) else x.key :: toldG (prevK A (k + 1)) (A.drop (k + 1)) := by
  obtain ⟨hk, he⟩ := List.getElem?_eq_some_iff.1 hx
  have e : prevK A (k + 1) = some x.key := by
    unfold prevK
    rw [if_neg (by omega), Nat.add_sub_cancel, hx]
    rfl
  rw [List.drop_eq_getElem_cons hk, he, e]
  rfl
def zSt : List Value := [.string ByteArray.empty]
theorem info_string : (Tryz.prog.info? 9).map (fun i => (i.zero, i.size, i.bytes)) = some (some (.string ByteArray.empty), 1, 16) := by kernel_rfl
theorem str_one (s : ByteArray) : ∀ u ∈ [Value.string s], u.oneCell' = true := by
  intro u hu
  rw [List.mem_singleton.1 hu]
  rfl

set_option maxHeartbeats 4000000 in
set_option maxRecDepth 100000 in
theorem told09_any (v : Value) (A : List Rw) (w : World) (hv : WRow w v A) (hn : A.length ≤ 1000000) :
    Calls Tryz.prog 18 #[v] w fun e w' => ∃ v', e = .returned v' ∧ Spare w' w.heap.size 9 zSt v' (toldG none A).length ((toldG none A).map Value.string) ∧ RowKit.Below w.heap.size w w' := by
  obtain ⟨ao, ac, rfl, -, -⟩ := Lst.form hv
  obtain ⟨n, hN⟩ : ∃ n, n = A.length := ⟨_, rfl⟩
  rw [← hN] at hv hn ⊢
  obtain ⟨Q, hQ⟩ : ∃ Q, Q = toldG none A := ⟨_, rfl⟩
  rw [← hQ]
  have HV := Lib.hid hv
  have HN := Lib.hid hN
  have HQ := Lib.hid hQ
  clear hv hN hQ
  go_enter Tryz.func18, Tryz.ntmps18
  go_wp2_with fail
  go_loopw [3, 4] (fun ov iv wr => ∃ (k m : Nat) (L : List ByteArray), k ≤ n ∧ iv = .int .i64 k ∧ m ≤ k ∧ Hid (m = L.length) ∧ Hid (L ++ toldG (prevK A k) (A.drop k) = Q) ∧ Hid (Spare wr w.heap.size 9 zSt ov m (L.map Value.string)) ∧ Hid (RowKit.Below w.heap.size w wr)) (fun _ iv _ => n - (intOf iv).toNat)
  case atStart => exact ⟨0, 0, [], by omega, rfl, by omega, Lib.hid rfl, Lib.hid (by rw [HQ.out]; rfl), Lib.hid (Spare.nil _ _ _ _), Lib.hid (Below.refl _ _)⟩
  case round =>
    obtain ⟨k, m, L, hk, rfl, hmk, hm, hput, hsp, hl⟩ := hrel
    by_cases hlt : k < n
    · have hka : k < A.length := by have := HN.out; omega
      obtain ⟨x, hx⟩ : ∃ x, A[k]? = some x := ⟨_, List.getElem?_eq_getElem hka⟩
      have hvw := HV.out.below hl.out
      obtain ⟨xb, xoff, hao, hat⟩ := WRow.at_ hvw hx
      cases hao
      have hst := hput.out
      rw [told_step A k x hx] at hst
      have j0 : (0 : Int) ≤ (k : Int) := by omega
      have j1 : (k : Int) < (n : Int) := by omega
      obtain ⟨hxb, d0, -⟩ := hat
      have D0 := Lib.hid d0
      have HW := Lib.hid hl.out
      have more : ∀ (W : World), RowKit.Below wr.heap.size wr W → True := fun _ _ => trivial
      clear more
      by_cases hk0 : k = 0
      · have hp : prevK A k = none := by unfold prevK; rw [if_pos hk0]
        rw [hp, if_neg (by simp)] at hst
        have HST := Lib.hid (show (L ++ [x.key]) ++ toldG (prevK A (k + 1)) (A.drop (k + 1)) = Q by rw [← hst, List.append_assoc]; rfl)
        have i0 : ((k : Int) == 0) = true := by rw [hk0]; rfl
        have HK0 := Lib.hid hk0
        clear hp hst hput hk0 hx hvw
        go_wp2_with fail
        refine wp_region_calm (by kernel_rfl) (by kernel_rfl) ?_
        repeat (go_big_quiet_step (fail))
        refine wpQuiet_nil ?_
        rintro _ ⟨z, rfl⟩
        obtain ⟨W1, hW1⟩ : ∃ W1, W1 = z.at := ⟨_, rfl⟩
        have hz := z.below
        rw [← hW1] at hz ⊢
        have e0 := (hz.cell (p := ⟨xb, xoff + k * 5, none⟩) hxb).trans D0.out
        have HSP := Lib.hid (hsp.out.below (hz.alloc hz.size (.cells #[.string x.key] 9)))
        have HB := Lib.hid (below_then hl.out (Nat.le_refl _) hz)
        clear hW1 z hz d0
        obtain ⟨q0, hi, hz0, hz1, hz2⟩ := info_parts info_string
        go_wp2_with (at_builtin; refine wpList_append_spare rfl (.tmp 27) (.tmp 33) 37 rfl w.heap.size 9 q0 (.string ByteArray.empty) zSt 16 Tryz.underlying37 hi hz0 rfl hz1 hz2 (by decide) _ m _ rfl HSP.out ⟨_, 0, none⟩ 1 1 [.string x.key] rfl (Or.inl (by decide)) rfl (new_cells _ [.string x.key] _) (str_one _) (by unfold maxLen; omega) (by omega) (by have := HB.out.size; simp; omega) ?_)
        intro v4 w4 hs4 hg4 hk4 hl4
        have HS4 := Lib.hid (show Spare w4 w.heap.size 9 zSt v4 (m + 1) ((L ++ [x.key]).map Value.string) by rw [List.map_append]; exact hs4)
        have HB4 := Lib.hid ((HB.out.alloc (by have := HB.out.size; omega) (.cells #[.string x.key] 9)).grown hg4 (by have := HB.out.size; simp; omega) (fun g e => (HSP.out.own.lt g e).1))
        clear hs4 hg4 hk4 hl4 e0
        go_wp2_with fail
        go_roundw
        case rel => exact ⟨k + 1, m + 1, L ++ [x.key], by omega, by go_num, by omega, Lib.hid (by rw [List.length_append, hm.out]; rfl), HST, HS4, HB4⟩
        case measure => simp [intOf]; omega
      · have hkp : k - 1 < A.length := by omega
        obtain ⟨y, hy⟩ : ∃ y, A[k - 1]? = some y := ⟨_, List.getElem?_eq_getElem hkp⟩
        have hp : prevK A k = some y.key := by unfold prevK; rw [if_neg hk0, hy]; rfl
        obtain ⟨yb, yoff, hyo, hyt⟩ := WRow.at_ hvw hy
        simp only [Option.some.injEq, Addr.mk.injEq, and_true] at hyo
        obtain ⟨rfl, rfl⟩ := hyo
        obtain ⟨-, f0, -⟩ := hyt
        obtain ⟨k', hk'⟩ : ∃ k', k = k' + 1 := ⟨k - 1, by omega⟩
        rw [show k - 1 = k' by omega] at f0
        have i0 : ((k : Int) == 0) = false := by simp; omega
        have i1 : (k : Int) - 1 = (k' : Int) := by omega
        have i2 : (0 : Int) ≤ (k' : Int) := by omega
        have i3 : (k' : Int) < (n : Int) := by omega
        have i4 : k' < k := by omega
        clear hk'
        rw [hp] at hst
        cases hq : x.key.toList == y.key.toList
        · have hne : ¬ some y.key = some x.key := fun e => by
            rw [Option.some.inj e] at hq
            simp at hq
          rw [if_neg hne] at hst
          have hqn : (x.key.toList != y.key.toList) = true := by rw [bne, hq]; rfl
          have HST := Lib.hid (show (L ++ [x.key]) ++ toldG (prevK A (k + 1)) (A.drop (k + 1)) = Q by rw [← hst, List.append_assoc]; rfl)
          clear hp hst hput hx hvw hy hkp hne hk0
          go_wp2_with fail
          refine wp_region_calm (by kernel_rfl) (by kernel_rfl) ?_
          repeat (go_big_quiet_step (fail))
          refine wpQuiet_nil ?_
          rintro _ ⟨z, rfl⟩
          obtain ⟨W1, hW1⟩ : ∃ W1, W1 = z.at := ⟨_, rfl⟩
          have hz := z.below
          rw [← hW1] at hz ⊢
          have e0 := (hz.cell (p := ⟨xb, xoff + k * 5, none⟩) hxb).trans D0.out
          have HSP := Lib.hid (hsp.out.below (hz.alloc hz.size (.cells #[.string x.key] 9)))
          have HB := Lib.hid (below_then hl.out (Nat.le_refl _) hz)
          clear hW1 z hz d0
          obtain ⟨q0, hi, hz0, hz1, hz2⟩ := info_parts info_string
          go_wp2_with (at_builtin; refine wpList_append_spare rfl (.tmp 27) (.tmp 33) 37 rfl w.heap.size 9 q0 (.string ByteArray.empty) zSt 16 Tryz.underlying37 hi hz0 rfl hz1 hz2 (by decide) _ m _ rfl HSP.out ⟨_, 0, none⟩ 1 1 [.string x.key] rfl (Or.inl (by decide)) rfl (new_cells _ [.string x.key] _) (str_one _) (by unfold maxLen; omega) (by omega) (by have := HB.out.size; simp; omega) ?_)
          intro v4 w4 hs4 hg4 hk4 hl4
          have HS4 := Lib.hid (show Spare w4 w.heap.size 9 zSt v4 (m + 1) ((L ++ [x.key]).map Value.string) by rw [List.map_append]; exact hs4)
          have HB4 := Lib.hid ((HB.out.alloc (by have := HB.out.size; omega) (.cells #[.string x.key] 9)).grown hg4 (by have := HB.out.size; simp; omega) (fun g e => (HSP.out.own.lt g e).1))
          clear hs4 hg4 hk4 hl4 e0
          go_wp2_with fail
          go_roundw
          case rel => exact ⟨k + 1, m + 1, L ++ [x.key], by omega, by go_num, by omega, Lib.hid (by rw [List.length_append, hm.out]; rfl), HST, HS4, HB4⟩
          case measure => simp [intOf]; omega
        · have he : y.key = x.key := by
            have h1 : x.key.toList = y.key.toList := by simpa using hq
            exact (eq_of_toList h1).symm
          rw [if_pos (by rw [he])] at hst
          have hqn : (x.key.toList != y.key.toList) = false := by rw [bne, hq]; rfl
          have HST := Lib.hid (show L ++ toldG (prevK A (k + 1)) (A.drop (k + 1)) = Q from hst)
          clear hp hst hput hx hvw hy hkp he hk0
          go_wp2_with fail
          refine wp_region_calm (by kernel_rfl) (by kernel_rfl) ?_
          repeat (go_big_quiet_step (fail))
          refine wpQuiet_nil ?_
          rintro _ ⟨z, rfl⟩
          obtain ⟨W1, hW1⟩ : ∃ W1, W1 = z.at := ⟨_, rfl⟩
          have hz := z.below
          rw [← hW1] at hz ⊢
          have HSP := Lib.hid (hsp.out.below hz)
          have HB := Lib.hid (below_then hl.out (Nat.le_refl _) hz)
          clear hW1 z hz d0 f0
          go_wp2_with fail
          go_roundw
          case rel => exact ⟨k + 1, m, L, by omega, by go_num, by omega, hm, HST, HSP, HB⟩
          case measure => simp [intOf]; omega
    · obtain rfl : k = n := by omega
      have HE := Lib.hid (show L = Q by have h := hput.out; rw [List.drop_of_length_le (by have := HN.out; omega)] at h; simpa [toldG] using h)
      go_wp2_with fail
      go_ret
      exact ⟨_, rfl, by rw [← HE.out, ← hm.out]; exact hsp.out, hl.out⟩
end Go.Proofs.YtmfhmcegmeinnaaGreatDoor.Mut

namespace Go.Proofs.YtmfhmcegmeinnaaGreatDoor.Mut
open Go.RowKit Go.Sort Go.Proofs.YtmfhmcegmeinnaaGreatDoor.Ord Go.Proofs.YtmfhmcegmeinnaaGreatDoor.RegInv
set_option linter.unusedSectionVars false
variable [Inhabited Lim]

/-- A literal row of mutations that supersede nothing. -/
theorem lit_rows09 (R : List Ro) (w : World) (t : TypeId) (hR : ∀ x ∈ R, x.2 = .slice none 0 0 ∧ x.1.over = []) (hn : R.length ≤ maxLen) : MRow (w.alloc (.cells ⟨R.flatMap enM⟩ t)) (.slice (some ⟨w.heap.size, 0, none⟩) R.length R.length) R := by
  refine ⟨⟨_, R.length, rfl, Nat.le_refl _, hn, Or.inr ⟨_, _, rfl, by simp, fun i x hi j hj => ?_⟩⟩, fun x hx => ?_⟩
  · rw [cells_at (heap_alloc_new w _), Nat.zero_add]
    exact flatMap_get enM_len _ i x hi j hj
  · obtain ⟨h1, h2⟩ := hR x hx
    exact ⟨by rw [h1, h2]; exact Lst.nil _, by rw [h1]; exact ZN.none _ _⟩
def mE : Mu := ⟨1, 1, ⟨#[107]⟩, ⟨#[]⟩, ⟨#[118]⟩, 5, ⟨2, 0, 0⟩, []⟩
theorem rightE : rightF mE = true := by kernel_rfl
theorem leftE : leftOf [mE] = ⟨[mE], [], []⟩ := by kernel_rfl
theorem goodE : Good ⟨[mE], [], []⟩ 1 := by rw [← leftE]; exact leftOf_good _
theorem getE4 : (getF ⟨[mE], [], []⟩ 1 ⟨#[107]⟩ 4).length = 1 := by kernel_rfl
theorem getE5 : (getF ⟨[mE], [], []⟩ 1 ⟨#[107]⟩ 5).length = 0 := by kernel_rfl

set_option maxHeartbeats 4000000 in
set_option maxRecDepth 100000 in
theorem alive09_any (w : World) (hT : Tabs w) : Calls Tryz.prog 20 #[] w (RetB true w) := by
  have HT := Lib.hid hT
  clear hT
  go_enter Tryz.func20, Tryz.ntmps20
  go_wp2_with fail
  have hb0 := (Below.refl _ w).alloc (Nat.le_refl _) (.cells ⟨[((mE, .slice none 0 0) : Ro)].flatMap enM⟩ 51)
  have hrow : Reads _ _ [mE] := ⟨_, rfl, lit_rows09 [((mE, .slice none 0 0) : Ro)] w 51 (fun x hx => by
    rw [List.mem_singleton.1 hx]
    exact ⟨rfl, rfl⟩) (by decide)⟩
  have hof := c_of (HT.out.below hb0) hrow (by decide) (fun m hm => by
    rw [List.mem_singleton.1 hm]
    exact small_right rightE)
  rw [leftE] at hof
  refine hof.mono ?_
  rintro e w1 ⟨vv, rfl, hc, hb1⟩
  have HB1 := Lib.hid (below_then hb0 (Nat.le_refl _) hb1)
  obtain ⟨p1, q1, r1, p2, q2, r2, p3, q3, r3, rfl, hl⟩ := hc.form
  have HC := Lib.hid hl
  clear hc hl hof hrow hb0 hb1
  go_upto_region 2 with fail
  obtain ⟨W1, hW⟩ : ∃ W, W = w1.alloc (.cells #[.slice p1 q1 r1, .slice p2 q2 r2, .slice p3 q3 r3] 28) := ⟨_, rfl⟩
  have hb2 : RowKit.Below w1.heap.size w1 W1 := by rw [hW]; exact (Below.refl _ _).alloc (Nat.le_refl _) _
  have hp : C3 W1 w1.heap.size (.slice p1 q1 r1) (.slice p2 q2 r2) (.slice p3 q3 r3) := by rw [hW]; exact C3.new _ _ _ _
  rw [← hW]
  obtain ⟨n1, hn⟩ : ∃ n, n = w1.heap.size := ⟨_, rfl⟩
  rw [← hn] at hp ⊢
  have HL := Lib.hid (HC.out.below hb2)
  have HP := Lib.hid hp
  have HB2 := Lib.hid (below_then HB1.out (Nat.le_refl _) hb2)
  clear hW hb2 hp hn HC HB1
  obtain ⟨-, t0, t1, t2, -⟩ := HP.out
  go_wp2_with fail
  refine (get_any _ _ 1 1 4 ⟨#[107]⟩ W1 HL.out.is goodE (by decide)).mono ?_
  rintro e w2 ⟨v2, rfl, hr, hb⟩
  obtain ⟨ao, ac, rfl, -, -⟩ := Lst.form hr
  rw [getE4]
  have HL2 := Lib.hid (HL.out.below hb)
  have HP2 := Lib.hid (HP.out.below hb)
  have HB3 := Lib.hid (below_then HB2.out (Nat.le_refl _) hb)
  clear hr hb t0 t1 t2 HL HP HB2
  obtain ⟨-, t0, t1, t2, -⟩ := HP2.out
  go_wp2_with fail
  refine (get_any _ _ 1 1 5 ⟨#[107]⟩ w2 HL2.out.is goodE (by decide)).mono ?_
  rintro e w3 ⟨v3, rfl, hr, hb⟩
  obtain ⟨bo, bc, rfl, -, -⟩ := Lst.form hr
  rw [getE5]
  have HB4 := Lib.hid (below_then HB3.out (Nat.le_refl _) hb)
  clear hr hb t0 t1 t2 HL2 HP2 HB3
  go_wp2_with fail
  go_ret
  exact ⟨rfl, HB4.out⟩
end Go.Proofs.YtmfhmcegmeinnaaGreatDoor.Mut
