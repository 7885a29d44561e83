/- The law's count of nodes, walked. -/
import Derived.Test.YtehoanpjlinfaaaTriItems
namespace Go.Proofs.Ytehoanpjlinfaaa.Tri
open Go.RowKit

def cntF (l : List Tx) (s : Tx) : Nat → Nat → Nat
  | 0, _ => 0
  | f + 1, k => (if fresh l s (k + 1) then 1 else 0) + cntF l s f (k + 1)
theorem cntF_range (l : List Tx) (s : Tx) : ∀ f k, ((List.range' k f).filter fun k => fresh l s (k + 1)).length = cntF l s f k
  | 0, k => by simp [cntF]
  | f + 1, k => by
    rw [List.range'_succ, List.filter_cons, cntF, ← cntF_range l s f (k + 1)]
    split
    · simp; omega
    · simp
theorem news_len (l : List Tx) (s : Tx) : (news l s).length = cntF l s s.length 0 := by
  unfold news
  rw [List.length_map, List.range_eq_range', cntF_range]
theorem cntF_le (l : List Tx) (s : Tx) : ∀ f k, cntF l s f k ≤ f
  | 0, _ => by simp [cntF]
  | f + 1, k => by have := cntF_le l s f (k + 1); unfold cntF; split <;> omega
theorem fresh_snoc (l : List Tx) (t s : Tx) (k : Nat) : fresh (l ++ [t]) s k = (fresh l s k && !begins t (s.take k)) := by
  unfold fresh
  rw [List.all_append]
  simp

set_option maxHeartbeats 8000000 in
set_option maxRecDepth 100000 in
theorem nodes_row (ao : Option Addr) (ac : Nat) (l : List RI) (ok : Nat → Prop) (w : World) (hl : Items ok w (.slice ao l.length ac) l) (h1 : l.length ≤ 100) (h3 : ∀ x ∈ l, x.s.length ≤ 100) :
    Calls Try.prog 11 #[.slice ao l.length ac] w fun e w' => e = .returned (.int .i64 (nodesF (l.map (·.s)))) ∧ Below w.heap.size w w' := by
  obtain ⟨T, hT⟩ : ∃ T, T = l.map (·.s) := ⟨_, rfl⟩
  rw [← hT]
  obtain ⟨R, hR⟩ : ∃ R, R = nodesF T := ⟨_, rfl⟩
  rw [← hR]
  have HT := Lib.hid hT
  have HR := Lib.hid hR
  have HL := Lib.hid hl
  have H3 := Lib.hid h3
  obtain ⟨n, hn⟩ : ∃ n, n = l.length := ⟨_, rfl⟩
  rw [← hn] at HL h1 ⊢
  have HN := Lib.hid hn
  clear hT hR hl h3 hn
  go_enter Try.func11, Try.ntmps11
  go_wp2_with fail
  go_loopw [3, 4] (fun nv iv wr => ∃ (i a : Nat), iv = .int .i64 i ∧ nv = .int .i64 a ∧ i ≤ n ∧ a ≤ 1 + 100 * i ∧ Hid (Below w.heap.size w wr) ∧ Hid (a + (firsts (T.take i) (T.drop i)).length = R)) (fun _ iv _ => n - (intOf iv).toNat)
  case atStart => exact ⟨0, 1, rfl, rfl, by omega, by omega, Lib.hid (Below.refl _ _), Lib.hid (by rw [HR.out]; unfold nodesF; simp)⟩
  case round =>
    obtain ⟨i, a, rfl, rfl, hin, haB, hB, hF⟩ := hrel
    by_cases hlt : i < n
    · obtain ⟨x, hx⟩ : ∃ x, l[i]? = some x := ⟨_, List.getElem?_eq_getElem (by have := HN.out; omega)⟩
      obtain ⟨ib, ioff, rfl, hibl, c0, c1⟩ := item_at HL.out hx
      have hxm := List.mem_of_getElem? hx
      have hxr := (HL.out.each x hxm).row
      obtain ⟨so, sc, hsv, hslc, _⟩ := Lst.form hxr
      rw [hsv] at c0 hxr
      have hTi : T.drop i = x.s :: T.drop (i + 1) := by
        have : T[i]? = some x.s := by rw [HT.out, List.getElem?_map, hx]; rfl
        rw [List.drop_eq_getElem_cons (List.getElem?_eq_some_iff.1 this).1, (List.getElem?_eq_some_iff.1 this).2]
      have hTt : T.take (i + 1) = T.take i ++ [x.s] := by
        have : T[i]? = some x.s := by rw [HT.out, List.getElem?_map, hx]; rfl
        rw [List.take_add_one, this]; rfl
      have hFF : a + cntF (T.take i) x.s x.s.length 0 + (firsts (T.take (i + 1)) (T.drop (i + 1))).length = R := by
        have := hF.out
        rw [hTi, firsts, List.length_append, news_len, ← hTt] at this
        omega
      have hxl := H3.out x hxm
      obtain ⟨m, hm⟩ : ∃ m, m = x.s.length := ⟨_, rfl⟩
      rw [← hm] at c0 hxr hFF hxl hslc
      have HM := Lib.hid hm
      have HXR := Lib.hid hxr
      have HFF := Lib.hid hFF
      have HX := Lib.hid hx
      have HC0 := Lib.hid c0
      clear hF hTi hTt hFF hsv hxm hxr hm hx c0 c1
      go_wp2_with fail
      obtain ⟨wo, hwo⟩ : ∃ wo : World, wo = wr := ⟨_, rfl⟩
      subst hwo
      go_loopw [3, 5] (fun nv kv wr => ∃ (k a : Nat), kv = .int .i64 ((k : Int) + 1) ∧ nv = .int .i64 a ∧ k ≤ m ∧ a ≤ 1 + 100 * i + k ∧ Hid (Below w.heap.size w wr) ∧ Hid (a + cntF (T.take i) x.s (m - k) k + (firsts (T.take (i + 1)) (T.drop (i + 1))).length = R)) (fun _ kv _ => m + 1 - (intOf kv).toNat)
      case atStart => exact ⟨0, a, by simp, rfl, by omega, by omega, hB, by rw [Nat.sub_zero]; exact HFF⟩
      case round =>
        obtain ⟨k, a, rfl, rfl, hkm, haB, hB, hC⟩ := hrel
        have c0 : wr.cell? ⟨ib, ioff + i * 2, none⟩ = some (.slice so m sc) := (hB.out.cell (p := ⟨ib, ioff + i * 2, none⟩) hibl).trans HC0.out
        by_cases hkl : k < m
        · have hg : decide ((k : Int) + 1 ≤ (m : Int)) = true := decide_eq_true (by omega)
          have hstep : cntF (T.take i) x.s (m - k) k = (if fresh (T.take i) x.s (k + 1) then 1 else 0) + cntF (T.take i) x.s (m - (k + 1)) (k + 1) := by
            rw [show m - k = (m - (k + 1)) + 1 by omega]; rfl
          have HST := Lib.hid hstep
          clear hstep
          go_wp2_with fail
          obtain ⟨wp, hwp⟩ : ∃ wp : World, wp = wr := ⟨_, rfl⟩
          subst hwp
          go_loopw [6, 7] (fun fv jv wr => ∃ (j : Nat), jv = .int .i64 j ∧ j ≤ i ∧ fv = .bool (fresh (T.take j) x.s (k + 1)) ∧ Hid (Below w.heap.size w wr)) (fun _ jv _ => i - (intOf jv).toNat)
          case atStart => exact ⟨0, rfl, by omega, by simp [fresh], hB⟩
          case round =>
            obtain ⟨j, rfl, hji, rfl, hB2⟩ := hrel
            obtain ⟨fr, hfr⟩ : ∃ fr, fr = fresh (T.take j) x.s (k + 1) := ⟨_, rfl⟩
            rw [← hfr]
            have HFR := Lib.hid hfr
            clear hfr
            by_cases hjl : j < i
            · obtain ⟨y, hy⟩ : ∃ y, l[j]? = some y := ⟨_, List.getElem?_eq_getElem (by have := HN.out; omega)⟩
              have hyj : T.take (j + 1) = T.take j ++ [y.s] := by
                have : T[j]? = some y.s := by rw [HT.out, List.getElem?_map, hy]; rfl
                rw [List.take_add_one, this]; rfl
              have HYJ := Lib.hid hyj
              have hsn : fresh (T.take (j + 1)) x.s (k + 1) = (fr && !begins y.s (x.s.take (k + 1))) := by rw [HYJ.out, fresh_snoc, HFR.out]
              have HSN := Lib.hid hsn
              clear hyj hsn
              cases fr
              · have hF2 : Hid (fresh (T.take (j + 1)) x.s (k + 1) = false) := by rw [HSN.out]; rfl
                clear hy
                go_wp2_with fail
                go_quiet (fail)
                go_wp2_with fail
                go_roundw
                case rel => exact ⟨j + 1, by go_num, by omega, by rw [hF2.out], Lib.hid (below_drewN hB2.out _)⟩
                case measure => simp [intOf]; omega
              · obtain ⟨jb, joff, hjb, hjbl, d0, d1⟩ := item_at HL.out hy
                cases hjb
                have hym := List.mem_of_getElem? hy
                have hyr := (HL.out.each y hym).row
                obtain ⟨yo, yc, hyv, _⟩ := Lst.form hyr
                rw [hyv] at d0 hyr
                have hyl := H3.out y hym
                have hbg : ∀ W : World, Below w.heap.size w W → Calls Try.prog 12 #[.slice yo y.s.length yc, .slice so (k + 1) sc] W fun e w' => e = .returned (.bool (begins y.s (x.s.take (k + 1)))) ∧ Below W.heap.size W w' := fun W hW => by
                  have ht := RRow.take HXR.out (k := k + 1) (by have := HM.out; omega)
                  have hlt : (x.s.take (k + 1)).length = k + 1 := by rw [List.length_take]; have := HM.out; omega
                  have := begins_any yo so yc sc y.s (x.s.take (k + 1)) W (hyr.below hW) (ht.below hW) (by omega) (by rw [hlt]; omega)
                  rwa [hlt] at this
                obtain ⟨q, hq⟩ : ∃ q, q = begins y.s (x.s.take (k + 1)) := ⟨_, rfl⟩
                rw [← hq] at hbg
                have HBG := Lib.hid hbg
                have hF2 : Hid (fresh (T.take (j + 1)) x.s (k + 1) = !q) := by rw [HSN.out, hq]; rfl
                obtain ⟨yl, hyl2⟩ : ∃ yl, yl = y.s.length := ⟨_, rfl⟩
                rw [← hyl2] at d0 HBG
                have d0' : wr.cell? ⟨ib, ioff + j * 2, none⟩ = some (.slice yo yl yc) := (hB2.out.cell (p := ⟨ib, ioff + j * 2, none⟩) hibl).trans d0
                have c0' : wr.cell? ⟨ib, ioff + i * 2, none⟩ = some (.slice so m sc) := (hB2.out.cell (p := ⟨ib, ioff + i * 2, none⟩) hibl).trans HC0.out
                have hibw : ib < wr.heap.size := by have := hB2.out.size; omega
                have w1 : (0 : Int) ≤ (k : Int) + 1 := by omega
                have w2 : (k : Int) + 1 ≤ (sc : Int) := by omega
                have w3 : ((k : Int) + 1).toNat = k + 1 := by omega
                have w4 : (j : Int) < (n : Int) := by omega
                have w5 : (i : Int) < (n : Int) := by omega
                clear hy hym hyr hyv hyl hbg hq hyl2 d0 d1 hjbl c0
                go_wp2_with fail
                refine wp_region_calm (by kernel_rfl) (by kernel_rfl) ?_
                repeat (go_big_quiet_step (first | (go_at_call 12; exact calm (HBG.out _ (below_then hB2.out (Nat.le_refl _) (BW.below _))))))
                refine wpQuiet_nil ?_
                rintro _ ⟨z, rfl⟩
                go_wp2_with fail
                go_roundw
                case rel => exact ⟨j + 1, by go_num, by omega, by rw [hF2.out], Lib.hid (hB2.out.trans (z.below.mono (by have := hB2.out.size; omega)))⟩
                case measure => simp [intOf]; omega
            · obtain rfl : i = j := by omega
              cases fr
              · have hc2 : a + cntF (T.take i) x.s (m - (k + 1)) (k + 1) + (firsts (T.take (i + 1)) (T.drop (i + 1))).length = R := by have := hC.out; rw [HST.out, ← HFR.out] at this; simp at this; omega
                have HC2 := Lib.hid hc2
                clear hc2 hC
                go_wp2_with fail
                go_roundw
                case rel => exact ⟨k + 1, a, by go_num, rfl, by omega, by omega, hB2, HC2⟩
                case measure => simp [intOf]; omega
              · have hc2 : a + 1 + cntF (T.take i) x.s (m - (k + 1)) (k + 1) + (firsts (T.take (i + 1)) (T.drop (i + 1))).length = R := by have := hC.out; rw [HST.out, ← HFR.out] at this; simp at this; omega
                have HC2 := Lib.hid hc2
                have hwr : IntKind.i64.wrap ((a : Int) + 1) = (a : Int) + 1 := IntWalk.i64_in _ (by omega)
                clear hc2 hC
                go_wp2_with fail
                go_roundw
                case rel => exact ⟨k + 1, a + 1, by go_num, by go_num, by omega, by omega, hB2, HC2⟩
                case measure => simp [intOf]; omega
        · obtain rfl : m = k := by omega
          have hg : decide ((m : Int) + 1 ≤ (m : Int)) = false := decide_eq_false (by omega)
          have hc2 : a + (firsts (T.take (i + 1)) (T.drop (i + 1))).length = R := by have := hC.out; rw [Nat.sub_self] at this; simpa [cntF] using this
          have HC2 := Lib.hid hc2
          clear hc2 hC
          go_wp2_with fail
          go_roundw
          case rel => exact ⟨i + 1, a, by go_num, rfl, by omega, by omega, hB, HC2⟩
          case measure => simp [intOf]; omega
    · obtain rfl : n = i := by omega
      have hfin : a = R := by have := hF.out; rw [List.drop_of_length_le (l := T) (i := n) (by rw [HT.out, List.length_map, HN.out]; exact Nat.le_refl _)] at this; simpa [firsts] using this
      have HFIN := Lib.hid hfin
      clear hfin hF
      go_wp2_with fail
      go_ret
      exact ⟨ret_int (by rw [HFIN.out]), hB.out⟩
end Go.Proofs.Ytehoanpjlinfaaa.Tri
