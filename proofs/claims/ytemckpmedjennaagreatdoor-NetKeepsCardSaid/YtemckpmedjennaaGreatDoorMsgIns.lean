/- slices.Insert of one element, slices.Delete of one, into and out of rows that the call owns (Msg). PRINTED by wip/genins.py. -/
import Derived.Test.YtemckpmedjennaaGreatDoorSlRow
namespace Go.Proofs.YtemckpmedjennaaGreatDoor.SlMsg
open Go.RowKit

theorem info_E : (Tryz.prog.info? 45).map (fun i => (i.zero, i.size, i.bytes)) = some (some (.agg #[.int .i64 0, .int .i64 0, .int .i64 0, .bool false, .bool false, .bool false, .bool false, .bool false, .int .i64 0, .int .i64 0, .int .i64 0, .int .i64 0, .int .i64 0, .int .i64 0, .int .i64 0, .int .i64 0, .nilIface]), 17, 112) := by kernel_rfl
theorem size_E : (Tryz.prog.info? 45).map (·.size) = some 17 := by kernel_rfl
theorem sizeOf_E (w : World) : (Go.sizeOf 45).run Tryz.prog w = .ok 17 w := by kernel_rfl

/-- What a deletion of one element says. -/
def DelPost (w : World) (base g cap n : Nat) (ys : List Value) (en : Ending) (w' : World) : Prop :=
  en = .returned (.slice (some ⟨g, 0, none⟩) n cap) ∧ w'.ownsRow base 45 17 (.slice (some ⟨g, 0, none⟩) n cap) n ys ∧ w.grownBy w' (some g)

theorem zero_E (w : World) : (zeroValue 45).run Tryz.prog w = .ok (.agg #[.int .i64 0, .int .i64 0, .int .i64 0, .bool false, .bool false, .bool false, .bool false, .bool false, .int .i64 0, .int .i64 0, .int .i64 0, .int .i64 0, .int .i64 0, .int .i64 0, .int .i64 0, .int .i64 0, .nilIface]) w := by kernel_rfl

set_option maxHeartbeats 8000000 in
set_option maxRecDepth 100000 in
theorem delete_in (base g m cap i : Nat) (xs : List Value) (w : World) (hown : w.ownsRow base 45 17 (.slice (some ⟨g, 0, none⟩) (i + 1 + m) cap) (i + 1 + m) xs) (h1x : ∀ u ∈ xs, u.oneCell' = true) :
    Calls Tryz.prog 42 #[.slice (some ⟨g, 0, none⟩) (i + 1 + m) cap, .int .i64 i, .int .i64 ((i : Int) + 1)] w (DelPost w base g cap (i + m) (xs.take (i * 17) ++ xs.drop ((i + 1) * 17))) := by
  obtain ⟨i0, hi, hz0, hz1, hz2⟩ := info_parts info_E
  obtain ⟨g', cap', spare, e, hb, hlt, hg, hcap, hcap0, hsp, hx⟩ := own_whole hown (by omega)
  cases e
  have hcm := hcap0
  unfold maxLen at hcm
  obtain ⟨cur, hcur⟩ : ∃ cur, cur = xs ++ spare := ⟨_, rfl⟩
  obtain ⟨cs, hcs⟩ : ∃ cs, cs = xs.drop ((i + 1) * 17) := ⟨_, rfl⟩
  rw [← hcur] at hg hsp
  have hlc : cs.length = m * 17 := by rw [hcs, List.length_drop, hx]; omega
  have s1 : ∀ A : Addr, (cap ≠ i + 1 → A = ⟨g, (i + 1) * 17, none⟩) → ∀ j u, cs[j]? = some u → w.drew.cell? (A.add j) = some u := fun A hA j u h => by
    have hj := (List.getElem?_eq_some_iff.1 h).1
    rw [hA (by omega), addr_add]
    show w.cell? _ = _
    rw [cells_at hg, hcur, List.getElem?_append_left (by rw [hcs, List.length_drop] at hj; omega)]
    rw [hcs, List.getElem?_drop] at h
    exact h
  have h1c : ∀ u ∈ cs, u.oneCell' = true := fun u hu => h1x u (by rw [hcs] at hu; exact List.mem_of_mem_drop hu)
  have hft : i * 17 + cs.length ≤ cur.length := by rw [hsp, hlc]; omega
  have hl1 : (splice cur (i * 17) cs).length = cur.length := length_splice _ _ _ (by omega)
  have hx1 : ∀ q n, q = (i + m) * 17 → n = 1 → q + n * 17 ≤ (splice cur (i * 17) cs).length := fun q n hq hn => by rw [hl1, hsp, hn]; omega
  have s2 : ∀ W : World, W.heap[g]? = some (.cells ⟨cur⟩ 45 (0, 0)) → (W.setRow g ⟨splice cur (i * 17) cs⟩).heap[g]? = some (.cells ⟨splice cur (i * 17) cs⟩ 45 (0, 0)) := fun W hW => setRow_heap W g _ _ _ _ hW
  have hly : (xs.take (i * 17) ++ xs.drop ((i + 1) * 17)).length = (i + m) * 17 := by
    rw [List.length_append, List.length_take, List.length_drop, hx]; omega
  have hfin : ∀ q (sp : List Value), q = (i + m) * 17 → sp.length = 1 * 17 → ∃ rest, splice (splice cur (i * 17) cs) q sp = (xs.take (i * 17) ++ xs.drop ((i + 1) * 17)) ++ rest ∧ ((xs.take (i * 17) ++ xs.drop ((i + 1) * 17)) ++ rest).length = cap * 17 := fun q sp hq hs => by
    subst hq
    have e1 : i * 17 ≤ xs.length := by rw [hx]; omega
    have e5 : cur.take (i * 17) = xs.take (i * 17) := by rw [hcur, List.take_append_of_le_length (by omega)]
    have e6 : (xs.take (i * 17)).length = i * 17 := by rw [List.length_take]; omega
    have e7 : splice (splice cur (i * 17) cs) ((i + m) * 17) sp = (xs.take (i * 17) ++ xs.drop ((i + 1) * 17)) ++ (sp ++ (splice cur (i * 17) cs).drop ((i + m) * 17 + sp.length)) := by
      rw [show splice (splice cur (i * 17) cs) ((i + m) * 17) sp = (splice cur (i * 17) cs).take ((i + m) * 17) ++ (sp ++ (splice cur (i * 17) cs).drop ((i + m) * 17 + sp.length)) from rfl]
      congr 1
      unfold splice
      rw [e5, ← List.append_assoc, List.take_append_of_le_length (by rw [List.length_append, e6, hlc]; omega), List.take_of_length_le (by rw [List.length_append, e6, hlc]; omega), hcs]
    exact ⟨_, e7, by rw [← e7, length_splice _ _ _ (by rw [hs]; exact hx1 _ 1 rfl rfl), hl1, hsp]⟩
  have HG := Lib.hid hg
  have HLC := Lib.hid hlc
  have HF := Lib.hid hfin
  have HY := Lib.hid hly
  have HFT := Lib.hid hft
  have HX1 := Lib.hid hx1
  have S1 := Lib.hid s1
  have S2 := Lib.hid s2
  have H1C := Lib.hid h1c
  have a1 : IntKind.i64.wrap ((i : Int) + 1) = (i : Int) + 1 := IntWalk.i64_in _ (by omega)
  have a2 : (0 : Int) ≤ (i : Int) + 1 := by omega
  have a3 : ((i : Int) + 1).toNat = i + 1 := by omega
  have a4 : (i : Int) ≤ ((i + 1 + m : Nat) : Int) := by omega
  have a4' : (i : Int) ≤ (i : Int) + 1 + (m : Int) := by omega
  have a5 : (i : Int) + 1 ≤ ((i + 1 + m : Nat) : Int) := by omega
  have a5' : (i : Int) + 1 ≤ (i : Int) + 1 + (m : Int) := by omega
  have a6 : (i : Int) ≤ (cap : Int) := by omega
  have a9 : (i : Int) ≤ (i : Int) + 1 := by omega
  have a7 : ((i + 1 + m : Nat) : Int) ≤ (cap : Int) := by omega
  have a7' : (i : Int) + 1 + (m : Int) ≤ (cap : Int) := by omega
  have a8 : ((i : Int) == (i : Int) + 1) = false := by simp; omega
  have b9 : i + 1 + m - (i + m) = 1 := by omega
  have b0 : ¬ (i = i + 1) := by omega
  have b1 : ¬ (cap = i) := by omega
  have b7 : ¬ (i + 1 + m = i) := by omega
  have b8 : ¬ (cap = i + m) := by omega
  clear hg hsp hlc hl1 hfin hx hcur hcs s1 s2 hft hly h1c h1x hown hx1
  by_cases hci : cap = i + 1
  · obtain rfl : m = 0 := by omega
    subst hci
    clear a4 a4' a5 a5' a6 a7 a7' b7 b9 b1 b8
    have c1 : i + 1 - i = 1 := by omega
    have c2 : ¬ (i + 1 = i) := by omega
    go_enter Tryz.func42, Tryz.ntmps42
    go_wp2_with fail
    go_region_law (refine step_append_k rfl (.tmp 22) (.tmp 25) 32 rfl 45 i0 17 Tryz.underlying32 hi hz1 g i (i + 1) (by simp [Act.eval, Act.put]) cur HG.out ⟨g, 0, none⟩ 0 0 cs (by simp [Act.eval, Act.put]) HLC.out (S1.out _ (fun h => absurd rfl h)) H1C.out (by omega) HFT.out ?_)
    go_wp2_with (refine wpList_clear_k _ rfl (.tmp 31) 32 rfl 45 (.agg #[.int .i64 0, .int .i64 0, .int .i64 0, .bool false, .bool false, .bool false, .bool false, .bool false, .int .i64 0, .int .i64 0, .int .i64 0, .int .i64 0, .int .i64 0, .int .i64 0, .int .i64 0, .int .i64 0, .nilIface]) 17 Tryz.underlying32 zero_E rfl (by decide) g _ _ _ rfl (splice cur (i * 17) cs) 45 (S2.out _ HG.out) (HX1.out _ _ (by simp) (by omega)) ?_; intro sp hsp; have HSP := Lib.hid (show sp.length = 1 * 17 by have := hsp; omega); clear hsp)
    go_ret
    obtain ⟨rest, f1, f2⟩ := HF.out (i * 17) sp (by omega) HSP.out
    refine ⟨rfl, own_mk hb (spare := rest) ?_ (by omega) hcap0 f2 HY.out, ?_⟩
    · rw [← f1]
      exact setRow_heap _ g _ _ _ _ (S2.out _ HG.out)
    · exact grown_setRow (grown_setRow (grown_drew (grown_refl w (some g))) (Or.inl rfl) _) (Or.inl rfl) _
  · go_enter Tryz.func42, Tryz.ntmps42
    go_wp2_with fail
    go_region_law (refine step_append_k rfl (.tmp 22) (.tmp 25) 32 rfl 45 i0 17 Tryz.underlying32 hi hz1 g i cap (by simp [Act.eval, Act.put]) cur HG.out ⟨g, (i + 1) * 17, none⟩ m (cap - (i + 1)) cs (by simp [Act.eval, Act.put]) HLC.out (S1.out _ (fun _ => rfl)) H1C.out (by omega) HFT.out ?_)
    go_wp2_with (refine wpList_clear_k _ rfl (.tmp 31) 32 rfl 45 (.agg #[.int .i64 0, .int .i64 0, .int .i64 0, .bool false, .bool false, .bool false, .bool false, .bool false, .int .i64 0, .int .i64 0, .int .i64 0, .int .i64 0, .int .i64 0, .int .i64 0, .int .i64 0, .int .i64 0, .nilIface]) 17 Tryz.underlying32 zero_E rfl (by decide) g _ _ _ rfl (splice cur (i * 17) cs) 45 (S2.out _ HG.out) (HX1.out _ _ (by simp) (by omega)) ?_; intro sp hsp; have HSP := Lib.hid (show sp.length = 1 * 17 by have := hsp; omega); clear hsp)
    go_ret
    obtain ⟨rest, f1, f2⟩ := HF.out ((i + m) * 17) sp (by omega) HSP.out
    refine ⟨rfl, own_mk hb (spare := rest) ?_ (by omega) hcap0 f2 HY.out, ?_⟩
    · rw [← f1]
      exact setRow_heap _ g _ _ _ _ (S2.out _ HG.out)
    · exact grown_setRow (grown_setRow (grown_drew (grown_refl w (some g))) (Or.inl rfl) _) (Or.inl rfl) _

/-- slices.Delete of one element. -/
theorem delete_any (base g n cap i : Nat) (xs : List Value) (w : World) (hown : w.ownsRow base 45 17 (.slice (some ⟨g, 0, none⟩) n cap) n xs) (hin : i < n) (h1x : ∀ u ∈ xs, u.oneCell' = true) :
    Calls Tryz.prog 42 #[.slice (some ⟨g, 0, none⟩) n cap, .int .i64 i, .int .i64 ((i : Int) + 1)] w (DelPost w base g cap (n - 1) (xs.take (i * 17) ++ xs.drop ((i + 1) * 17))) := by
  obtain ⟨m, rfl⟩ : ∃ m, n = i + 1 + m := ⟨n - (i + 1), by omega⟩
  rw [show i + 1 + m - 1 = i + m by omega]
  exact delete_in base g m cap i xs w hown h1x
end Go.Proofs.YtemckpmedjennaaGreatDoor.SlMsg
