/- The walk of the law's alive (layer 24). -/
import Derived.Test.YtehoanpjlinfaaaMrkOf
namespace Go.Proofs.Ytehoanpjlinfaaa.Mrk
open Go.RowKit Go.Proofs.Ytehoanpjlinfaaa.Ints

theorem wpList_load_row_w {P : Program} {ops : Array Oper} {rest : List Oper} {o : Oper} {a : Act} {w : World} {Q : Exit → Act → World → Prop} (hw : Region.wanted o (yielded ops a.tmps) = true) (ty : TypeId) (x : Operand) (ho : o.op = .load ty x)
    (g : Nat) (hx : a.eval x = .pointer (some ⟨g, 0, none⟩)) (t : TypeId) (cs : Array Value) (fr : Nat × Nat) (d : TypeDesc) (hg : w.heap[g]? = some (.cells cs t fr))
    (hu : P.underlying ty = some d) (hd : (match d with | .struct _ | .array _ _ => true | _ => false) = true) (hi : (P.info? ty).map (·.size) = some cs.size)
    (h : wpList P ops Q rest (a.put o.dst (.agg cs)) w) : wpList P ops Q (o :: rest) a w :=
  wpList_step fun _ hK => by rw [if_pos hw]; exact wp_load_row ty x ho g hx t cs fr d hg hu hd hi (hK _ _ h)
theorem same_down (a : Nat → Nat) : downF (sameAt a a) 4 1 = ([], 1) := by
  unfold downF
  rw [show sameAt a a 1 = true by simp [sameAt]]
  rfl
theorem noneT_sound : soundF noneT = true := soundF_yes noneT_ok
theorem noneT_root : noneT 1 = lev 4 := rfl

set_option maxHeartbeats 4000000 in
set_option maxRecDepth 100000 in
theorem alive_any (w : World) : Calls Try.prog 23 #[] w fun e w' => e = .returned (.bool true) ∧ Below w.heap.size w w' := by
  have hsz : (Try.prog.info? 52).map (·.size) = some (vT noneT).size := by rw [vT_size]; exact size52
  have hone := vT_one noneT
  have hzs : (vT fun _ => 0).size = (vT noneT).size := by rw [vT_size, vT_size]
  have hof := of_none
  have hdf := differ_any noneT noneT
  rw [same_down] at hdf
  have hso := fun w => sound_any noneT w noneT_wide
  rw [noneT_sound] at hso
  have hro := root_any noneT
  rw [noneT_root] at hro
  have hr0 : ¬ lev 4 = 0 := lev4
  obtain ⟨r, hr⟩ : ∃ r, r = lev 4 := ⟨_, rfl⟩
  rw [← hr] at hro hr0
  obtain ⟨Y, hY⟩ : ∃ Y, Y = vT noneT := ⟨_, rfl⟩
  obtain ⟨Z, hZ⟩ : ∃ Y, Y = vT fun _ => 0 := ⟨_, rfl⟩
  rw [← hY] at hsz hone hof hdf hso hro
  rw [← hY, ← hZ] at hzs
  unfold vNone at hof
  have HSZ := Lib.hid hsz
  have HONE := Lib.hid hone
  have HZS := Lib.hid hzs
  have HOF := Lib.hid hof
  have HDF := Lib.hid hdf
  have HSO := Lib.hid hso
  have HRO := Lib.hid hro
  have HZ := Lib.hid hZ
  have hrd : decide ((r : Int) = 0) = false := by simp; omega
  clear hsz hone hof hdf hso hro hr hY hZ hzs
  go_enter Try.func23, Try.ntmps23
  go_wp2_with fail
  refine (HOF.out _).mono ?_
  rintro e w1 ⟨rfl, hb1⟩
  go_upto_region 2 with (first | (refine wp_alloc_tree rfl rfl Z HZ.out ?_) | (refine wpList_store_row rfl 52 _ _ rfl w1.heap.size Y rfl rfl 52 Z (heap_alloc_last w1 _) HSZ.out HZS.out HONE.out ?_))
  rw [World.setRow_alloc_new]
  have hT : (w1.alloc (.cells Y 52)).heap[w1.heap.size]? = some (.cells Y 52 (0, 0)) := heap_alloc_last w1 _
  have hb2 : Below w.heap.size w (w1.alloc (.cells Y 52)) := hb1.alloc hb1.size _
  obtain ⟨W, hW⟩ : ∃ W, W = w1.alloc (.cells Y 52) := ⟨_, rfl⟩
  rw [← hW] at hT hb2 ⊢
  obtain ⟨g, hg⟩ : ∃ g, g = w1.heap.size := ⟨_, rfl⟩
  rw [← hg] at hT ⊢
  have HT := Lib.hid hT
  have hlt : g < W.heap.size := (Array.getElem?_eq_some_iff.1 hT).1
  clear hT hg hW
  go_wp2_with (refine wpList_load_row rfl 52 _ rfl g rfl 52 Y (0, 0) _ HT.out Try.underlying52 rfl HSZ.out ?_)
  refine (HDF.out _).mono ?_
  rintro e w3 ⟨v, rfl, hrow, hb3⟩
  obtain ⟨ao, cap, rfl⟩ := row_form hrow
  have HT3 : Hid (w3.heap[g]? = some (.cells Y 52 (0, 0))) := Lib.hid ((hb3.block g hlt).trans HT.out)
  have hlt3 : g < w3.heap.size := Nat.lt_of_lt_of_le hlt hb3.size
  clear hrow
  go_wp2_with (refine wpList_load_row_w rfl 52 _ rfl g rfl 52 Y (0, 0) _ HT3.out Try.underlying52 rfl HSZ.out ?_)
  refine (HSO.out _).mono ?_
  rintro e w4 ⟨rfl, hb4⟩
  have HT4 : Hid (w4.heap[g]? = some (.cells Y 52 (0, 0))) := Lib.hid ((hb4.block g hlt3).trans HT3.out)
  go_wp2_with (refine wpList_load_row_w rfl 52 _ rfl g rfl 52 Y (0, 0) _ HT4.out Try.underlying52 rfl HSZ.out ?_)
  refine (HRO.out _).mono ?_
  rintro e w5 ⟨rfl, hb5⟩
  go_wp2_with fail
  go_ret
  exact ⟨ret_bool (by simp; omega), ((hb2.trans (hb3.mono hb2.size)).trans (hb4.mono (Nat.le_trans hb2.size hb3.size))).trans (hb5.mono (Nat.le_trans hb2.size (Nat.le_trans hb3.size hb4.size)))⟩
end Go.Proofs.Ytehoanpjlinfaaa.Mrk
