/- The walk of MerkleWalks (layer 24). -/
import Derived.Test.YtehoanpjlinfaaaMrkAlive
import Derived.BigQuiet
namespace Go.Proofs.Ytehoanpjlinfaaa.Mrk
open Go.RowKit Go.Proofs.Ytehoanpjlinfaaa.Ints

/-- A whole row loaded in a region that draws its order. -/
theorem wpQuiet_load_row {P : Program} {ops : Array Oper} {C : World → Prop} {Q : Act → Prop} {a : Act} {o : Oper} {rest : List Oper} (hw : Region.wanted o (yielded ops a.tmps) = true) (ty : TypeId) (x : Operand) (ho : o.op = .load ty x)
    (g : Nat) (hx : a.eval x = .pointer (some ⟨g, 0, none⟩)) (t : TypeId) (cs : Array Value) (fr : Nat × Nat) (d : TypeDesc) (hC : ∀ w, C w → w.heap[g]? = some (.cells cs t fr))
    (hu : P.underlying ty = some d) (hd : (match d with | .struct _ | .array _ _ => true | _ => false) = true) (hi : (P.info? ty).map (·.size) = some cs.size)
    (h : wpQuiet P ops C Q rest (a.put o.dst (.agg cs))) : wpQuiet P ops C Q (o :: rest) a :=
  BigFrame.wpQuiet_want hw fun K hK => ⟨.agg cs, fun w hw' => by
    unfold Oper.quietAt execOp
    simp only [ho, hx, Instr.loadAt, Instr.sureAddr, Sem.run_bind, Sem.run_pure, Result.andThen_ok, run_loadVar_row w g t ty cs fr d (hC w hw') hu hd hi]
    exact ⟨rfl, rfl⟩, hK _ h⟩

set_option maxHeartbeats 4000000 in
set_option maxRecDepth 100000 in
theorem merkleWalks_any (a b : Nat → Nat) (w : World) (ha : Wide a) :
    Calls Try.prog 4 #[.agg (vT a), .agg (vT b)] w fun e w' => e = .returned (.bool true) ∧ Below w.heap.size w w' := by
  have hat := laid2_at w 52 a b
  have hbl := laid2_below w 52 (vT a) (vT b)
  have hsA : (Try.prog.info? 52).map (·.size) = some (vT a).size := by rw [vT_size]; exact size52
  have hsB : (Try.prog.info? 52).map (·.size) = some (vT b).size := by rw [vT_size]; exact size52
  have hd1 := differ_any a b
  have hd2 := refdiffer_any a b
  rw [tree_same] at hd1
  have hso := fun w => sound_any a w ha
  have hrs := fun w => refsound_any a w ha
  have hro := root_any a
  have hle : (outF (sameAt a b) 32).length ≤ 100000 := Nat.le_trans (outF_le _ _) (by decide)
  obtain ⟨O, hO⟩ : ∃ O, O = outF (sameAt a b) 32 := ⟨_, rfl⟩
  obtain ⟨n, hn⟩ : ∃ n, n = lookF (sameAt a b) 32 := ⟨_, rfl⟩
  obtain ⟨s, hs⟩ : ∃ s, s = soundF a := ⟨_, rfl⟩
  rw [← hO, ← hn] at hd1 hd2
  rw [← hO] at hle
  rw [← hs] at hso hrs
  have c1' := fun (W : World) (t : TypeId) (g : Nat) (h : TreeAt W t g a) => h.cell (i := 1) (by decide)
  obtain ⟨A, hA⟩ : ∃ A, A = vT a := ⟨_, rfl⟩
  obtain ⟨B, hB⟩ : ∃ A, A = vT b := ⟨_, rfl⟩
  rw [← hA] at hsA hso hrs hro
  rw [← hB] at hsB
  rw [← hA, ← hB] at hat hbl hd1 hd2 ⊢
  obtain ⟨W, hW⟩ : ∃ W, W = laid2 w 52 A B := ⟨_, rfl⟩
  rw [← hW] at hat hbl
  have HW : Hid ((w.alloc (.cells A 52)).alloc (.cells B 52) = W) := Lib.hid hW.symm
  have HAT := Lib.hid hat
  have HSA := Lib.hid hsA
  have HSB := Lib.hid hsB
  have HD1 := Lib.hid hd1
  have HD2 := Lib.hid hd2
  have HSO := Lib.hid hso
  have HRS := Lib.hid hrs
  have HRO := Lib.hid hro
  have HLE := Lib.hid hle
  have HC1 := Lib.hid c1'
  have HA := Lib.hid hA
  have HB := Lib.hid hB
  clear hat hsA hsB hd1 hd2 hso hrs hro hle c1' hA hB hW hO hn hs
  go_enter Try.func4, Try.ntmps4
  go_upto_region 1 with fail
  rw [HW.out]
  have hT1 : W.heap[w.heap.size]? = some (.cells A 52 (0, 0)) := by rw [HA.out]; exact HAT.out.1
  have hT2 : W.heap[w.heap.size + 1]? = some (.cells B 52 (0, 0)) := by rw [HB.out]; exact HAT.out.2
  have HT1 := Lib.hid hT1
  have HT2 := Lib.hid hT2
  have hlt2 : w.heap.size + 1 < W.heap.size := HAT.out.2.lt
  clear hT1 hT2
  go_wp2_with (first
    | (refine wpList_load_row rfl 52 _ rfl w.heap.size rfl 52 A (0, 0) _ HT1.out Try.underlying52 rfl HSA.out ?_)
    | (refine wpList_load_row rfl 52 _ rfl (w.heap.size + 1) rfl 52 B (0, 0) _ HT2.out Try.underlying52 rfl HSB.out ?_))
  refine (HD1.out _).mono ?_
  rintro e w1 ⟨v1, rfl, hr1, hb1⟩
  obtain ⟨ao, ac, rfl⟩ := row_form hr1
  have HT3 : Hid (w1.heap[w.heap.size]? = some (.cells A 52 (0, 0))) := Lib.hid ((hb1.block _ (by omega)).trans HT1.out)
  have HT4 : Hid (w1.heap[w.heap.size + 1]? = some (.cells B 52 (0, 0))) := Lib.hid ((hb1.block _ hlt2).trans HT2.out)
  have hl1 := hb1.size
  have HR1 := Lib.hid hr1
  clear hr1
  go_wp2_with (first
    | (refine wpList_load_row rfl 52 _ rfl w.heap.size rfl 52 A (0, 0) _ HT3.out Try.underlying52 rfl HSA.out ?_)
    | (refine wpList_load_row rfl 52 _ rfl (w.heap.size + 1) rfl 52 B (0, 0) _ HT4.out Try.underlying52 rfl HSB.out ?_))
  refine (HD2.out _).mono ?_
  rintro e w2 ⟨v2, rfl, hr2, hb2⟩
  obtain ⟨bo, bc, rfl⟩ := row_form hr2
  have hT5 : w2.heap[w.heap.size]? = some (.cells A 52 (0, 0)) := (hb2.block _ (by omega)).trans HT3.out
  have hb12 := hb1.trans (hb2.mono hb1.size)
  have hl2 := hb2.size
  have hlt5 : w.heap.size < w2.heap.size := by omega
  have hI1 : IRow w2 (.slice ao O.length ac) O := Lst.owned enI_len (by decide) rfl (row_below HR1.out hb2)
  have hI2 : IRow w2 (.slice bo O.length bc) O := Lst.owned enI_len (by decide) rfl hr2
  have heq : ∀ x : BW w2, Calls Try.prog 16 #[.slice ao O.length ac, .slice bo O.length bc] x.at fun e w' => e = .returned (.bool true) ∧ Below x.at.heap.size x.at w' := fun x => by
    have h := Ints.equal_any ao bo ac bc O O x.at (hI1.below x.below) (hI2.below x.below) HLE.out HLE.out
    rw [eqI_self] at h
    exact h
  have hc1 : w2.cell? ⟨w.heap.size, 1, none⟩ = some (.int .u64 (a 1 : Nat)) := HC1.out w2 52 w.heap.size (by unfold TreeAt; rw [← HA.out]; exact hT5)
  have hrow : ∀ w', (∃ x : BW w2, w' = x.at) → w'.heap[w.heap.size]? = some (.cells A 52 (0, 0)) := by
    rintro _ ⟨x, rfl⟩
    exact (x.below.block _ hlt5).trans hT5
  obtain ⟨g, hg⟩ : ∃ g, g = w.heap.size := ⟨_, rfl⟩
  rw [← hg] at hc1 hrow hlt5
  have HG := Lib.hid hg
  have HEQ := Lib.hid heq
  have HROW := Lib.hid hrow
  obtain ⟨m, hm⟩ : ∃ m, m = O.length := ⟨_, rfl⟩
  clear hI1 hI2 hr2 hT5 heq hrow hg hm
  go_upto_region 3 with fail
  rw [← HG.out]
  refine wp_region_calm (by kernel_rfl) (by kernel_rfl) ?_
  repeat (go_big_quiet_step (first
    | (go_at_call 16; exact calm (HEQ.out _))
    | (go_at_call 20; exact calm (HSO.out _))
    | (go_at_call 21; exact calm (HRS.out _))
    | (go_at_call 22; exact calm (HRO.out _))
    | (go_at_call 23; exact calm (alive_any _))))
  refine wpQuiet_load_row rfl 52 _ rfl g rfl 52 A (0, 0) _ HROW.out Try.underlying52 rfl HSA.out ?_
  simp only [Act.put, List.setIfInBounds_toArray, List.set_cons_succ, List.set_cons_zero]
  repeat (go_big_quiet_step (first
    | (go_at_call 16; exact calm (HEQ.out _))
    | (go_at_call 20; exact calm (HSO.out _))
    | (go_at_call 21; exact calm (HRS.out _))
    | (go_at_call 22; exact calm (HRO.out _))
    | (go_at_call 23; exact calm (alive_any _))))
  refine wpQuiet_load_row rfl 52 _ rfl g rfl 52 A (0, 0) _ HROW.out Try.underlying52 rfl HSA.out ?_
  simp only [Act.put, List.setIfInBounds_toArray, List.set_cons_succ, List.set_cons_zero]
  repeat (go_big_quiet_step (first
    | (go_at_call 16; exact calm (HEQ.out _))
    | (go_at_call 20; exact calm (HSO.out _))
    | (go_at_call 21; exact calm (HRS.out _))
    | (go_at_call 22; exact calm (HRO.out _))
    | (go_at_call 23; exact calm (alive_any _))))
  refine wpQuiet_load_row rfl 52 _ rfl g rfl 52 A (0, 0) _ HROW.out Try.underlying52 rfl HSA.out ?_
  simp only [Act.put, List.setIfInBounds_toArray, List.set_cons_succ, List.set_cons_zero]
  repeat (go_big_quiet_step (first
    | (go_at_call 16; exact calm (HEQ.out _))
    | (go_at_call 20; exact calm (HSO.out _))
    | (go_at_call 21; exact calm (HRS.out _))
    | (go_at_call 22; exact calm (HRO.out _))
    | (go_at_call 23; exact calm (alive_any _))))
  refine wpQuiet_nil ?_
  rintro _ ⟨y, rfl⟩
  go_wp2_with fail
  go_ret
  exact ⟨rfl, (hbl.trans (hb12.mono hbl.size)).trans (y.below.mono (by omega))⟩
end Go.Proofs.Ytehoanpjlinfaaa.Mrk
