/- net.Net at messages that say 'beat': place, At, Double, Len; the law's alive (layer 22). PRINTED by wip/gennetalive.py. -/
import Derived.Test.YtemckpmedjennaaGreatDoorNetSend
import Derived.Test.YtemckpmedjennaaGreatDoorRegApp
set_option linter.unusedSimpArgs false
set_option linter.unusedVariables false
namespace Go.Proofs.YtemckpmedjennaaGreatDoor.NetW
open Go.RowKit Go.Proofs.YtemckpmedjennaaGreatDoor.Spare Go.Proofs.YtemckpmedjennaaGreatDoor.RegInv

theorem load_row_w {P : Program} {ops : Array Oper} {rest : List Oper} {o : Oper} {a : Act} {w : World} {Q : Exit → Act → World → Prop} (hw : Region.wanted o (yielded ops a.tmps) = true) (ty : TypeId) (x : Operand) (ho : o.op = .load ty x)
    (g : Nat) (hx : a.eval x = .pointer (some ⟨g, 0, none⟩)) (t : TypeId) (cs : Array Value) (fr : Nat × Nat) (d : TypeDesc) (hg : w.heap[g]? = some (.cells cs t fr))
    (hu : P.underlying ty = some d) (hd : (match d with | .struct _ | .array _ _ => true | _ => false) = true) (hi : (P.info? ty).map (·.size) = some cs.size)
    (h : wpList P ops Q rest (a.put o.dst (.agg cs)) w) : wpList P ops Q (o :: rest) a w :=
  wpList_step fun _ hK => by rw [if_pos hw]; exact wp_load_row ty x ho g hx t cs fr d hg hu hd hi (hK _ _ h)
theorem below_row {n : Nat} {w0 w : World} (h : RowKit.Below n w0 w) (g : Nat) (hg : n ≤ g) (cs : Array Value) : RowKit.Below n w0 (w.setRow g cs) := by
  have hs : (w.setRow g cs).heap.size = w.heap.size := by simp [World.setRow]
  exact ⟨h.os, h.tape, h.output, by rw [hs]; exact h.size, fun i hi => (setRow_other w g i cs (by omega)).trans (h.block i hi)⟩
theorem mk_arr (l : List Value) : Array.mk l = l.toArray := rfl
theorem size_B (a : Int) : (Tryz.prog.info? 45).map (·.size) = some (enB a).toArray.size := size_Msg
theorem oneB (a : Int) : (enB a).toArray.all (·.oneCell') = true := by
  rw [Array.all_eq_true_iff_forall_mem]
  intro x hx
  exact enB_one a x (by simpa using hx)

set_option maxHeartbeats 1000000 in
set_option maxRecDepth 100000 in
theorem len_beat (g base : Nat) (v : Value) (L : List Int) (w : World) (h : NetAt w g base v L) :
    Calls Tryz.prog 15 #[.pointer (some ⟨g, 0, none⟩)] w fun e w' => e = .returned (.int .i64 (L.length : Nat)) ∧ w = w' := by
  obtain ⟨ao, ac, rfl⟩ := row_form h.own
  obtain ⟨n, hn⟩ : ∃ n, n = L.length := ⟨_, rfl⟩
  have c0 := h.c0
  have c1 := h.c1
  rw [← hn] at c0 ⊢
  clear h hn
  go_enter Tryz.func15, Tryz.ntmps15
  go_wp2_with fail
  go_ret
  exact ⟨rfl, rfl⟩
set_option maxHeartbeats 1000000 in
set_option maxRecDepth 100000 in
theorem place_last (g base : Nat) (v : Value) (L : List Int) (w : World) (h : NetAt w g base v L) (hL : L.length = 2) :
    Calls Tryz.prog 40 #[.pointer (some ⟨g, 0, none⟩), .int .i64 (-1)] w fun e w' => e = .returned (.int .i64 1) ∧ w = w' := by
  obtain ⟨ao, ac, rfl⟩ := row_form h.own
  have c0 := h.c0
  have c1 := h.c1
  rw [hL] at c0
  clear h hL
  go_enter Tryz.func40, Tryz.ntmps40
  go_wp2_with fail
  go_ret
  exact ⟨rfl, rfl⟩
set_option maxHeartbeats 1000000 in
set_option maxRecDepth 100000 in
theorem place_first (g base : Nat) (v : Value) (L : List Int) (w : World) (h : NetAt w g base v L) (hL : L.length = 2) :
    Calls Tryz.prog 40 #[.pointer (some ⟨g, 0, none⟩), .int .i64 0] w fun e w' => e = .returned (.int .i64 0) ∧ w = w' := by
  obtain ⟨ao, ac, rfl⟩ := row_form h.own
  have c0 := h.c0
  have c1 := h.c1
  rw [hL] at c0
  clear h hL
  go_enter Tryz.func40, Tryz.ntmps40
  go_wp2_with fail
  go_ret
  exact ⟨rfl, rfl⟩

set_option maxHeartbeats 8000000 in
set_option maxRecDepth 100000 in
theorem at_beat (i : Int) (p : Nat) (a : Int) (g base : Nat) (v : Value) (L : List Int) (w : World) (h : NetAt w g base v L) (hp : L[p]? = some a) (hn : L.length ≤ 1000)
    (hpl : ∀ W, NetAt W g base v L → Calls Tryz.prog 40 #[.pointer (some ⟨g, 0, none⟩), .int .i64 i] W fun e w' => e = .returned (.int .i64 (p : Nat)) ∧ W = w') :
    Calls Tryz.prog 9 #[.pointer (some ⟨g, 0, none⟩), .int .i64 i] w fun e w' => e = .returned (.tuple #[vBeat a, .bool true]) ∧ NetAt w' g base v L ∧ Below w.heap.size w w' := by
  obtain ⟨hpl1, hpe⟩ := List.getElem?_eq_some_iff.1 hp
  obtain ⟨gb, gc, rfl, hgc, hgb, hcell⟩ : ∃ gb gc, v = .slice (some ⟨gb, 0, none⟩) L.length gc ∧ L.length ≤ gc ∧ gb < w.heap.size ∧ ∀ j u, (enB a)[j]? = some u → w.cell? ⟨gb, p * 17 + j, none⟩ = some u := by
    rcases h.own.2 with ⟨_, h0⟩ | ⟨gb, gc, cur, rfl, h2, h3, h4, _⟩
    · omega
    · refine ⟨gb, gc, rfl, h4, (Array.getElem?_eq_some_iff.1 h3).1, fun j u hu => ?_⟩
      have hj : j < 17 := by have := (List.getElem?_eq_some_iff.1 hu).1; exact this
      have h5 := World.ownsRow.cells h.own (g := gb) rfl (p * 17 + j) u (by rw [flatMap_get (sz := 17) enB_len L p a hp j hj]; exact hu)
      rw [addr_add, Nat.zero_add] at h5
      exact h5
  obtain ⟨n, hnn⟩ : ∃ n, n = L.length := ⟨_, rfl⟩
  have hh : NetAt w g base (.slice (some ⟨gb, 0, none⟩) n gc) L := by rw [hnn]; exact h
  have hpl2 : ∀ W, NetAt W g base (.slice (some ⟨gb, 0, none⟩) n gc) L → Calls Tryz.prog 40 #[.pointer (some ⟨g, 0, none⟩), .int .i64 i] W fun e w' => e = .returned (.int .i64 (p : Nat)) ∧ W = w' := by rw [hnn]; exact hpl
  have hFIN : ∀ w', NetAt w' g base (.slice (some ⟨gb, 0, none⟩) n gc) L → NetAt w' g base (.slice (some ⟨gb, 0, none⟩) L.length gc) L := fun w' h => by rw [hnn] at h; exact h
  have hp0 : p < n := by omega
  have hn0 : n ≤ 1000 := by omega
  have hgn : n ≤ gc := by omega
  have HFI := Lib.hid hFIN
  have HPL := Lib.hid hpl2
  have HCE := Lib.hid hcell
  have HA := Lib.hid hh
  obtain ⟨W, hW⟩ : ∃ W, W = w.alloc (.cells zB.toArray 45) := ⟨_, rfl⟩
  obtain ⟨k, hk⟩ : ∃ k, k = w.heap.size := ⟨_, rfl⟩
  have hbW : Below w.heap.size w W := by rw [hW]; exact (Below.refl _ _).alloc (Nat.le_refl _) _
  have hm : W.heap[k]? = some (.cells zB.toArray 45 (0, 0)) := by rw [hW, hk]; exact heap_alloc_new w _
  have hA1 := hh.below hbW
  have HW := Lib.hid hW
  have HM := Lib.hid hm
  have HA1 := Lib.hid hA1
  have HBW := Lib.hid hbW
  have HK := Lib.hid hk
  have hkW : k < W.heap.size := (Array.getElem?_eq_some_iff.1 hm).1
  have HOB := Lib.hid own_beat
  obtain ⟨-, -, c0, c1, f0, f1, -⟩ := hA1
  clear h hpl hpl2 hFIN hh hcell hnn hW hk hbW hm hp hpe hpl1 hn hgc
  go_enter Tryz.func9, Tryz.ntmps9
  go_upto_region 1 with fail
  rw [show w.alloc (.cells #[.int .i64 0, .int .i64 0, .int .i64 0, .bool false, .bool false, .bool false, .bool false, .bool false, .int .i64 0, .int .i64 0, .int .i64 0, .int .i64 0, .int .i64 0, .int .i64 0, .int .i64 0, .int .i64 0, .nilIface] 45) = W from HW.out.symm, ← HK.out]
  go_upto_region 3 with fail
  have HX := Lib.hid (fun (W' : World) (hb : Below W.heap.size W W') => HA1.out.below hb)
  clear c0 c1 f0 f1
  have HGB := Lib.hid (fun (W' : World) (hb : Below W.heap.size W W') => (hb.block gb (Nat.lt_of_lt_of_le hgb HBW.out.size)).trans (HBW.out.block gb hgb))
  refine wp_region_told [] 10 [false, false, false, false, false, false, true, false, false, false, false, false, false, false, true, true, true, true, true, true, true, true, true, false, false, false, false, false]
    [sLit (.pointer (some ⟨g, 0, none⟩)),
    sLit (.pointer (some ⟨g, 0, none⟩)),
    sLit (.pointer (some ⟨g, 0, none⟩)),
    sLit (.slice (some ⟨gb, 0, none⟩) n gc),
    sLit (.pointer (some ⟨g, 0, none⟩)),
    sLit (.int .i64 i),
    sLit (.int .i64 (p : Nat)),
    sLit (.pointer (some ⟨gb, p * 17, none⟩)),
    sLit (vBeat a),
    sOne (fun v W' => ∃ q, v = .pointer (some ⟨q, 0, none⟩) ∧ W'.heap[q]? = some (.cells zB.toArray 45 (0, 0)) ∧ W.heap.size ≤ q) (fun _ _ _ h hb => h.elim fun q h => ⟨q, h.1, (hb.block q (Array.getElem?_eq_some_iff.1 h.2.1).1).trans h.2.1, h.2.2⟩)] (by kernel_rfl) (by kernel_rfl) (by kernel_rfl) (fun F hF => ?_)
  simp only [over, overL, Nat.reduceAdd] at hF
  obtain rfl := funext hF
  clear hF
  refine ⟨⟨?_, ?_, ?_, ?_, ?_, ?_, ?_, ?_, ?_, ?_, trivial⟩, ?_⟩
  · intro V W' hb hd K hK _
    clear hd
    go_wp2_with fail
    refine hK _ _ ?_ ?_ ?_ ?_
    · rfl
    · exact Below.refl _ _
    · exact rfl
    · trivial
  · intro V W' hb hd K hK _
    have h0 : (V 14) = .pointer (some ⟨g, 0, none⟩) := hd 0 (by kernel_rfl)
    clear hd
    go_wp2_with fail
    refine hK _ _ ?_ ?_ ?_ ?_
    · rfl
    · exact Below.refl _ _
    · exact rfl
    · trivial
  · intro V W' hb hd K hK _
    have h1 : (V 15) = .pointer (some ⟨g, 0, none⟩) := hd 1 (by kernel_rfl)
    clear hd
    go_wp2_with fail
    refine hK _ _ ?_ ?_ ?_ ?_
    · rfl
    · exact Below.refl _ _
    · exact rfl
    · trivial
  · intro V W' hb hd K hK _
    have h2 : (V 16) = .pointer (some ⟨g, 0, none⟩) := hd 2 (by kernel_rfl)
    clear hd
    obtain ⟨-, -, s0, s1, -, -, -⟩ := HX.out W' hb
    go_wp2_with fail
    refine hK _ _ ?_ ?_ ?_ ?_
    · rfl
    · exact Below.refl _ _
    · exact rfl
    · trivial
  · intro V W' hb hd K hK _
    clear hd
    go_wp2_with fail
    refine hK _ _ ?_ ?_ ?_ ?_
    · rfl
    · exact Below.refl _ _
    · exact rfl
    · trivial
  · intro V W' hb hd K hK _
    clear hd
    go_wp2_with fail
    refine hK _ _ ?_ ?_ ?_ ?_
    · rfl
    · exact Below.refl _ _
    · exact rfl
    · trivial
  · intro V W' hb hd K hK _
    have h4 : (V 18) = .pointer (some ⟨g, 0, none⟩) := hd 4 (by kernel_rfl)
    have h5 : (V 19) = .int .i64 i := hd 5 (by kernel_rfl)
    clear hd
    go_wp2_with fail
    refine (HPL.out _ (HX.out _ hb)).mono ?_
    rintro e w1 ⟨rfl, rfl⟩
    go_wp2_with fail
    refine hK _ _ ?_ ?_ ?_ ?_
    · rfl
    · exact Below.refl _ _
    · exact rfl
    · trivial
  · intro V W' hb hd K hK _
    have h3 : (V 17) = .slice (some ⟨gb, 0, none⟩) n gc := hd 3 (by kernel_rfl)
    have h6 : (V 20) = .int .i64 (p : Nat) := hd 6 (by kernel_rfl)
    clear hd
    go_wp2_with fail
    refine hK _ _ ?_ ?_ ?_ ?_
    · rfl
    · exact Below.refl _ _
    · exact rfl
    · trivial
  · intro V W' hb hd K hK _
    have h7 : (V 21) = .pointer (some ⟨gb, p * 17, none⟩) := hd 7 (by kernel_rfl)
    clear hd
    have hcs : ∀ j u, (enB a)[j]? = some u → W'.cell? ⟨gb, p * 17 + j, none⟩ = some u := fun j u hu => (World.cell?_of_block (a := ⟨gb, p * 17 + j, none⟩) (HGB.out W' hb)).trans (HCE.out j u hu)
    have m0 : W'.cell? ⟨gb, p * 17, none⟩ = some (.int .i64 a) := hcs 0 _ rfl
    have m1 : W'.cell? ⟨gb, p * 17 + 1, none⟩ = some (.int .i64 0) := hcs 1 _ rfl
    have m2 : W'.cell? ⟨gb, p * 17 + 2, none⟩ = some (.int .i64 0) := hcs 2 _ rfl
    have m3 : W'.cell? ⟨gb, p * 17 + 3, none⟩ = some (.bool false) := hcs 3 _ rfl
    have m4 : W'.cell? ⟨gb, p * 17 + 4, none⟩ = some (.bool false) := hcs 4 _ rfl
    have m5 : W'.cell? ⟨gb, p * 17 + 5, none⟩ = some (.bool false) := hcs 5 _ rfl
    have m6 : W'.cell? ⟨gb, p * 17 + 6, none⟩ = some (.bool false) := hcs 6 _ rfl
    have m7 : W'.cell? ⟨gb, p * 17 + 7, none⟩ = some (.bool false) := hcs 7 _ rfl
    have m8 : W'.cell? ⟨gb, p * 17 + 8, none⟩ = some (.int .i64 0) := hcs 8 _ rfl
    have m9 : W'.cell? ⟨gb, p * 17 + 9, none⟩ = some (.int .i64 0) := hcs 9 _ rfl
    have m10 : W'.cell? ⟨gb, p * 17 + 10, none⟩ = some (.int .i64 0) := hcs 10 _ rfl
    have m11 : W'.cell? ⟨gb, p * 17 + 11, none⟩ = some (.int .i64 0) := hcs 11 _ rfl
    have m12 : W'.cell? ⟨gb, p * 17 + 12, none⟩ = some (.int .i64 0) := hcs 12 _ rfl
    have m13 : W'.cell? ⟨gb, p * 17 + 13, none⟩ = some (.int .i64 0) := hcs 13 _ rfl
    have m14 : W'.cell? ⟨gb, p * 17 + 14, none⟩ = some (.int .i64 0) := hcs 14 _ rfl
    have m15 : W'.cell? ⟨gb, p * 17 + 15, none⟩ = some (.int .i64 0) := hcs 15 _ rfl
    have m16 : W'.cell? ⟨gb, p * 17 + 16, none⟩ = some (bBeat) := hcs 16 _ rfl
    clear hcs
    go_wp2_with fail
    refine hK _ _ ?_ ?_ ?_ ?_
    · rfl
    · exact Below.refl _ _
    · exact rfl
    · trivial
  · intro V W' hb hd K hK _
    clear hd
    go_wp2_with fail
    refine hK _ _ ?_ ?_ ?_ ?_
    · rfl
    · exact (Below.refl _ _).alloc (Nat.le_refl _) _
    · exact ⟨_, rfl, heap_alloc_new _ _, hb.size⟩
    · trivial
  · intro V W' hb hd hap
    have h8 : (V 22) = vBeat a := hd 8 (by decide)
    have h9 : ∃ q, (V 6) = .pointer (some ⟨q, 0, none⟩) ∧ W'.heap[q]? = some (.cells zB.toArray 45 (0, 0)) ∧ W.heap.size ≤ q := hd 9 (by decide)
    clear hd hap
    simp only [List.drop_succ_cons, List.drop_zero]
    obtain ⟨q, e9, hq, hqs⟩ := h9
    have HQ := Lib.hid hq
    have HBB := Lib.hid hb
    clear hq hb
    obtain ⟨W5, hW5⟩ : ∃ W5, W5 = W'.setRow q (enB a).toArray := ⟨_, rfl⟩
    have hm5 : MsgAt W5 q a := by unfold MsgAt; rw [hW5]; exact setRow_heap _ _ _ _ _ _ HQ.out
    have hb5 : Below W.heap.size W W5 := by rw [hW5]; exact below_row HBB.out q hqs _
    have HM5 := Lib.hid hm5
    have HB5 := Lib.hid hb5
    have p16 : W5.cell? ⟨q, 16, none⟩ = some bBeat := hm5.cell 16
    have HKQ := Lib.hid (show k ≠ q from by omega)
    have HW5 := Lib.hid hW5
    clear hW5 hm5 hb5
    go_wp2_with (first | (refine wpList_store_row rfl 45 _ _ rfl q (enB a).toArray (by first | rfl | exact e9) (by first | rfl | exact h8) 45 zB.toArray HQ.out (size_B a) rfl (oneB a) ?_; rw [← HW5.out]))
    clear h8 e9
    refine (HOB.out _).mono ?_
    rintro e w6 ⟨rfl, hb6⟩
    have HM6 := Lib.hid (HM5.out.below hb6)
    have HB6 := Lib.hid (below_then HB5.out (Nat.le_refl _) hb6)
    have q16 : w6.frozen? ⟨q, 16, none⟩ = false := frozen_of_row w6 q 16 _ _ HM6.out
    have r16 : w6.cell? ⟨q, 16, none⟩ = some bBeat := HM6.out.cell 16
    clear p16 hb6
    go_upto_region 5 with fail
    obtain ⟨W7, hW7⟩ : ∃ W7, W7 = w6.setCell ⟨q, 16, none⟩ bBeat := ⟨_, rfl⟩
    rw [← hW7]
    have hm7 : MsgAt W7 q a := by rw [hW7]; exact HM6.out.body
    have hb7 : Below W.heap.size W W7 := by rw [hW7]; exact HB6.out.setCell (p := ⟨q, 16, none⟩) hqs _
    have HM7 := Lib.hid hm7
    have HB7 := Lib.hid hb7
    have HZ7 := Lib.hid (show W7.heap[k]? = some (.cells zB.toArray 45 (0, 0)) from (hb7.block k hkW).trans HM.out)
    clear hW7 hm7 hb7 q16 r16
    have hm8 : MsgAt (W7.setRow k (enB a).toArray) k a := by unfold MsgAt; exact setRow_heap _ _ _ _ _ _ HZ7.out
    have hB8 : Below w.heap.size w (W7.setRow k (enB a).toArray) := below_row (below_then HBW.out (Nat.le_refl _) HB7.out) k (by rw [HK.out]; exact Nat.le_refl _) _
    have hN8 := HFI.out _ (HA.out.below hB8)
    have HM8 := Lib.hid hm8
    have HF8 := Lib.hid (And.intro hN8 hB8)
    clear hm8 hB8 hN8
    go_wp2_with (first
      | (refine wpList_load_row rfl 45 _ rfl q rfl 45 (enB a).toArray (0, 0) _ HM7.out Tryz.underlying45 rfl (size_B a) ?_)
      | (refine wpList_store_row rfl 45 _ _ rfl k (enB a).toArray rfl rfl 45 zB.toArray HZ7.out (size_B a) rfl (oneB a) ?_))
    have u0 : (W7.setRow k (enB a).toArray).cell? ⟨k, 0, none⟩ = some (.int .i64 a) := HM8.out.cell 0
    have u1 : (W7.setRow k (enB a).toArray).cell? ⟨k, 1, none⟩ = some (.int .i64 0) := HM8.out.cell 1
    have u2 : (W7.setRow k (enB a).toArray).cell? ⟨k, 2, none⟩ = some (.int .i64 0) := HM8.out.cell 2
    have u3 : (W7.setRow k (enB a).toArray).cell? ⟨k, 3, none⟩ = some (.bool false) := HM8.out.cell 3
    have u4 : (W7.setRow k (enB a).toArray).cell? ⟨k, 4, none⟩ = some (.bool false) := HM8.out.cell 4
    have u5 : (W7.setRow k (enB a).toArray).cell? ⟨k, 5, none⟩ = some (.bool false) := HM8.out.cell 5
    have u6 : (W7.setRow k (enB a).toArray).cell? ⟨k, 6, none⟩ = some (.bool false) := HM8.out.cell 6
    have u7 : (W7.setRow k (enB a).toArray).cell? ⟨k, 7, none⟩ = some (.bool false) := HM8.out.cell 7
    have u8 : (W7.setRow k (enB a).toArray).cell? ⟨k, 8, none⟩ = some (.int .i64 0) := HM8.out.cell 8
    have u9 : (W7.setRow k (enB a).toArray).cell? ⟨k, 9, none⟩ = some (.int .i64 0) := HM8.out.cell 9
    have u10 : (W7.setRow k (enB a).toArray).cell? ⟨k, 10, none⟩ = some (.int .i64 0) := HM8.out.cell 10
    have u11 : (W7.setRow k (enB a).toArray).cell? ⟨k, 11, none⟩ = some (.int .i64 0) := HM8.out.cell 11
    have u12 : (W7.setRow k (enB a).toArray).cell? ⟨k, 12, none⟩ = some (.int .i64 0) := HM8.out.cell 12
    have u13 : (W7.setRow k (enB a).toArray).cell? ⟨k, 13, none⟩ = some (.int .i64 0) := HM8.out.cell 13
    have u14 : (W7.setRow k (enB a).toArray).cell? ⟨k, 14, none⟩ = some (.int .i64 0) := HM8.out.cell 14
    have u15 : (W7.setRow k (enB a).toArray).cell? ⟨k, 15, none⟩ = some (.int .i64 0) := HM8.out.cell 15
    have u16 : (W7.setRow k (enB a).toArray).cell? ⟨k, 16, none⟩ = some (bBeat) := HM8.out.cell 16
    refine bodyPost_ret (v := .tuple #[vBeat a, .bool true]) (by simp [results, Tryz.f9, go_sem, u0, u1, u2, u3, u4, u5, u6, u7, u8, u9, u10, u11, u12, u13, u14, u15, u16]) rfl ⟨rfl, HF8.out⟩
end Go.Proofs.YtemckpmedjennaaGreatDoor.NetW
