/- The walk of the law NetKeeps (layer 22). PRINTED by wip/gennetkeeps.py. -/
import Derived.Test.YtemckpmedjennaaGreatDoorNetSpoil
import Derived.Test.YtemckpmedjennaaGreatDoorNetTake
import Derived.Test.YtemckpmedjennaaGreatDoorNetLaw
import Derived.Test.YtemckpmedjennaaGreatDoorSpareAny
set_option linter.unusedSimpArgs false
set_option linter.unusedVariables false
namespace Go.Proofs.YtemckpmedjennaaGreatDoor.NetG
open Go.RowKit Go.Proofs.YtemckpmedjennaaGreatDoor.Mut Go.Proofs.YtemckpmedjennaaGreatDoor.RegInv Go.Proofs.YtemckpmedjennaaGreatDoor.Spare
set_option linter.unusedSectionVars false
variable [Inhabited Lim]

theorem mrow_one (W : World) (x : Ro) (h : Over W x) : MRow (W.alloc (.cells (enM x).toArray 28)) (.slice (some ⟨W.heap.size, 0, none⟩) 1 1) [x] := by
  refine ⟨⟨_, 1, rfl, by simp, by decide, Or.inr ⟨_, _, rfl, by simp, fun i y hi j hj => ?_⟩⟩, fun y hy => ?_⟩
  · cases i with
    | succ i => simp at hi
    | zero =>
      have e : y = x := by simpa using hi.symm
      subst e
      rw [cell_of_row _ _ _ _ _ (0, 0) (heap_alloc_new W _)]
      simp
  · rw [List.mem_singleton.1 hy]
    exact h.below ((Below.refl _ _).alloc (Nat.le_refl _) _)

theorem own_same {w w' : World} {base sz n : Nat} {e : TypeId} {v : Value} {xs : List Value} (h : w.ownsRow base e sz v n xs) (hk : ∀ k, v.ownBlock = some k → w'.heap[k]? = w.heap[k]?) : w'.ownsRow base e sz v n xs := by
  refine ⟨h.1, h.2.imp id ?_⟩
  rintro ⟨g, cap, cur, rfl, q2, q3, q4⟩
  exact ⟨g, cap, cur, rfl, q2, (hk g rfl).trans q3, q4⟩
theorem own_low {w w' : World} {base sz n : Nat} {e : TypeId} {v : Value} {xs : List Value} {row : Option Nat} (h : w.ownsRow base e sz v n xs) (hg : w.grownBy w' row) (hr : ∀ k, row = some k → k < base) : w'.ownsRow base e sz v n xs :=
  h.kept hg (by
    cases hv : v.ownBlock with
    | none => exact Or.inl rfl
    | some q => exact Or.inr fun e => by have h1 := (h.lt q hv).1; have h2 := hr q e.symm; omega)
theorem cpc_low {base : Nat} {c : Con} {w w' : World} {a b d : Value} {row : Option Nat} (h : CpC base c w a b d) (hg : w.grownBy w' row) (hr : ∀ k, row = some k → k < base) : CpC base c w' a b d := by
  obtain ⟨⟨⟨A, eA, hA⟩, ⟨B, eB, hB⟩, ⟨D, eD, hD⟩⟩, ⟨⟨A', hA'⟩, ⟨B', hB'⟩, ⟨D', hD'⟩⟩⟩ := h
  have key : ∀ {v : Value} {R R' : List Ro}, MRow w v R → Copied w v R' base → Copied w' v R base := fun {v R R'} h k => by
    have h1 := copied_over h k
    exact ⟨own_low h1.row hg hr, fun x hx => own_low (h1.over x hx) hg hr⟩
  have kA := key hA hA'
  have kB := key hB hB'
  have kD := key hD hD'
  exact ⟨⟨⟨A, eA, kA.mrow⟩, ⟨B, eB, kB.mrow⟩, ⟨D, eD, kD.mrow⟩⟩, ⟨⟨A, kA⟩, ⟨B, kB⟩, ⟨D, kD⟩⟩⟩
theorem net_low {w w' : World} {g base : Nat} {v : Value} {L : List Ms} {row : Option Nat} (h : NetAt w g base v L) (hg : w.grownBy w' row) (hr : ∀ k, row = some k → k < g) : NetAt w' g base v L := by
  have hgl : g < w.heap.size := Nat.lt_of_lt_of_le h.lt h.low
  have hb := hg.block g hgl (fun e => by have := hr g e.symm; omega)
  have hlt := h.lt
  exact ⟨h.lt, Nat.le_trans h.low hg.size, (World.cell?_of_block (a := ⟨g, 0, none⟩) hb).trans h.c0, (World.cell?_of_block (a := ⟨g, 1, none⟩) hb).trans h.c1, (World.frozen?_of_block hb).trans h.f0, (World.frozen?_of_block hb).trans h.f1, own_low h.own hg (fun k hk => by have := hr k hk; omega), h.tg.imp fun _ ht => hb.trans ht⟩
def zM17 : List Value := [.int .i64 0, .int .i64 0, .int .i64 0, .bool false, .bool false, .bool false, .bool false, .bool false, .int .i64 0, .int .i64 0, .int .i64 0, .int .i64 0, .int .i64 0, .int .i64 0, .int .i64 0, .int .i64 0, .nilIface]
theorem saysW (cs : Array Value) (w : World) : Calls Tryz.prog 13 #[.agg #[.int .i64 0, .int .i64 0, .int .i64 0, .bool false, .bool false, .bool false, .bool false, .bool false, .int .i64 0, .int .i64 0, .int .i64 0, .int .i64 0, .int .i64 0, .int .i64 0, .int .i64 0, .int .i64 0, .iface 37 (.agg cs)]] w fun e w' => e = .returned (.string ⟨#[119, 114, 105, 116, 101]⟩) ∧ RowKit.Below w.heap.size w w' := NetW.says_Write (fun i => zM17.getD i undef) cs w
theorem saysA (cs : Array Value) (w : World) : Calls Tryz.prog 13 #[.agg #[.int .i64 0, .int .i64 0, .int .i64 0, .bool false, .bool false, .bool false, .bool false, .bool false, .int .i64 0, .int .i64 0, .int .i64 0, .int .i64 0, .int .i64 0, .int .i64 0, .int .i64 0, .int .i64 0, .iface 51 (.agg cs)]] w fun e w' => e = .returned (.string ⟨#[97, 110, 115, 119, 101, 114]⟩) ∧ RowKit.Below w.heap.size w w' := NetW.says_Answer (fun i => zM17.getD i undef) cs w
theorem keep_frame {w w' : World} {g base : Nat} {v : Value} {L : List Ms} (h : NetAt w g base v L) (hs : w.heap.size ≤ w'.heap.size) (hf : ∀ i, i < w.heap.size → i ≠ g → v.ownBlock ≠ some i → w'.heap[i]? = w.heap[i]?) : KeepR w w' := by
  refine ⟨hs, fun i cur ty h1 h2 h3 => hf i (Array.getElem?_eq_some_iff.1 h1).1 (fun e => ?_) (fun e => ?_)⟩
  · subst e
    obtain ⟨c2, ht⟩ := h.tg
    rw [ht] at h1
    simp at h1
    exact h3 h1.2.symm
  · rcases h.own.2 with ⟨rfl, _⟩ | ⟨q, cap, cur2, rfl, _, hg, _⟩
    · cases e
    · have e2 : q = i := by simpa [Value.ownBlock] using e
      subst e2
      rw [hg] at h1
      simp at h1
      exact h2 h1.2.symm

set_option maxHeartbeats 16000000 in
set_option maxRecDepth 100000 in
theorem keeps_any (m : Mu) (ov lv : Value) (A : List Ro) (w : World) (hT : Tabs w) (hx : Over w (m, ov)) (zm : m.key.size ≤ maxLen ∧ m.fin.size ≤ maxLen ∧ m.val.size ≤ maxLen) (hA : MRow w lv A) (zA : ∀ x ∈ A, x.1.key.size ≤ maxLen ∧ x.1.fin.size ≤ maxLen ∧ x.1.val.size ≤ maxLen) :
    Calls Tryz.prog 3 #[vM (m, ov), lv] w (RetB true w) := by
  obtain ⟨xo, xc, ex0, -, -⟩ := Over.form hx
  simp only [] at ex0
  subst ex0
  obtain ⟨n, hn⟩ : ∃ k, k = m.over.length := ⟨_, rfl⟩
  rw [← hn] at hx ⊢
  have HN0 := Lib.hid hn
  have HG1 := Lib.hid (fun (W : World) (hb : RowKit.Below w.heap.size w W) => great_any _ [(m, .slice xo n xc)] 1 _ (mrow_one W _ (hx.below hb)) (by decide) (by intro y hy; rw [List.mem_singleton.1 hy]; exact zm))
  have HG2 := Lib.hid (fun (W : World) (hb : RowKit.Below w.heap.size w W) => great_any lv A 20 W (hA.below hb) (by decide) zA)
  obtain ⟨g1, hg1⟩ : ∃ q, q = greatF [m] 1 := ⟨_, rfl⟩
  obtain ⟨g2, hg2⟩ : ∃ q, q = greatF (A.map (·.1)) 20 := ⟨_, rfl⟩
  simp only [List.map_cons, List.map_nil] at HG1
  rw [← hg1] at HG1
  rw [← hg2] at HG2
  have HGG := Lib.hid (And.intro hg1 hg2)
  have HRA := Lib.hid (show Reads w lv (A.map (·.1)) from ⟨A, rfl, hA⟩)
  obtain ⟨lo, lc, rfl, -, -⟩ := hA.form
  obtain ⟨na, hna⟩ : ∃ k, k = A.length := ⟨_, rfl⟩
  rw [← hna] at HG2 HRA ⊢
  obtain ⟨la, hla⟩ : ∃ k, k = A.map (·.1) := ⟨_, rfl⟩
  rw [← hla] at HRA HGG
  have HOX := Lib.hid hx
  have HT := Lib.hid hT
  have HMM := Lib.hid (show ∃ m' : Mu, m' = m from ⟨m, rfl⟩)
  obtain ⟨mu0, hm0⟩ : ∃ m' : Mu, m' = m := ⟨m, rfl⟩
  have HM0 := Lib.hid hm0
  rw [← hm0] at HOX HGG
  clear hx hT hA zA zm hg1 hg2 hna hla HMM
  obtain ⟨tb, kd, ky, fi, va, ex, ⟨sp, sl, sw⟩, O⟩ := m
  have HN := Lib.hid (show n = O.length from HN0.out)
  have HOX := Lib.hid (show Over w ((⟨tb, kd, ky, fi, va, ex, ⟨sp, sl, sw⟩, O⟩ : Mu), .slice xo n xc) from by rw [← HM0.out]; exact HOX.out)
  clear hn hm0 HN0
  unfold enM at HG1
  unfold vM
  simp only [] at HG1 ⊢
  obtain ⟨W0, hW0⟩ : ∃ W, W = w.alloc (.cells #[.int .i64 tb, .int .i64 kd, .string ky, .string fi, .string va, .int .i64 ex, .int .i64 sp, .int .i64 sl, .int .i64 sw, .slice xo n xc] 28) := ⟨_, rfl⟩
  obtain ⟨b2, hb2⟩ : ∃ k, k = w.heap.size := ⟨_, rfl⟩
  have hb0 : RowKit.Below w.heap.size w W0 := by rw [hW0]; exact (Below.refl _ _).alloc (Nat.le_refl _) _
  have hx0 : W0.heap[b2]? = some (.cells #[.int .i64 tb, .int .i64 kd, .string ky, .string fi, .string va, .int .i64 ex, .int .i64 sp, .int .i64 sl, .int .i64 sw, .slice xo n xc] 28 (0, 0)) := by rw [hW0, hb2]; exact heap_alloc_new w _
  have HW0 := Lib.hid hW0
  have HB2 := Lib.hid hb2
  have HB0 := Lib.hid hb0
  have HX0 := Lib.hid hx0
  have m0 : W0.cell? ⟨b2, 0, none⟩ = some (.int .i64 tb) := by rw [cell_of_row W0 b2 0 _ _ (0, 0) hx0]; rfl
  have m1 : W0.cell? ⟨b2, 1, none⟩ = some (.int .i64 kd) := by rw [cell_of_row W0 b2 1 _ _ (0, 0) hx0]; rfl
  have m2 : W0.cell? ⟨b2, 2, none⟩ = some (.string ky) := by rw [cell_of_row W0 b2 2 _ _ (0, 0) hx0]; rfl
  have m3 : W0.cell? ⟨b2, 3, none⟩ = some (.string fi) := by rw [cell_of_row W0 b2 3 _ _ (0, 0) hx0]; rfl
  have m4 : W0.cell? ⟨b2, 4, none⟩ = some (.string va) := by rw [cell_of_row W0 b2 4 _ _ (0, 0) hx0]; rfl
  have m5 : W0.cell? ⟨b2, 5, none⟩ = some (.int .i64 ex) := by rw [cell_of_row W0 b2 5 _ _ (0, 0) hx0]; rfl
  have m6 : W0.cell? ⟨b2, 6, none⟩ = some (.int .i64 sp) := by rw [cell_of_row W0 b2 6 _ _ (0, 0) hx0]; rfl
  have m7 : W0.cell? ⟨b2, 7, none⟩ = some (.int .i64 sl) := by rw [cell_of_row W0 b2 7 _ _ (0, 0) hx0]; rfl
  have m8 : W0.cell? ⟨b2, 8, none⟩ = some (.int .i64 sw) := by rw [cell_of_row W0 b2 8 _ _ (0, 0) hx0]; rfl
  have m9 : W0.cell? ⟨b2, 9, none⟩ = some (.slice xo n xc) := by rw [cell_of_row W0 b2 9 _ _ (0, 0) hx0]; rfl
  clear hW0 hb2 hb0 hx0
  go_enter Tryz.func3, Tryz.ntmps3
  go_upto_region 1 with fail
  rw [← HW0.out, ← HB2.out]
  go_wp2_with fail
  refine (HG1.out W0 HB0.out).mono ?_
  rintro e w1 ⟨rfl, hw1⟩
  subst hw1
  obtain ⟨W1, hW1⟩ : ∃ W, W = W0.alloc (.cells #[.int .i64 tb, .int .i64 kd, .string ky, .string fi, .string va, .int .i64 ex, .int .i64 sp, .int .i64 sl, .int .i64 sw, .slice xo n xc] 28) := ⟨_, rfl⟩
  have hb1 : RowKit.Below W0.heap.size W0 W1 := by rw [hW1]; exact (Below.refl _ _).alloc (Nat.le_refl _) _
  rw [← hW1]
  have HB1 := Lib.hid (below_then HB0.out (Nat.le_refl _) hb1)
  have HX1 := Lib.hid ((hb1.block b2 (Array.getElem?_eq_some_iff.1 HX0.out).1).trans HX0.out)
  clear hb1 hW1 m0 m1 m2 m3 m4 m5 m6 m7 m8 m9
  cases g1
  case true =>
    go_wp2_with fail
    go_ret
    exact ⟨rfl, HB1.out⟩
  have hx1 := HX1.out
  have m0 : W1.cell? ⟨b2, 0, none⟩ = some (.int .i64 tb) := by rw [cell_of_row W1 b2 0 _ _ (0, 0) hx1]; rfl
  have m1 : W1.cell? ⟨b2, 1, none⟩ = some (.int .i64 kd) := by rw [cell_of_row W1 b2 1 _ _ (0, 0) hx1]; rfl
  have m2 : W1.cell? ⟨b2, 2, none⟩ = some (.string ky) := by rw [cell_of_row W1 b2 2 _ _ (0, 0) hx1]; rfl
  have m3 : W1.cell? ⟨b2, 3, none⟩ = some (.string fi) := by rw [cell_of_row W1 b2 3 _ _ (0, 0) hx1]; rfl
  have m4 : W1.cell? ⟨b2, 4, none⟩ = some (.string va) := by rw [cell_of_row W1 b2 4 _ _ (0, 0) hx1]; rfl
  have m5 : W1.cell? ⟨b2, 5, none⟩ = some (.int .i64 ex) := by rw [cell_of_row W1 b2 5 _ _ (0, 0) hx1]; rfl
  have m6 : W1.cell? ⟨b2, 6, none⟩ = some (.int .i64 sp) := by rw [cell_of_row W1 b2 6 _ _ (0, 0) hx1]; rfl
  have m7 : W1.cell? ⟨b2, 7, none⟩ = some (.int .i64 sl) := by rw [cell_of_row W1 b2 7 _ _ (0, 0) hx1]; rfl
  have m8 : W1.cell? ⟨b2, 8, none⟩ = some (.int .i64 sw) := by rw [cell_of_row W1 b2 8 _ _ (0, 0) hx1]; rfl
  have m9 : W1.cell? ⟨b2, 9, none⟩ = some (.slice xo n xc) := by rw [cell_of_row W1 b2 9 _ _ (0, 0) hx1]; rfl
  clear hx1
  go_wp2_with fail
  refine (HG2.out W1 HB1.out).mono ?_
  rintro e w1 ⟨rfl, hw1⟩
  subst hw1
  cases g2
  case true =>
    go_wp2_with fail
    go_ret
    exact ⟨rfl, HB1.out⟩
  obtain ⟨lA, sA⟩ := great_small HGG.out.2.symm
  obtain ⟨-, sM⟩ := great_small HGG.out.1.symm
  have hsm := sM mu0 (by simp)
  have hO1 : n ≤ 1000000 := by have h := hsm.over; rw [HM0.out] at h; rw [HN.out]; exact h
  go_upto_region 4 with fail
  obtain ⟨W2, hW2⟩ : ∃ W, W = W1.alloc (.cells #[.int .i64 tb, .int .i64 kd, .string ky, .string fi, .string va, .int .i64 ex, .int .i64 sp, .int .i64 sl, .int .i64 sw, .slice xo n xc] 28) := ⟨_, rfl⟩
  obtain ⟨b5, hb5⟩ : ∃ k, k = W1.heap.size := ⟨_, rfl⟩
  rw [← hW2, ← hb5]
  have hbb2 : RowKit.Below W1.heap.size W1 W2 := by rw [hW2]; exact (Below.refl _ _).alloc (Nat.le_refl _) _
  have HB2' := Lib.hid (below_then HB1.out (Nat.le_refl _) hbb2)
  have HX2 := Lib.hid ((hbb2.block b2 (Array.getElem?_eq_some_iff.1 HX1.out).1).trans HX1.out)
  have HY2 := Lib.hid (show W2.heap[b5]? = some (.cells #[.int .i64 tb, .int .i64 kd, .string ky, .string fi, .string va, .int .i64 ex, .int .i64 sp, .int .i64 sl, .int .i64 sw, .slice xo n xc] 28 (0, 0)) from by rw [hW2, hb5]; exact heap_alloc_new W1 _)
  have hb25 : b2 < b5 := by rw [hb5]; exact (Array.getElem?_eq_some_iff.1 HX1.out).1
  clear hW2 hb5 hbb2 m0 m1 m2 m3 m4 m5 m6 m7 m8 m9
  obtain ⟨i0, hi0, hz0, hz1, hz2⟩ := info_parts info_S
  have HI := Lib.hid (And.intro hi0 (And.intro hz0 (And.intro hz1 hz2)))
  clear hi0 hz0 hz1 hz2
  have hx2 := HX2.out
  have hy2 := HY2.out
  have c29 : W2.cell? ⟨b2, 9, none⟩ = some (.slice xo n xc) := by rw [cell_of_row W2 b2 9 _ _ (0, 0) hx2]; rfl
  have HNW := Lib.hid (lst_src enS_len (by decide) (Over.lst (HOX.out.below (below_then HB2'.out (Nat.le_refl _) ((Below.refl W2.heap.size W2).alloc (Nat.le_refl _) (.cells #[] 25))))))
  have HFL := Lib.hid (show (O.flatMap enS).length = n * 3 from by rw [HN.out]; exact flatMap_len enS_len O)
  have HFO := Lib.hid (flatS_one O)
  have HSP := Lib.hid (spare_lit W2 W2.heap.size 25 [.int .i64 0, .int .i64 0, .int .i64 0] (by decide) (Nat.le_refl _))
  have hlt2 : b2 < W2.heap.size := (Array.getElem?_eq_some_iff.1 hx2).1
  have hlt5 : b5 < W2.heap.size := (Array.getElem?_eq_some_iff.1 hy2).1
  have n0 : ∀ o : Obj, (W2.alloc o).cell? ⟨b2, 9, none⟩ = some (.slice xo n xc) := fun o => (((Below.refl W2.heap.size W2).alloc (Nat.le_refl _) o).cell (p := ⟨b2, 9, none⟩) hlt2).trans c29
  clear hx2 hy2
  go_wp2_with (at_builtin; refine wpList_append_spareAny rfl _ _ 26 rfl W2.heap.size 25 i0 (.agg #[.int .i64 0, .int .i64 0, .int .i64 0]) [.int .i64 0, .int .i64 0, .int .i64 0] 24 Tryz.underlying26 HI.out.1 HI.out.2.1 rfl HI.out.2.2.1 HI.out.2.2.2 (by decide) (.slice (some ⟨W2.heap.size, 0, none⟩) 0 0) 0 [] rfl HSP.out xo n xc (O.flatMap enS) rfl HFL.out HNW.out HFO.out (by unfold maxLen; omega) (by omega) (by simp) ?_)
  intro v3 w3 hs3 hg3 _ _
  have ho3 : w3.ownsRow W2.heap.size 25 3 v3 n (O.flatMap enS) := by have h := hs3.own; simpa using h
  have hb3 : RowKit.Below W2.heap.size W2 w3 := ((Below.refl W2.heap.size W2).alloc (Nat.le_refl _) _).grown hg3 (by simp) (by intro k hk; simp [Value.ownBlock] at hk; omega)
  have hsz3 := hb3.size
  obtain ⟨vo, vc, rfl⟩ := row_form ho3
  have HO3 := Lib.hid ho3
  have HB3 := Lib.hid (below_then HB2'.out (Nat.le_refl _) hb3)
  have hx3 := (hb3.block b2 hlt2).trans HX2.out
  have hy3 := (hb3.block b5 hlt5).trans HY2.out
  have d9 : w3.cell? ⟨b5, 9, none⟩ = some (.slice xo n xc) := by rw [cell_of_row w3 b5 9 _ _ (0, 0) hy3]; rfl
  have f9 : w3.frozen? ⟨b5, 9, none⟩ = false := frozen_of_row w3 b5 9 _ _ hy3
  have HX3 := Lib.hid hx3
  have HY3 := Lib.hid hy3
  clear hs3 hg3 ho3 hb3 hx3 hy3 HSP HNW n0 c29
  go_upto_region 6 with fail
  have HOG := Lib.hid (show ∀ k, (Value.slice vo n vc).ownBlock = some k → W2.heap.size ≤ k ∧ k < w3.heap.size from fun k hk => HO3.out.lt k hk)
  obtain ⟨W4, hW4⟩ : ∃ W, W = w3.setCell ⟨b5, 9, none⟩ (.slice vo n vc) := ⟨_, rfl⟩
  rw [← hW4]
  have hg4 : w3.grownBy W4 (some b5) := by rw [hW4]; exact grown_setCell (World.grownBy.refl _ _) (Or.inl rfl) _
  have hy4 : W4.heap[b5]? = some (.cells #[.int .i64 tb, .int .i64 kd, .string ky, .string fi, .string va, .int .i64 ex, .int .i64 sp, .int .i64 sl, .int .i64 sw, .slice vo n vc] 28 (0, 0)) := by rw [hW4]; exact heap_setCell_same w3 b5 9 _ _ _ HY3.out
  have hx4 : W4.heap[b2]? = some (.cells #[.int .i64 tb, .int .i64 kd, .string ky, .string fi, .string va, .int .i64 ex, .int .i64 sp, .int .i64 sl, .int .i64 sw, .slice xo n xc] 28 (0, 0)) := (hg4.block b2 (Array.getElem?_eq_some_iff.1 HX3.out).1 (by simp; omega)).trans HX3.out
  have hb5w : w.heap.size ≤ b5 := by have := HB2.out; omega
  have hb4 : RowKit.Below w.heap.size w W4 := HB3.out.grown hg4 HB3.out.size (fun j hj => by cases hj; exact hb5w)
  have ho4 : W4.ownsRow W2.heap.size 25 3 (.slice vo n vc) n (O.flatMap enS) := HO3.out.kept hg4 (Or.inr fun e => by have := (HO3.out.lt _ e).1; omega)
  obtain ⟨W5, hW5⟩ : ∃ W, W = W4.alloc (.cells #[.slice none 0 0, .int .i64 0] 34) := ⟨_, rfl⟩
  obtain ⟨g, hg⟩ : ∃ k, k = w3.heap.size := ⟨_, rfl⟩
  have hgs : W4.heap.size = g := by rw [hW4, hg]; simp
  rw [← hW5, ← hg]
  rw [← hg] at HOG
  have hb5 : RowKit.Below W4.heap.size W4 W5 := by rw [hW5]; exact (Below.refl _ _).alloc (Nat.le_refl _) _
  have hh5 : W5.heap[g]? = some (.cells #[.slice none 0 0, .int .i64 0] 34 (0, 0)) := by rw [hW5, ← hgs]; exact heap_alloc_new W4 _
  have hs5 : W5.heap.size = g + 1 := by rw [hW5, ← hgs]; simp
  have HNA := Lib.hid (show NetAt W5 g (g + 1) (.slice none 0 0) [] from ⟨by omega, by omega, by rw [cell_of_row W5 g 0 _ _ (0, 0) hh5]; rfl, by rw [cell_of_row W5 g 1 _ _ (0, 0) hh5]; rfl, frozen_of_row W5 g 0 _ _ hh5, frozen_of_row W5 g 1 _ _ hh5, World.ownsRow_nil _ _ _ _, ⟨_, hh5⟩⟩)
  have HB5 := Lib.hid (below_then hb4 (Nat.le_refl _) hb5)
  have HO5 := Lib.hid (row_below ho4 hb5)
  have HX5 := Lib.hid ((hb5.block b2 (Array.getElem?_eq_some_iff.1 hx4).1).trans hx4)
  have HY5 := Lib.hid ((hb5.block b5 (Array.getElem?_eq_some_iff.1 hy4).1).trans hy4)
  have hgo : W2.heap.size ≤ g := by rw [hg]; exact hsz3
  have HOW := Lib.hid (show Over W5 ((⟨tb, kd, ky, fi, va, ex, ⟨sp, sl, sw⟩, O⟩ : Mu), .slice vo n vc) from by
    refine Over.own (base := W2.heap.size) ?_
    show W5.ownsRow W2.heap.size 25 3 (.slice vo n vc) O.length (O.flatMap enS)
    rw [← HN.out]
    exact HO5.out)
  have HS1 := Lib.hid (send_any (QW 1 (⟨tb, kd, ky, fi, va, ex, ⟨sp, sl, sw⟩, O⟩ : Mu) W5.heap.size) ⟨0, 37, vW 1 ((⟨tb, kd, ky, fi, va, ex, ⟨sp, sl, sw⟩, O⟩ : Mu), .slice vo n vc)⟩ g (g + 1) (.slice none 0 0) [] W5 HNA.out (by simp) (fun W hb => (own_write 1 ((⟨tb, kd, ky, fi, va, ex, ⟨sp, sl, sw⟩, O⟩ : Mu), .slice vo n vc) W (HOW.out.below hb) (by show O.length ≤ 1000000; rw [← HN.out]; exact hO1)).mono fun e w' ⟨V', h1, h2, h3⟩ => ⟨V', h1, h2.base hb.size, h3⟩))
  have hy5 := HY5.out
  have m0 : W5.cell? ⟨b5, 0, none⟩ = some (.int .i64 tb) := by rw [cell_of_row W5 b5 0 _ _ (0, 0) hy5]; rfl
  have m1 : W5.cell? ⟨b5, 1, none⟩ = some (.int .i64 kd) := by rw [cell_of_row W5 b5 1 _ _ (0, 0) hy5]; rfl
  have m2 : W5.cell? ⟨b5, 2, none⟩ = some (.string ky) := by rw [cell_of_row W5 b5 2 _ _ (0, 0) hy5]; rfl
  have m3 : W5.cell? ⟨b5, 3, none⟩ = some (.string fi) := by rw [cell_of_row W5 b5 3 _ _ (0, 0) hy5]; rfl
  have m4 : W5.cell? ⟨b5, 4, none⟩ = some (.string va) := by rw [cell_of_row W5 b5 4 _ _ (0, 0) hy5]; rfl
  have m5 : W5.cell? ⟨b5, 5, none⟩ = some (.int .i64 ex) := by rw [cell_of_row W5 b5 5 _ _ (0, 0) hy5]; rfl
  have m6 : W5.cell? ⟨b5, 6, none⟩ = some (.int .i64 sp) := by rw [cell_of_row W5 b5 6 _ _ (0, 0) hy5]; rfl
  have m7 : W5.cell? ⟨b5, 7, none⟩ = some (.int .i64 sl) := by rw [cell_of_row W5 b5 7 _ _ (0, 0) hy5]; rfl
  have m8 : W5.cell? ⟨b5, 8, none⟩ = some (.int .i64 sw) := by rw [cell_of_row W5 b5 8 _ _ (0, 0) hy5]; rfl
  have m9 : W5.cell? ⟨b5, 9, none⟩ = some (.slice vo n vc) := by rw [cell_of_row W5 b5 9 _ _ (0, 0) hy5]; rfl
  clear hy5 hg4 hy4 hx4 hb4 ho4 hW4 hW5 hg hb5 hh5 hsz3
  unfold vW at HS1
  go_wp2_with fail
  refine HS1.out.mono ?_
  rintro e w6 ⟨rfl, ⟨V1, v1, wa, hn6, hq6, hba, hka⟩, hb6, -⟩
  have hb2g : b2 < g := by omega
  have hb5g : b5 < g := by omega
  have HN6 := Lib.hid hn6
  have HQ6 := Lib.hid (hq6.keep hka)
  have HB6 := Lib.hid (show RowKit.Below w.heap.size w w6 from HB5.out.trans (hb6.mono (by have := HB2.out; omega)))
  have HX6 := Lib.hid ((hb6.block b2 hb2g).trans HX5.out)
  have HY6 := Lib.hid ((hb6.block b5 hb5g).trans HY5.out)
  have HO6 := Lib.hid (own_same HO5.out fun k hk => hb6.block k (HOG.out k hk).2)
  have hs6 : W5.heap.size ≤ w6.heap.size := hb6.size
  clear hn6 hq6 hba hka hb6 HS1 HOW HNA m0 m1 m2 m3 m4 m5 m6 m7 m8 m9
  obtain ⟨c, hc⟩ : ∃ c, c = Mut.leftOf la := ⟨_, rfl⟩
  have HOF := Lib.hid (show Calls Tryz.prog 8 #[.slice lo na lc] w6 (RetC c w6) from by rw [hc]; exact c_of (HT.out.below HB6.out) (HRA.out.below HB6.out) (by omega) sA)
  have HGD := Lib.hid (show Mut.Good c 20 from by rw [hc]; exact (Mut.leftOf_good la).more lA)
  have HCE := Lib.hid hc
  clear hc
  go_wp2_with fail
  refine HOF.out.mono ?_
  rintro e w7 ⟨vc7, rfl, hc7, hb7⟩
  obtain ⟨o1, n1, k1, o2, n2, k2, o3, n3, k3, rfl, hl7⟩ := hc7.form
  have HL7 := Lib.hid hl7
  have HB7 := Lib.hid (below_then HB6.out (Nat.le_refl _) hb7)
  have HN7 := Lib.hid (HN6.out.below hb7)
  have HQ7 := Lib.hid (HQ6.out.keep (KeepR.below hb7))
  have HX7 := Lib.hid ((hb7.block b2 (Array.getElem?_eq_some_iff.1 HX6.out).1).trans HX6.out)
  have HY7 := Lib.hid ((hb7.block b5 (Array.getElem?_eq_some_iff.1 HY6.out).1).trans HY6.out)
  have HO7 := Lib.hid (row_below HO6.out hb7)
  have hs7 : w6.heap.size ≤ w7.heap.size := hb7.size
  have HS2 := Lib.hid (send_any (QA 2 c w7.heap.size) ⟨0, 51, vA 2 (.slice o1 n1 k1) (.slice o2 n2 k2) (.slice o3 n3 k3)⟩ g (g + 1) v1 _ w7 HN7.out (by simp) (fun W hb => (own_answer 2 c 20 _ _ _ W (HT.out.below (below_then HB7.out (Nat.le_refl _) hb)) (HL7.out.below hb) HGD.out (by omega)).mono fun e w' ⟨V', h1, h2, h3⟩ => ⟨V', h1, h2.base hb.size, h3⟩))
  clear hc7 hl7 hb7 HN6 HQ6 HX6 HY6 HO6 HOF
  unfold vA at HS2
  go_wp2_with fail
  refine HS2.out.mono ?_
  rintro e w8 ⟨rfl, ⟨V2, v2, wb, hn8, hq8, hbb, hkb⟩, hb8, hf8⟩
  have HN8 := Lib.hid hn8
  have HK8 := Lib.hid (keep_frame HN7.out hb8.size hf8)
  have HQ8 := Lib.hid (HQ7.out.keep HK8.out)
  have HA8 := Lib.hid (hq8.keep hkb)
  have HB8 := Lib.hid (show RowKit.Below w.heap.size w w8 from HB7.out.trans (hb8.mono (by have := HB2.out; omega)))
  have HX8 := Lib.hid ((hb8.block b2 hb2g).trans HX7.out)
  have HY8 := Lib.hid ((hb8.block b5 hb5g).trans HY7.out)
  have HO8 := Lib.hid (own_same HO7.out fun k hk => hb8.block k (HOG.out k hk).2)
  have hs8 : w7.heap.size ≤ w8.heap.size := hb8.size
  clear hn8 hq8 hbb hkb hb8 hf8 HS2 HN7 HQ7 HX7 HY7 HO7
  have hy8 := HY8.out
  have e9 : w8.cell? ⟨b5, 9, none⟩ = some (.slice vo n vc) := by rw [cell_of_row w8 b5 9 _ _ (0, 0) hy8]; rfl
  clear hy8
  by_cases h0 : n = 0
  · have hgt : decide ((n : Int) > 0) = false := by simp; omega
    have hle : ¬ (0 : Int) < (n : Int) := by omega
    clear h0
    go_upto_region 10 with fail
    clear hgt hle
    have HG9 := Lib.hid (show w8.grownBy w8 (Value.slice vo n vc).ownBlock from World.grownBy.refl _ _)
    obtain ⟨w9, hw9⟩ : ∃ W, W = w8 := ⟨_, rfl⟩
    rw [← hw9]
    have HG9 := Lib.hid (show w8.grownBy w9 (Value.slice vo n vc).ownBlock from by rw [hw9]; exact HG9.out)
    clear hw9 e9
    as_aux_lemma =>
      obtain ⟨ov1, hV1, hov1⟩ := HQ8.out
      obtain ⟨a2, b2', d2, hV2, hc2⟩ := HA8.out
      subst hV1 hV2
      have HG9L := Lib.hid (show ∀ k, (Value.slice vo n vc).ownBlock = some k → W2.heap.size ≤ k ∧ k < g from HOG.out)
      have hw2 := HB2'.out.size
      have HN9 := Lib.hid (show NetAt w9 g (g + 1) v2 [⟨0, 37, vW 1 ((⟨tb, kd, ky, fi, va, ex, ⟨sp, sl, sw⟩, O⟩ : Mu), ov1)⟩, ⟨0, 51, vA 2 a2 b2' d2⟩] from net_low HN8.out HG9.out (fun k hk => (HG9L.out k hk).2))
      have HO9 := Lib.hid (own_low hov1 HG9.out (fun k hk => by have := (HG9L.out k hk).2; omega))
      have HA9 := Lib.hid (cpc_low hc2 HG9.out (fun k hk => by have := (HG9L.out k hk).2; omega))
      have HX9 := Lib.hid ((HG9.out.block b2 (Array.getElem?_eq_some_iff.1 HX8.out).1 (fun e => by have := (HG9L.out b2 e.symm).1; omega)).trans HX8.out)
      have HB9 := Lib.hid (HB8.out.grown HG9.out HB8.out.size (fun k hk => by have := (HG9L.out k hk).1; omega))
      have hgw9 : g < w9.heap.size := by have h1 := HN9.out.lt; have h2 := HN9.out.low; omega
      have HPL := Lib.hid (fun (W : World) (v : Value) (L : List Ms) (hh : NetAt W g (g + 1) v L) (h1 : 0 < L.length) (h2 : L.length ≤ 1000) => place_zero g (g + 1) v L W hh h1 h2)
      have HOV1 := Lib.hid (show ∀ W, RowKit.Below w9.heap.size w9 W → Over W ((⟨tb, kd, ky, fi, va, ex, ⟨sp, sl, sw⟩, O⟩ : Mu), ov1) from fun W hb => (Over.own (x := ((⟨tb, kd, ky, fi, va, ex, ⟨sp, sl, sw⟩, O⟩ : Mu), ov1)) HO9.out).below hb)
      have hO2 : O.length ≤ 1000000 := by rw [← HN.out]; exact hO1
      have HOWN1 := Lib.hid (show ∀ W, RowKit.Below w9.heap.size w9 W → Calls Tryz.prog 38 #[.iface 37 (vW 1 ((⟨tb, kd, ky, fi, va, ex, ⟨sp, sl, sw⟩, O⟩ : Mu), ov1))] W (OwnBP 37 (QW 1 (⟨tb, kd, ky, fi, va, ex, ⟨sp, sl, sw⟩, O⟩ : Mu) W.heap.size) W) from fun W hb => own_write 1 ((⟨tb, kd, ky, fi, va, ex, ⟨sp, sl, sw⟩, O⟩ : Mu), ov1) W (HOV1.out W hb) hO2)
      have HAT := Lib.hid (show Calls Tryz.prog 9 #[.pointer (some ⟨g, 0, none⟩), .int .i64 0] w9 (fun e w' => ∃ uo uc, e = .returned (.tuple #[.agg #[.int .i64 0, .int .i64 0, .int .i64 0, .bool false, .bool false, .bool false, .bool false, .bool false, .int .i64 0, .int .i64 0, .int .i64 0, .int .i64 0, .int .i64 0, .int .i64 0, .int .i64 0, .int .i64 0, .iface 37 (.agg #[.int .i64 1, .int .i64 tb, .int .i64 kd, .string ky, .string fi, .string va, .int .i64 ex, .int .i64 sp, .int .i64 sl, .int .i64 sw, .slice uo n uc])], .bool true]) ∧ w'.ownsRow w9.heap.size 25 3 (.slice uo n uc) n (O.flatMap enS) ∧ RowKit.Below w9.heap.size w9 w') from
        (at_any (QW 1 (⟨tb, kd, ky, fi, va, ex, ⟨sp, sl, sw⟩, O⟩ : Mu) w9.heap.size) 0 0 ⟨0, 37, vW 1 ((⟨tb, kd, ky, fi, va, ex, ⟨sp, sl, sw⟩, O⟩ : Mu), ov1)⟩ g (g + 1) v2 _ w9 HN9.out rfl (by simp) (fun W hh => HPL.out W _ _ hh (by simp) (by simp)) (fun W hb => (HOWN1.out W hb).mono fun e w' ⟨V', h1, h2, h3⟩ => ⟨V', h1, h2.base hb.size, h3⟩)).mono fun e w' ⟨⟨V', w1, h1, ⟨ov, hV, ho⟩, hb, hk⟩, _, hb'⟩ => by
          subst hV
          have ho2 := hk.own ho (by decide) (by decide)
          obtain ⟨uo, uc, e2⟩ := row_form ho2
          subst e2
          rw [h1]
          unfold vW
          simp only [] at ho2 ⊢
          rw [← HN.out] at ho2 ⊢
          exact ⟨uo, uc, rfl, ho2, hb'⟩)
      clear hov1 hc2 HQ8 HA8 HN8 HX8 HY8 HB8 HG9
      go_wp2_with fail
      refine HAT.out.mono ?_
      rintro e w10 ⟨uo, uc, rfl, ho10, hb10⟩
      have HO10 := Lib.hid ho10
      have HB10 := Lib.hid hb10
      clear ho10 hb10 HAT
      have HX10 := Lib.hid ((HB10.out.block b2 (Array.getElem?_eq_some_iff.1 HX9.out).1).trans HX9.out)
      have HXA := Lib.hid (fun (o : Obj) => show (w10.alloc o).heap[b2]? = some (.cells #[.int .i64 tb, .int .i64 kd, .string ky, .string fi, .string va, .int .i64 ex, .int .i64 sp, .int .i64 sl, .int .i64 sw, .slice xo n xc] 28 (0, 0)) from (((Below.refl w10.heap.size w10).alloc (Nat.le_refl _) o).block b2 (Array.getElem?_eq_some_iff.1 HX10.out).1).trans HX10.out)
      have HWR := Lib.hid (fun (W : World) (h : RowKit.Below w10.heap.size w10 W) => wrote_any (⟨tb, kd, ky, fi, va, ex, ⟨sp, sl, sw⟩, O⟩ : Mu) (.slice uo n uc) (.slice xo n xc) W (by
        have h1 := row_below HO10.out h
        rw [HN.out] at h1 ⊢
        exact Over.own (x := ((⟨tb, kd, ky, fi, va, ex, ⟨sp, sl, sw⟩, O⟩ : Mu), .slice uo O.length uc)) h1) (HOX.out.below (below_then HB9.out (Nat.le_refl _) (below_then HB10.out (Nat.le_refl _) h))) hO2)
      unfold vW vM at HWR
      simp only [] at HWR
      go_wp2_with (first | (refine load_row_w rfl 28 (.tmp 2) rfl b2 rfl 28 #[.int .i64 tb, .int .i64 kd, .string ky, .string fi, .string va, .int .i64 ex, .int .i64 sp, .int .i64 sl, .int .i64 sw, .slice xo n xc] (0, 0) _ (HXA.out _) Tryz.underlying28 rfl size_M ?_))
      refine (HWR.out _ ((Below.refl _ _).alloc (Nat.le_refl _) _)).mono ?_
      rintro e w12 ⟨rfl, hb12⟩
      have hbA : RowKit.Below w10.heap.size w10 (w10.alloc (.cells #[.int .i64 0, .int .i64 0, .int .i64 0, .bool false, .bool false, .bool false, .bool false, .bool false, .int .i64 0, .int .i64 0, .int .i64 0, .int .i64 0, .int .i64 0, .int .i64 0, .int .i64 0, .int .i64 0, .iface 37 (.agg #[.int .i64 1, .int .i64 tb, .int .i64 kd, .string ky, .string fi, .string va, .int .i64 ex, .int .i64 sp, .int .i64 sl, .int .i64 sw, .slice uo n uc])] 45)) := (Below.refl _ _).alloc (Nat.le_refl _) _
      have HB12 := Lib.hid (below_then hbA (Nat.le_refl _) hb12)
      have p16 : w12.cell? ⟨w10.heap.size, 16, none⟩ = some (.iface 37 (.agg #[.int .i64 1, .int .i64 tb, .int .i64 kd, .string ky, .string fi, .string va, .int .i64 ex, .int .i64 sp, .int .i64 sl, .int .i64 sw, .slice uo n uc])) := by
        rw [cell_of_row w12 w10.heap.size 16 _ _ (0, 0) ((hb12.block _ (by simp)).trans (heap_alloc_new w10 _))]; rfl
      have HO12 := Lib.hid (row_below HO10.out HB12.out)
      have HSPO := Lib.hid (spoil_any (⟨tb, kd, ky, fi, va, ex, ⟨sp, sl, sw⟩, O⟩ : Mu) w9.heap.size (.slice uo n uc) w12 (by have h := HO12.out; rw [HN.out] at h ⊢; exact h) hO2 (Nat.le_trans HB10.out.size HB12.out.size))
      unfold vW at HSPO
      simp only [] at HSPO
      clear hb12 hbA HWR
      go_wp2_with fail
      refine HSPO.out.mono ?_
      rintro e w13 ⟨rfl, hg13⟩
      have HZ13 := Lib.hid ((below_then HB10.out (Nat.le_refl _) HB12.out).grown hg13 (Nat.le_trans HB10.out.size HB12.out.size) (fun k hk => (HO12.out.lt k hk).1))
      have HN13 := Lib.hid (HN9.out.below HZ13.out)
      have HO13 := Lib.hid (row_below HO9.out HZ13.out)
      have HA13 := Lib.hid (HA9.out.below HZ13.out)
      have HX13 := Lib.hid ((HZ13.out.block b2 (Array.getElem?_eq_some_iff.1 HX9.out).1).trans HX9.out)
      have HB13 := Lib.hid (below_then HB9.out (Nat.le_refl _) HZ13.out)
      have hwg : w.heap.size ≤ g := by have := HB2.out; omega
      have HTK1 := Lib.hid (show Calls Tryz.prog 12 #[.pointer (some ⟨g, 0, none⟩), .int .i64 0] w13 (fun e w' => ∃ uo uc v', e = .returned (.tuple #[.agg #[.int .i64 0, .int .i64 0, .int .i64 0, .bool false, .bool false, .bool false, .bool false, .bool false, .int .i64 0, .int .i64 0, .int .i64 0, .int .i64 0, .int .i64 0, .int .i64 0, .int .i64 0, .int .i64 0, .iface 37 (.agg #[.int .i64 1, .int .i64 tb, .int .i64 kd, .string ky, .string fi, .string va, .int .i64 ex, .int .i64 sp, .int .i64 sl, .int .i64 sw, .slice uo n uc])], .bool true]) ∧ w'.ownsRow w13.heap.size 25 3 (.slice uo n uc) n (O.flatMap enS) ∧ NetAt w' g (g + 1) v' [⟨0, 51, vA 2 a2 b2' d2⟩] ∧ KeepR w13 w' ∧ RowKit.Below g w13 w') from
        (take_any (QW 1 (⟨tb, kd, ky, fi, va, ex, ⟨sp, sl, sw⟩, O⟩ : Mu) w13.heap.size) ⟨0, 37, vW 1 ((⟨tb, kd, ky, fi, va, ex, ⟨sp, sl, sw⟩, O⟩ : Mu), ov1)⟩ g (g + 1) v2 [⟨0, 51, vA 2 a2 b2' d2⟩] w13 HN13.out (by simp) (fun W hb => (HOWN1.out W (below_then HZ13.out (Nat.le_refl _) hb |>.mono (Nat.le_refl _))).mono fun e w' ⟨V', h1, h2, h3⟩ => ⟨V', h1, h2.base hb.size, h3⟩)).mono fun e w' ⟨⟨V', w1, h1, ⟨ov, hV, ho⟩, hb, hk⟩, ⟨v', hn⟩, hbg, hf⟩ => by
          subst hV
          have ho2 := hk.own ho (by decide) (by decide)
          obtain ⟨uo, uc, e2⟩ := row_form ho2
          subst e2
          rw [h1]
          unfold vW
          simp only [] at ho2 ⊢
          rw [← HN.out] at ho2 ⊢
          exact ⟨uo, uc, v', rfl, ho2, hn, keep_frame HN13.out hbg.size (fun i hi hg _ => hf i hi hg), hbg⟩)
      clear hg13 p16 HSPO HO12
      go_wp2_with fail
      refine HTK1.out.mono ?_
      rintro e w14 ⟨uo5, uc5, v5, rfl, ho14, hn14, hk14, hb14⟩
      have HA14 := Lib.hid (HA13.out.keep hk14)
      have HX14 := Lib.hid ((hb14.block b2 hb2g).trans HX13.out)
      have HB14 := Lib.hid (HB13.out.trans (hb14.mono hwg))
      have HN14 := Lib.hid hn14
      have HO14 := Lib.hid ho14
      clear ho14 hn14 hk14 hb14 HTK1
      go_upto_region 16 with fail
      obtain ⟨w15, hw15⟩ : ∃ W, W = w14.alloc (.cells #[.int .i64 0, .int .i64 0, .int .i64 0, .bool false, .bool false, .bool false, .bool false, .bool false, .int .i64 0, .int .i64 0, .int .i64 0, .int .i64 0, .int .i64 0, .int .i64 0, .int .i64 0, .int .i64 0, .iface 37 (.agg #[.int .i64 1, .int .i64 tb, .int .i64 kd, .string ky, .string fi, .string va, .int .i64 ex, .int .i64 sp, .int .i64 sl, .int .i64 sw, .slice uo5 n uc5])] 45) := ⟨_, rfl⟩
      obtain ⟨b9, hb9⟩ : ∃ k, k = w14.heap.size := ⟨_, rfl⟩
      rw [← hw15, ← hb9]
      have hb15 : RowKit.Below w14.heap.size w14 w15 := by rw [hw15]; exact (Below.refl _ _).alloc (Nat.le_refl _) _
      have HM15 := Lib.hid (show w15.heap[b9]? = some (.cells #[.int .i64 0, .int .i64 0, .int .i64 0, .bool false, .bool false, .bool false, .bool false, .bool false, .int .i64 0, .int .i64 0, .int .i64 0, .int .i64 0, .int .i64 0, .int .i64 0, .int .i64 0, .int .i64 0, .iface 37 (.agg #[.int .i64 1, .int .i64 tb, .int .i64 kd, .string ky, .string fi, .string va, .int .i64 ex, .int .i64 sp, .int .i64 sl, .int .i64 sw, .slice uo5 n uc5])] 45 (0, 0)) from by rw [hw15, hb9]; exact heap_alloc_new w14 _)
      have HA15 := Lib.hid (HA14.out.below hb15)
      have HX15 := Lib.hid ((hb15.block b2 (Array.getElem?_eq_some_iff.1 HX14.out).1).trans HX14.out)
      have HB15 := Lib.hid (below_then HB14.out (Nat.le_refl _) hb15)
      have HN15 := Lib.hid (HN14.out.below hb15)
      have HO15 := Lib.hid (row_below HO14.out hb15)
      have hgb9 : g ≠ b9 := by rw [hb9]; have h1 := HN14.out.lt; have h2 := HN14.out.low; omega
      clear hw15 hb9 hb15
      have HTK2 := Lib.hid (show Calls Tryz.prog 12 #[.pointer (some ⟨g, 0, none⟩), .int .i64 0] w15 (fun e w' => ∃ q1 y1 z1 q2 y2 z2 q3 y3 z3 v', e = .returned (.tuple #[.agg #[.int .i64 0, .int .i64 0, .int .i64 0, .bool false, .bool false, .bool false, .bool false, .bool false, .int .i64 0, .int .i64 0, .int .i64 0, .int .i64 0, .int .i64 0, .int .i64 0, .int .i64 0, .int .i64 0, .iface 51 (.agg #[.int .i64 2, .int .i64 0, .int .i64 0, .slice q1 y1 z1, .slice q2 y2 z2, .slice q3 y3 z3, .int .i64 0, .int .i64 0, .int .i64 0, .int .i64 0])], .bool true]) ∧ Lies w' (.slice q1 y1 z1) (.slice q2 y2 z2) (.slice q3 y3 z3) c ∧ NetAt w' g (g + 1) v' [] ∧ KeepR w15 w' ∧ RowKit.Below g w15 w' ∧ w'.heap[b9]? = w15.heap[b9]?) from
        (take_any (QA 2 c w15.heap.size) ⟨0, 51, vA 2 a2 b2' d2⟩ g (g + 1) v5 [] w15 HN15.out (by simp) (fun W hb => (own_answer 2 c 20 a2 b2' d2 W (HT.out.below (below_then HB15.out (Nat.le_refl _) hb)) (HA15.out.below hb).1 HGD.out (by omega)).mono fun e w' ⟨V', h1, h2, h3⟩ => ⟨V', h1, h2.base hb.size, h3⟩)).mono fun e w' ⟨⟨V', w1, h1, ⟨a, b, d, hV, hcp⟩, hb, hk⟩, ⟨v', hn⟩, hbg, hf⟩ => by
          subst hV
          have hcp2 := hcp.keep hk
          obtain ⟨q1, y1, z1, ea⟩ := hcp2.1.cells.slice
          obtain ⟨q2, y2, z2, eb⟩ := hcp2.1.wipes.slice
          obtain ⟨q3, y3, z3, ed⟩ := hcp2.1.sibs.slice
          subst ea eb ed
          rw [h1]
          unfold vA
          exact ⟨q1, y1, z1, q2, y2, z2, q3, y3, z3, v', rfl, hcp2.1, hn, keep_frame HN15.out hbg.size (fun i hi hg _ => hf i hi hg), hbg, hf b9 (Array.getElem?_eq_some_iff.1 HM15.out).1 (fun e => hgb9 e.symm)⟩)
      go_wp2_with fail
      refine HTK2.out.mono ?_
      rintro e w16 ⟨q1, y1, z1, q2, y2, z2, q3, y3, z3, v6, rfl, hl16, hn16, hk16, hb16, hm16⟩
      go_upto_region 17 with fail
      obtain ⟨w17, hw17⟩ : ∃ W, W = w16.alloc (.cells #[.int .i64 0, .int .i64 0, .int .i64 0, .bool false, .bool false, .bool false, .bool false, .bool false, .int .i64 0, .int .i64 0, .int .i64 0, .int .i64 0, .int .i64 0, .int .i64 0, .int .i64 0, .int .i64 0, .iface 51 (.agg #[.int .i64 2, .int .i64 0, .int .i64 0, .slice q1 y1 z1, .slice q2 y2 z2, .slice q3 y3 z3, .int .i64 0, .int .i64 0, .int .i64 0, .int .i64 0])] 45) := ⟨_, rfl⟩
      obtain ⟨b11, hb11⟩ : ∃ k, k = w16.heap.size := ⟨_, rfl⟩
      rw [← hw17, ← hb11]
      have hb17 : RowKit.Below w16.heap.size w16 w17 := by rw [hw17]; exact (Below.refl _ _).alloc (Nat.le_refl _) _
      have HM17 := Lib.hid (show w17.heap[b11]? = some (.cells #[.int .i64 0, .int .i64 0, .int .i64 0, .bool false, .bool false, .bool false, .bool false, .bool false, .int .i64 0, .int .i64 0, .int .i64 0, .int .i64 0, .int .i64 0, .int .i64 0, .int .i64 0, .int .i64 0, .iface 51 (.agg #[.int .i64 2, .int .i64 0, .int .i64 0, .slice q1 y1 z1, .slice q2 y2 z2, .slice q3 y3 z3, .int .i64 0, .int .i64 0, .int .i64 0, .int .i64 0])] 45 (0, 0)) from by rw [hw17, hb11]; exact heap_alloc_new w16 _)
      have HM9 := Lib.hid (show w17.heap[b9]? = some (.cells #[.int .i64 0, .int .i64 0, .int .i64 0, .bool false, .bool false, .bool false, .bool false, .bool false, .int .i64 0, .int .i64 0, .int .i64 0, .int .i64 0, .int .i64 0, .int .i64 0, .int .i64 0, .int .i64 0, .iface 37 (.agg #[.int .i64 1, .int .i64 tb, .int .i64 kd, .string ky, .string fi, .string va, .int .i64 ex, .int .i64 sp, .int .i64 sl, .int .i64 sw, .slice uo5 n uc5])] 45 (0, 0)) from by
        have h1 := hm16.trans HM15.out
        exact (hb17.block b9 (Array.getElem?_eq_some_iff.1 h1).1).trans h1)
      have HX17 := Lib.hid (show w17.heap[b2]? = some (.cells #[.int .i64 tb, .int .i64 kd, .string ky, .string fi, .string va, .int .i64 ex, .int .i64 sp, .int .i64 sl, .int .i64 sw, .slice xo n xc] 28 (0, 0)) from by
        have h1 := (hb16.block b2 hb2g).trans HX15.out
        exact (hb17.block b2 (Array.getElem?_eq_some_iff.1 h1).1).trans h1)
      have HL17 := Lib.hid (hl16.below hb17)
      have HN17 := Lib.hid (hn16.below hb17)
      have HB17 := Lib.hid (below_then (HB15.out.trans (hb16.mono hwg)) (Nat.le_refl _) hb17)
      have HO17 := Lib.hid (row_below (hk16.own HO15.out (by decide) (by decide)) hb17)
      clear hw17 hb11 hl16 hn16 hk16 hb16 hm16 hb17 HTK2
      go_wp2_with (first | (refine wpList_load_row rfl 45 (.tmp 9) rfl b9 rfl 45 #[.int .i64 0, .int .i64 0, .int .i64 0, .bool false, .bool false, .bool false, .bool false, .bool false, .int .i64 0, .int .i64 0, .int .i64 0, .int .i64 0, .int .i64 0, .int .i64 0, .int .i64 0, .int .i64 0, .iface 37 (.agg #[.int .i64 1, .int .i64 tb, .int .i64 kd, .string ky, .string fi, .string va, .int .i64 ex, .int .i64 sp, .int .i64 sl, .int .i64 sw, .slice uo5 n uc5])] (0, 0) _ HM9.out Tryz.underlying45 rfl size_Msg ?_))
      refine (saysW _ w17).mono ?_
      rintro e w18 ⟨rfl, hb18⟩
      have HB18 := Lib.hid hb18
      have HM18 := Lib.hid ((hb18.block b11 (Array.getElem?_eq_some_iff.1 HM17.out).1).trans HM17.out)
      clear hb18
      go_wp2_with (first | (refine load_row_w rfl 45 (.tmp 11) rfl b11 rfl 45 #[.int .i64 0, .int .i64 0, .int .i64 0, .bool false, .bool false, .bool false, .bool false, .bool false, .int .i64 0, .int .i64 0, .int .i64 0, .int .i64 0, .int .i64 0, .int .i64 0, .int .i64 0, .int .i64 0, .iface 51 (.agg #[.int .i64 2, .int .i64 0, .int .i64 0, .slice q1 y1 z1, .slice q2 y2 z2, .slice q3 y3 z3, .int .i64 0, .int .i64 0, .int .i64 0, .int .i64 0])] (0, 0) _ HM18.out Tryz.underlying45 rfl size_Msg ?_))
      refine (saysA _ w18).mono ?_
      rintro e w19 ⟨rfl, hb19⟩
      have HB19 := Lib.hid (below_then HB18.out (Nat.le_refl _) hb19)
      have HM19 := Lib.hid ((HB19.out.block b9 (Array.getElem?_eq_some_iff.1 HM9.out).1).trans HM9.out)
      have HX19 := Lib.hid ((HB19.out.block b2 (Array.getElem?_eq_some_iff.1 HX17.out).1).trans HX17.out)
      have r16 : w19.cell? ⟨b9, 16, none⟩ = some (.iface 37 (.agg #[.int .i64 1, .int .i64 tb, .int .i64 kd, .string ky, .string fi, .string va, .int .i64 ex, .int .i64 sp, .int .i64 sl, .int .i64 sw, .slice uo5 n uc5])) := by rw [cell_of_row w19 b9 16 _ _ (0, 0) HM19.out]; rfl
      have HWR2 := Lib.hid (wrote_any (⟨tb, kd, ky, fi, va, ex, ⟨sp, sl, sw⟩, O⟩ : Mu) (.slice uo5 n uc5) (.slice xo n xc) w19 (by
        have h1 := row_below HO17.out HB19.out
        rw [HN.out] at h1 ⊢
        exact Over.own (x := ((⟨tb, kd, ky, fi, va, ex, ⟨sp, sl, sw⟩, O⟩ : Mu), .slice uo5 O.length uc5)) h1) (HOX.out.below (below_then HB17.out (Nat.le_refl _) HB19.out)) hO2)
      unfold vW vM at HWR2
      simp only [] at HWR2
      clear hb19
      go_wp2_with (first | (refine load_row_w rfl 28 (.tmp 2) rfl b2 rfl 28 #[.int .i64 tb, .int .i64 kd, .string ky, .string fi, .string va, .int .i64 ex, .int .i64 sp, .int .i64 sl, .int .i64 sw, .slice xo n xc] (0, 0) _ HX19.out Tryz.underlying28 rfl size_M ?_))
      refine HWR2.out.mono ?_
      rintro e w20 ⟨rfl, hb20⟩
      have HB20 := Lib.hid (below_then HB19.out (Nat.le_refl _) hb20)
      have t16 : w20.cell? ⟨b11, 16, none⟩ = some (.iface 51 (.agg #[.int .i64 2, .int .i64 0, .int .i64 0, .slice q1 y1 z1, .slice q2 y2 z2, .slice q3 y3 z3, .int .i64 0, .int .i64 0, .int .i64 0, .int .i64 0])) := by rw [cell_of_row w20 b11 16 _ _ (0, 0) ((HB20.out.block b11 (Array.getElem?_eq_some_iff.1 HM17.out).1).trans HM17.out)]; rfl
      have HTO := Lib.hid (told_any c 20 (.slice q1 y1 z1) (.slice q2 y2 z2) (.slice q3 y3 z3) (.slice lo na lc) la w20 (HT.out.below (below_then HB17.out (Nat.le_refl _) HB20.out)) (HL17.out.below HB20.out) HGD.out (HRA.out.below (below_then HB17.out (Nat.le_refl _) HB20.out)) (by omega) sA HCE.out.symm)
      unfold vA at HTO
      clear r16 hb20 HWR2
      go_wp2_with fail
      refine HTO.out.mono ?_
      rintro e w21 ⟨rfl, hb21⟩
      have HB21 := Lib.hid (below_then HB20.out (Nat.le_refl _) hb21)
      have HLE := Lib.hid (show Calls Tryz.prog 15 #[.pointer (some ⟨g, 0, none⟩)] w21 (fun e w' => e = .returned (.int .i64 0) ∧ w21 = w') from len_any g (g + 1) v6 [] w21 (HN17.out.below HB21.out))
      clear hb21 t16 HTO
      go_wp2_with fail
      refine HLE.out.mono ?_
      rintro e w22 ⟨rfl, hw22⟩
      subst hw22
      go_wp2_with fail
      refine (NetW.alive_any w21).mono ?_
      rintro e w23 ⟨rfl, hb23⟩
      have HBF := Lib.hid (below_then (below_then HB17.out (Nat.le_refl _) HB21.out) (Nat.le_refl _) hb23)
      clear hb23
      go_wp2_with fail
      go_ret
      exact ⟨rfl, HBF.out⟩
  · have hgt : decide ((n : Int) > 0) = true := by simp; omega
    have hpos : (0 : Int) < (n : Int) := by omega
    obtain ⟨gO, hvo, ⟨x0, hx0⟩, hf0, hgw⟩ : ∃ q, vo = some ⟨q, 0, none⟩ ∧ (∃ x : Int, w8.cell? ⟨q, 0, none⟩ = some (.int .i64 x)) ∧ w8.frozen? ⟨q, 0, none⟩ = false ∧ q < w8.heap.size := by
      rcases HO8.out.2 with ⟨_, e⟩ | ⟨q, cap, cur, e, _, hq, _⟩
      · exact absurd e h0
      · obtain ⟨s, O2, hOs⟩ := List.exists_cons_of_ne_nil (l := O) (fun e => h0 (by rw [HN.out, e]; rfl))
        injection e with e1 e2 e3
        subst e1
        have h1 := World.ownsRow.cells HO8.out (g := q) rfl 0 (.int .i64 s.p) (by rw [hOs, List.flatMap_cons]; rfl)
        rw [addr_add] at h1
        exact ⟨q, rfl, ⟨s.p, h1⟩, frozen_of_row w8 q 0 _ _ hq, (Array.getElem?_eq_some_iff.1 hq).1⟩
    subst hvo
    have HXC := Lib.hid (fun (V : World) (hb : RowKit.Below w8.heap.size w8 V) => show V.cell? ⟨b5, 9, none⟩ = some (.slice (some ⟨gO, 0, none⟩) n vc) ∧ V.cell? ⟨gO, 0, none⟩ = some (.int .i64 x0) ∧ V.frozen? ⟨gO, 0, none⟩ = false from
      ⟨(hb.cell (p := ⟨b5, 9, none⟩) (Array.getElem?_eq_some_iff.1 HY8.out).1).trans e9, (hb.cell (p := ⟨gO, 0, none⟩) hgw).trans hx0, (hb.frozen (p := ⟨gO, 0, none⟩) hgw).trans hf0⟩)
    clear hx0 hf0
    go_upto_region 9 with fail
    clear e9
    refine wp_region_told [] 10 [false, false, false, false, false, false, false, false, false, false, false, false, false, false, false, false, false, false, false, false, false, false, false, false, false, false, false, false, false, false, false, false, false, false, false, false, false, false, false, false, false, false, false, false, false, true, true, true, true, true, true, true, true, true, true, false, false, false, false, false, false, false, false, false, false, false, false, false, false, false, false, false, false, false, false, false, false, false, false, false, false, false, false, false, false, false, false, false, false, false, false, false, false, false, false, false, false, false, false, false, false, false, false, false, false, false, false, false, false, false, false, false, false, false, false, false, false]
      [sLit (.pointer (some ⟨b5, 9, none⟩)),
    sLit (.slice (some ⟨gO, 0, none⟩) n vc),
    sLit (.pointer (some ⟨b5, 9, none⟩)),
    sLit (.slice (some ⟨gO, 0, none⟩) n vc),
    sLit (.pointer (some ⟨gO, 0, none⟩)),
    sLit (.pointer (some ⟨gO, 0, none⟩)),
    sLit (.int .i64 x0),
    sLit (.int .i64 (bits .xor .i64 x0 1)),
    sLit (.pointer (some ⟨gO, 0, none⟩)),
    sLit (.pointer (some ⟨gO, 0, none⟩))] (by kernel_rfl) (by kernel_rfl) (by kernel_rfl) (fun F hF => ?_)
    simp only [over, overL, Nat.reduceAdd] at hF
    obtain rfl := funext hF
    clear hF
    refine ⟨⟨?_, ?_, ?_, ?_, ?_, ?_, ?_, ?_, ?_, ?_, trivial⟩, ?_⟩
    · intro V W hb hd K hK _
      clear hd
      go_wp2_with fail
      refine hK _ _ ?_ ?_ ?_ ?_
      · rfl
      · exact Below.refl _ _
      · exact rfl
      · trivial
    · intro V W hb hd K hK _
      have h0 : (V 45) = .pointer (some ⟨b5, 9, none⟩) := hd 0 (by kernel_rfl)
      clear hd
      obtain ⟨s0, s1, s2⟩ := HXC.out W hb
      go_wp2_with fail
      refine hK _ _ ?_ ?_ ?_ ?_
      · rfl
      · exact Below.refl _ _
      · exact rfl
      · trivial
    · intro V W hb hd K hK _
      clear hd
      go_wp2_with fail
      refine hK _ _ ?_ ?_ ?_ ?_
      · rfl
      · exact Below.refl _ _
      · exact rfl
      · trivial
    · intro V W hb hd K hK _
      have h2 : (V 47) = .pointer (some ⟨b5, 9, none⟩) := hd 2 (by kernel_rfl)
      clear hd
      obtain ⟨s0, s1, s2⟩ := HXC.out W hb
      go_wp2_with fail
      refine hK _ _ ?_ ?_ ?_ ?_
      · rfl
      · exact Below.refl _ _
      · exact rfl
      · trivial
    · intro V W hb hd K hK _
      have h3 : (V 48) = .slice (some ⟨gO, 0, none⟩) n vc := hd 3 (by kernel_rfl)
      clear hd
      go_wp2_with fail
      refine hK _ _ ?_ ?_ ?_ ?_
      · rfl
      · exact Below.refl _ _
      · exact rfl
      · trivial
    · intro V W hb hd K hK _
      have h4 : (V 49) = .pointer (some ⟨gO, 0, none⟩) := hd 4 (by kernel_rfl)
      clear hd
      go_wp2_with fail
      refine hK _ _ ?_ ?_ ?_ ?_
      · rfl
      · exact Below.refl _ _
      · exact rfl
      · trivial
    · intro V W hb hd K hK _
      have h5 : (V 50) = .pointer (some ⟨gO, 0, none⟩) := hd 5 (by kernel_rfl)
      clear hd
      obtain ⟨s0, s1, s2⟩ := HXC.out W hb
      go_wp2_with fail
      refine hK _ _ ?_ ?_ ?_ ?_
      · rfl
      · exact Below.refl _ _
      · exact rfl
      · trivial
    · intro V W hb hd K hK _
      have h6 : (V 51) = .int .i64 x0 := hd 6 (by kernel_rfl)
      clear hd
      go_wp2_with fail
      refine hK _ _ ?_ ?_ ?_ ?_
      · rfl
      · exact Below.refl _ _
      · exact rfl
      · trivial
    · intro V W hb hd K hK _
      have h1 : (V 46) = .slice (some ⟨gO, 0, none⟩) n vc := hd 1 (by kernel_rfl)
      clear hd
      go_wp2_with fail
      refine hK _ _ ?_ ?_ ?_ ?_
      · rfl
      · exact Below.refl _ _
      · exact rfl
      · trivial
    · intro V W hb hd K hK _
      have h8 : (V 53) = .pointer (some ⟨gO, 0, none⟩) := hd 8 (by kernel_rfl)
      clear hd
      go_wp2_with fail
      refine hK _ _ ?_ ?_ ?_ ?_
      · rfl
      · exact Below.refl _ _
      · exact rfl
      · trivial
    · intro V W hb hd hap
      have h7 : (V 52) = .int .i64 (bits .xor .i64 x0 1) := hd 7 (by decide)
      have h9 : (V 54) = .pointer (some ⟨gO, 0, none⟩) := hd 9 (by decide)
      clear hd hap
      simp only [List.drop_succ_cons, List.drop_zero]
      have HFIN := Lib.hid (show w8.grownBy (W.setCell ⟨gO, 0, none⟩ (.int .i64 (bits .xor .i64 x0 1))) (Value.slice (some ⟨gO, 0, none⟩) n vc).ownBlock from grown_setCell (Mut.grown_below hb _) (Or.inl rfl) _)
      obtain ⟨s0, s1, s2⟩ := HXC.out _ hb
      clear hb
      go_upto_region 10 with fail
      obtain ⟨w9, hw9⟩ : ∃ W_, W_ = W.setCell ⟨gO, 0, none⟩ (.int .i64 (bits .xor .i64 x0 1)) := ⟨_, rfl⟩
      rw [← hw9]
      have HG9 := Lib.hid (show w8.grownBy w9 (Value.slice (some ⟨gO, 0, none⟩) n vc).ownBlock from by rw [hw9]; exact HFIN.out)
      clear hw9 s0 s1 s2
      as_aux_lemma =>
        obtain ⟨ov1, hV1, hov1⟩ := HQ8.out
        obtain ⟨a2, b2', d2, hV2, hc2⟩ := HA8.out
        subst hV1 hV2
        have HG9L := Lib.hid (show ∀ k, (Value.slice (some ⟨gO, 0, none⟩) n vc).ownBlock = some k → W2.heap.size ≤ k ∧ k < g from HOG.out)
        have hw2 := HB2'.out.size
        have HN9 := Lib.hid (show NetAt w9 g (g + 1) v2 [⟨0, 37, vW 1 ((⟨tb, kd, ky, fi, va, ex, ⟨sp, sl, sw⟩, O⟩ : Mu), ov1)⟩, ⟨0, 51, vA 2 a2 b2' d2⟩] from net_low HN8.out HG9.out (fun k hk => (HG9L.out k hk).2))
        have HO9 := Lib.hid (own_low hov1 HG9.out (fun k hk => by have := (HG9L.out k hk).2; omega))
        have HA9 := Lib.hid (cpc_low hc2 HG9.out (fun k hk => by have := (HG9L.out k hk).2; omega))
        have HX9 := Lib.hid ((HG9.out.block b2 (Array.getElem?_eq_some_iff.1 HX8.out).1 (fun e => by have := (HG9L.out b2 e.symm).1; omega)).trans HX8.out)
        have HB9 := Lib.hid (HB8.out.grown HG9.out HB8.out.size (fun k hk => by have := (HG9L.out k hk).1; omega))
        have hgw9 : g < w9.heap.size := by have h1 := HN9.out.lt; have h2 := HN9.out.low; omega
        have HPL := Lib.hid (fun (W : World) (v : Value) (L : List Ms) (hh : NetAt W g (g + 1) v L) (h1 : 0 < L.length) (h2 : L.length ≤ 1000) => place_zero g (g + 1) v L W hh h1 h2)
        have HOV1 := Lib.hid (show ∀ W, RowKit.Below w9.heap.size w9 W → Over W ((⟨tb, kd, ky, fi, va, ex, ⟨sp, sl, sw⟩, O⟩ : Mu), ov1) from fun W hb => (Over.own (x := ((⟨tb, kd, ky, fi, va, ex, ⟨sp, sl, sw⟩, O⟩ : Mu), ov1)) HO9.out).below hb)
        have hO2 : O.length ≤ 1000000 := by rw [← HN.out]; exact hO1
        have HOWN1 := Lib.hid (show ∀ W, RowKit.Below w9.heap.size w9 W → Calls Tryz.prog 38 #[.iface 37 (vW 1 ((⟨tb, kd, ky, fi, va, ex, ⟨sp, sl, sw⟩, O⟩ : Mu), ov1))] W (OwnBP 37 (QW 1 (⟨tb, kd, ky, fi, va, ex, ⟨sp, sl, sw⟩, O⟩ : Mu) W.heap.size) W) from fun W hb => own_write 1 ((⟨tb, kd, ky, fi, va, ex, ⟨sp, sl, sw⟩, O⟩ : Mu), ov1) W (HOV1.out W hb) hO2)
        have HAT := Lib.hid (show Calls Tryz.prog 9 #[.pointer (some ⟨g, 0, none⟩), .int .i64 0] w9 (fun e w' => ∃ uo uc, e = .returned (.tuple #[.agg #[.int .i64 0, .int .i64 0, .int .i64 0, .bool false, .bool false, .bool false, .bool false, .bool false, .int .i64 0, .int .i64 0, .int .i64 0, .int .i64 0, .int .i64 0, .int .i64 0, .int .i64 0, .int .i64 0, .iface 37 (.agg #[.int .i64 1, .int .i64 tb, .int .i64 kd, .string ky, .string fi, .string va, .int .i64 ex, .int .i64 sp, .int .i64 sl, .int .i64 sw, .slice uo n uc])], .bool true]) ∧ w'.ownsRow w9.heap.size 25 3 (.slice uo n uc) n (O.flatMap enS) ∧ RowKit.Below w9.heap.size w9 w') from
          (at_any (QW 1 (⟨tb, kd, ky, fi, va, ex, ⟨sp, sl, sw⟩, O⟩ : Mu) w9.heap.size) 0 0 ⟨0, 37, vW 1 ((⟨tb, kd, ky, fi, va, ex, ⟨sp, sl, sw⟩, O⟩ : Mu), ov1)⟩ g (g + 1) v2 _ w9 HN9.out rfl (by simp) (fun W hh => HPL.out W _ _ hh (by simp) (by simp)) (fun W hb => (HOWN1.out W hb).mono fun e w' ⟨V', h1, h2, h3⟩ => ⟨V', h1, h2.base hb.size, h3⟩)).mono fun e w' ⟨⟨V', w1, h1, ⟨ov, hV, ho⟩, hb, hk⟩, _, hb'⟩ => by
            subst hV
            have ho2 := hk.own ho (by decide) (by decide)
            obtain ⟨uo, uc, e2⟩ := row_form ho2
            subst e2
            rw [h1]
            unfold vW
            simp only [] at ho2 ⊢
            rw [← HN.out] at ho2 ⊢
            exact ⟨uo, uc, rfl, ho2, hb'⟩)
        clear hov1 hc2 HQ8 HA8 HN8 HX8 HY8 HB8 HG9
        go_wp2_with fail
        refine HAT.out.mono ?_
        rintro e w10 ⟨uo, uc, rfl, ho10, hb10⟩
        have HO10 := Lib.hid ho10
        have HB10 := Lib.hid hb10
        clear ho10 hb10 HAT
        have HX10 := Lib.hid ((HB10.out.block b2 (Array.getElem?_eq_some_iff.1 HX9.out).1).trans HX9.out)
        have HXA := Lib.hid (fun (o : Obj) => show (w10.alloc o).heap[b2]? = some (.cells #[.int .i64 tb, .int .i64 kd, .string ky, .string fi, .string va, .int .i64 ex, .int .i64 sp, .int .i64 sl, .int .i64 sw, .slice xo n xc] 28 (0, 0)) from (((Below.refl w10.heap.size w10).alloc (Nat.le_refl _) o).block b2 (Array.getElem?_eq_some_iff.1 HX10.out).1).trans HX10.out)
        have HWR := Lib.hid (fun (W : World) (h : RowKit.Below w10.heap.size w10 W) => wrote_any (⟨tb, kd, ky, fi, va, ex, ⟨sp, sl, sw⟩, O⟩ : Mu) (.slice uo n uc) (.slice xo n xc) W (by
          have h1 := row_below HO10.out h
          rw [HN.out] at h1 ⊢
          exact Over.own (x := ((⟨tb, kd, ky, fi, va, ex, ⟨sp, sl, sw⟩, O⟩ : Mu), .slice uo O.length uc)) h1) (HOX.out.below (below_then HB9.out (Nat.le_refl _) (below_then HB10.out (Nat.le_refl _) h))) hO2)
        unfold vW vM at HWR
        simp only [] at HWR
        go_wp2_with (first | (refine load_row_w rfl 28 (.tmp 2) rfl b2 rfl 28 #[.int .i64 tb, .int .i64 kd, .string ky, .string fi, .string va, .int .i64 ex, .int .i64 sp, .int .i64 sl, .int .i64 sw, .slice xo n xc] (0, 0) _ (HXA.out _) Tryz.underlying28 rfl size_M ?_))
        refine (HWR.out _ ((Below.refl _ _).alloc (Nat.le_refl _) _)).mono ?_
        rintro e w12 ⟨rfl, hb12⟩
        have hbA : RowKit.Below w10.heap.size w10 (w10.alloc (.cells #[.int .i64 0, .int .i64 0, .int .i64 0, .bool false, .bool false, .bool false, .bool false, .bool false, .int .i64 0, .int .i64 0, .int .i64 0, .int .i64 0, .int .i64 0, .int .i64 0, .int .i64 0, .int .i64 0, .iface 37 (.agg #[.int .i64 1, .int .i64 tb, .int .i64 kd, .string ky, .string fi, .string va, .int .i64 ex, .int .i64 sp, .int .i64 sl, .int .i64 sw, .slice uo n uc])] 45)) := (Below.refl _ _).alloc (Nat.le_refl _) _
        have HB12 := Lib.hid (below_then hbA (Nat.le_refl _) hb12)
        have p16 : w12.cell? ⟨w10.heap.size, 16, none⟩ = some (.iface 37 (.agg #[.int .i64 1, .int .i64 tb, .int .i64 kd, .string ky, .string fi, .string va, .int .i64 ex, .int .i64 sp, .int .i64 sl, .int .i64 sw, .slice uo n uc])) := by
          rw [cell_of_row w12 w10.heap.size 16 _ _ (0, 0) ((hb12.block _ (by simp)).trans (heap_alloc_new w10 _))]; rfl
        have HO12 := Lib.hid (row_below HO10.out HB12.out)
        have HSPO := Lib.hid (spoil_any (⟨tb, kd, ky, fi, va, ex, ⟨sp, sl, sw⟩, O⟩ : Mu) w9.heap.size (.slice uo n uc) w12 (by have h := HO12.out; rw [HN.out] at h ⊢; exact h) hO2 (Nat.le_trans HB10.out.size HB12.out.size))
        unfold vW at HSPO
        simp only [] at HSPO
        clear hb12 hbA HWR
        go_wp2_with fail
        refine HSPO.out.mono ?_
        rintro e w13 ⟨rfl, hg13⟩
        have HZ13 := Lib.hid ((below_then HB10.out (Nat.le_refl _) HB12.out).grown hg13 (Nat.le_trans HB10.out.size HB12.out.size) (fun k hk => (HO12.out.lt k hk).1))
        have HN13 := Lib.hid (HN9.out.below HZ13.out)
        have HO13 := Lib.hid (row_below HO9.out HZ13.out)
        have HA13 := Lib.hid (HA9.out.below HZ13.out)
        have HX13 := Lib.hid ((HZ13.out.block b2 (Array.getElem?_eq_some_iff.1 HX9.out).1).trans HX9.out)
        have HB13 := Lib.hid (below_then HB9.out (Nat.le_refl _) HZ13.out)
        have hwg : w.heap.size ≤ g := by have := HB2.out; omega
        have HTK1 := Lib.hid (show Calls Tryz.prog 12 #[.pointer (some ⟨g, 0, none⟩), .int .i64 0] w13 (fun e w' => ∃ uo uc v', e = .returned (.tuple #[.agg #[.int .i64 0, .int .i64 0, .int .i64 0, .bool false, .bool false, .bool false, .bool false, .bool false, .int .i64 0, .int .i64 0, .int .i64 0, .int .i64 0, .int .i64 0, .int .i64 0, .int .i64 0, .int .i64 0, .iface 37 (.agg #[.int .i64 1, .int .i64 tb, .int .i64 kd, .string ky, .string fi, .string va, .int .i64 ex, .int .i64 sp, .int .i64 sl, .int .i64 sw, .slice uo n uc])], .bool true]) ∧ w'.ownsRow w13.heap.size 25 3 (.slice uo n uc) n (O.flatMap enS) ∧ NetAt w' g (g + 1) v' [⟨0, 51, vA 2 a2 b2' d2⟩] ∧ KeepR w13 w' ∧ RowKit.Below g w13 w') from
          (take_any (QW 1 (⟨tb, kd, ky, fi, va, ex, ⟨sp, sl, sw⟩, O⟩ : Mu) w13.heap.size) ⟨0, 37, vW 1 ((⟨tb, kd, ky, fi, va, ex, ⟨sp, sl, sw⟩, O⟩ : Mu), ov1)⟩ g (g + 1) v2 [⟨0, 51, vA 2 a2 b2' d2⟩] w13 HN13.out (by simp) (fun W hb => (HOWN1.out W (below_then HZ13.out (Nat.le_refl _) hb |>.mono (Nat.le_refl _))).mono fun e w' ⟨V', h1, h2, h3⟩ => ⟨V', h1, h2.base hb.size, h3⟩)).mono fun e w' ⟨⟨V', w1, h1, ⟨ov, hV, ho⟩, hb, hk⟩, ⟨v', hn⟩, hbg, hf⟩ => by
            subst hV
            have ho2 := hk.own ho (by decide) (by decide)
            obtain ⟨uo, uc, e2⟩ := row_form ho2
            subst e2
            rw [h1]
            unfold vW
            simp only [] at ho2 ⊢
            rw [← HN.out] at ho2 ⊢
            exact ⟨uo, uc, v', rfl, ho2, hn, keep_frame HN13.out hbg.size (fun i hi hg _ => hf i hi hg), hbg⟩)
        clear hg13 p16 HSPO HO12
        go_wp2_with fail
        refine HTK1.out.mono ?_
        rintro e w14 ⟨uo5, uc5, v5, rfl, ho14, hn14, hk14, hb14⟩
        have HA14 := Lib.hid (HA13.out.keep hk14)
        have HX14 := Lib.hid ((hb14.block b2 hb2g).trans HX13.out)
        have HB14 := Lib.hid (HB13.out.trans (hb14.mono hwg))
        have HN14 := Lib.hid hn14
        have HO14 := Lib.hid ho14
        clear ho14 hn14 hk14 hb14 HTK1
        go_upto_region 16 with fail
        obtain ⟨w15, hw15⟩ : ∃ W, W = w14.alloc (.cells #[.int .i64 0, .int .i64 0, .int .i64 0, .bool false, .bool false, .bool false, .bool false, .bool false, .int .i64 0, .int .i64 0, .int .i64 0, .int .i64 0, .int .i64 0, .int .i64 0, .int .i64 0, .int .i64 0, .iface 37 (.agg #[.int .i64 1, .int .i64 tb, .int .i64 kd, .string ky, .string fi, .string va, .int .i64 ex, .int .i64 sp, .int .i64 sl, .int .i64 sw, .slice uo5 n uc5])] 45) := ⟨_, rfl⟩
        obtain ⟨b9, hb9⟩ : ∃ k, k = w14.heap.size := ⟨_, rfl⟩
        rw [← hw15, ← hb9]
        have hb15 : RowKit.Below w14.heap.size w14 w15 := by rw [hw15]; exact (Below.refl _ _).alloc (Nat.le_refl _) _
        have HM15 := Lib.hid (show w15.heap[b9]? = some (.cells #[.int .i64 0, .int .i64 0, .int .i64 0, .bool false, .bool false, .bool false, .bool false, .bool false, .int .i64 0, .int .i64 0, .int .i64 0, .int .i64 0, .int .i64 0, .int .i64 0, .int .i64 0, .int .i64 0, .iface 37 (.agg #[.int .i64 1, .int .i64 tb, .int .i64 kd, .string ky, .string fi, .string va, .int .i64 ex, .int .i64 sp, .int .i64 sl, .int .i64 sw, .slice uo5 n uc5])] 45 (0, 0)) from by rw [hw15, hb9]; exact heap_alloc_new w14 _)
        have HA15 := Lib.hid (HA14.out.below hb15)
        have HX15 := Lib.hid ((hb15.block b2 (Array.getElem?_eq_some_iff.1 HX14.out).1).trans HX14.out)
        have HB15 := Lib.hid (below_then HB14.out (Nat.le_refl _) hb15)
        have HN15 := Lib.hid (HN14.out.below hb15)
        have HO15 := Lib.hid (row_below HO14.out hb15)
        have hgb9 : g ≠ b9 := by rw [hb9]; have h1 := HN14.out.lt; have h2 := HN14.out.low; omega
        clear hw15 hb9 hb15
        have HTK2 := Lib.hid (show Calls Tryz.prog 12 #[.pointer (some ⟨g, 0, none⟩), .int .i64 0] w15 (fun e w' => ∃ q1 y1 z1 q2 y2 z2 q3 y3 z3 v', e = .returned (.tuple #[.agg #[.int .i64 0, .int .i64 0, .int .i64 0, .bool false, .bool false, .bool false, .bool false, .bool false, .int .i64 0, .int .i64 0, .int .i64 0, .int .i64 0, .int .i64 0, .int .i64 0, .int .i64 0, .int .i64 0, .iface 51 (.agg #[.int .i64 2, .int .i64 0, .int .i64 0, .slice q1 y1 z1, .slice q2 y2 z2, .slice q3 y3 z3, .int .i64 0, .int .i64 0, .int .i64 0, .int .i64 0])], .bool true]) ∧ Lies w' (.slice q1 y1 z1) (.slice q2 y2 z2) (.slice q3 y3 z3) c ∧ NetAt w' g (g + 1) v' [] ∧ KeepR w15 w' ∧ RowKit.Below g w15 w' ∧ w'.heap[b9]? = w15.heap[b9]?) from
          (take_any (QA 2 c w15.heap.size) ⟨0, 51, vA 2 a2 b2' d2⟩ g (g + 1) v5 [] w15 HN15.out (by simp) (fun W hb => (own_answer 2 c 20 a2 b2' d2 W (HT.out.below (below_then HB15.out (Nat.le_refl _) hb)) (HA15.out.below hb).1 HGD.out (by omega)).mono fun e w' ⟨V', h1, h2, h3⟩ => ⟨V', h1, h2.base hb.size, h3⟩)).mono fun e w' ⟨⟨V', w1, h1, ⟨a, b, d, hV, hcp⟩, hb, hk⟩, ⟨v', hn⟩, hbg, hf⟩ => by
            subst hV
            have hcp2 := hcp.keep hk
            obtain ⟨q1, y1, z1, ea⟩ := hcp2.1.cells.slice
            obtain ⟨q2, y2, z2, eb⟩ := hcp2.1.wipes.slice
            obtain ⟨q3, y3, z3, ed⟩ := hcp2.1.sibs.slice
            subst ea eb ed
            rw [h1]
            unfold vA
            exact ⟨q1, y1, z1, q2, y2, z2, q3, y3, z3, v', rfl, hcp2.1, hn, keep_frame HN15.out hbg.size (fun i hi hg _ => hf i hi hg), hbg, hf b9 (Array.getElem?_eq_some_iff.1 HM15.out).1 (fun e => hgb9 e.symm)⟩)
        go_wp2_with fail
        refine HTK2.out.mono ?_
        rintro e w16 ⟨q1, y1, z1, q2, y2, z2, q3, y3, z3, v6, rfl, hl16, hn16, hk16, hb16, hm16⟩
        go_upto_region 17 with fail
        obtain ⟨w17, hw17⟩ : ∃ W, W = w16.alloc (.cells #[.int .i64 0, .int .i64 0, .int .i64 0, .bool false, .bool false, .bool false, .bool false, .bool false, .int .i64 0, .int .i64 0, .int .i64 0, .int .i64 0, .int .i64 0, .int .i64 0, .int .i64 0, .int .i64 0, .iface 51 (.agg #[.int .i64 2, .int .i64 0, .int .i64 0, .slice q1 y1 z1, .slice q2 y2 z2, .slice q3 y3 z3, .int .i64 0, .int .i64 0, .int .i64 0, .int .i64 0])] 45) := ⟨_, rfl⟩
        obtain ⟨b11, hb11⟩ : ∃ k, k = w16.heap.size := ⟨_, rfl⟩
        rw [← hw17, ← hb11]
        have hb17 : RowKit.Below w16.heap.size w16 w17 := by rw [hw17]; exact (Below.refl _ _).alloc (Nat.le_refl _) _
        have HM17 := Lib.hid (show w17.heap[b11]? = some (.cells #[.int .i64 0, .int .i64 0, .int .i64 0, .bool false, .bool false, .bool false, .bool false, .bool false, .int .i64 0, .int .i64 0, .int .i64 0, .int .i64 0, .int .i64 0, .int .i64 0, .int .i64 0, .int .i64 0, .iface 51 (.agg #[.int .i64 2, .int .i64 0, .int .i64 0, .slice q1 y1 z1, .slice q2 y2 z2, .slice q3 y3 z3, .int .i64 0, .int .i64 0, .int .i64 0, .int .i64 0])] 45 (0, 0)) from by rw [hw17, hb11]; exact heap_alloc_new w16 _)
        have HM9 := Lib.hid (show w17.heap[b9]? = some (.cells #[.int .i64 0, .int .i64 0, .int .i64 0, .bool false, .bool false, .bool false, .bool false, .bool false, .int .i64 0, .int .i64 0, .int .i64 0, .int .i64 0, .int .i64 0, .int .i64 0, .int .i64 0, .int .i64 0, .iface 37 (.agg #[.int .i64 1, .int .i64 tb, .int .i64 kd, .string ky, .string fi, .string va, .int .i64 ex, .int .i64 sp, .int .i64 sl, .int .i64 sw, .slice uo5 n uc5])] 45 (0, 0)) from by
          have h1 := hm16.trans HM15.out
          exact (hb17.block b9 (Array.getElem?_eq_some_iff.1 h1).1).trans h1)
        have HX17 := Lib.hid (show w17.heap[b2]? = some (.cells #[.int .i64 tb, .int .i64 kd, .string ky, .string fi, .string va, .int .i64 ex, .int .i64 sp, .int .i64 sl, .int .i64 sw, .slice xo n xc] 28 (0, 0)) from by
          have h1 := (hb16.block b2 hb2g).trans HX15.out
          exact (hb17.block b2 (Array.getElem?_eq_some_iff.1 h1).1).trans h1)
        have HL17 := Lib.hid (hl16.below hb17)
        have HN17 := Lib.hid (hn16.below hb17)
        have HB17 := Lib.hid (below_then (HB15.out.trans (hb16.mono hwg)) (Nat.le_refl _) hb17)
        have HO17 := Lib.hid (row_below (hk16.own HO15.out (by decide) (by decide)) hb17)
        clear hw17 hb11 hl16 hn16 hk16 hb16 hm16 hb17 HTK2
        go_wp2_with (first | (refine wpList_load_row rfl 45 (.tmp 9) rfl b9 rfl 45 #[.int .i64 0, .int .i64 0, .int .i64 0, .bool false, .bool false, .bool false, .bool false, .bool false, .int .i64 0, .int .i64 0, .int .i64 0, .int .i64 0, .int .i64 0, .int .i64 0, .int .i64 0, .int .i64 0, .iface 37 (.agg #[.int .i64 1, .int .i64 tb, .int .i64 kd, .string ky, .string fi, .string va, .int .i64 ex, .int .i64 sp, .int .i64 sl, .int .i64 sw, .slice uo5 n uc5])] (0, 0) _ HM9.out Tryz.underlying45 rfl size_Msg ?_))
        refine (saysW _ w17).mono ?_
        rintro e w18 ⟨rfl, hb18⟩
        have HB18 := Lib.hid hb18
        have HM18 := Lib.hid ((hb18.block b11 (Array.getElem?_eq_some_iff.1 HM17.out).1).trans HM17.out)
        clear hb18
        go_wp2_with (first | (refine load_row_w rfl 45 (.tmp 11) rfl b11 rfl 45 #[.int .i64 0, .int .i64 0, .int .i64 0, .bool false, .bool false, .bool false, .bool false, .bool false, .int .i64 0, .int .i64 0, .int .i64 0, .int .i64 0, .int .i64 0, .int .i64 0, .int .i64 0, .int .i64 0, .iface 51 (.agg #[.int .i64 2, .int .i64 0, .int .i64 0, .slice q1 y1 z1, .slice q2 y2 z2, .slice q3 y3 z3, .int .i64 0, .int .i64 0, .int .i64 0, .int .i64 0])] (0, 0) _ HM18.out Tryz.underlying45 rfl size_Msg ?_))
        refine (saysA _ w18).mono ?_
        rintro e w19 ⟨rfl, hb19⟩
        have HB19 := Lib.hid (below_then HB18.out (Nat.le_refl _) hb19)
        have HM19 := Lib.hid ((HB19.out.block b9 (Array.getElem?_eq_some_iff.1 HM9.out).1).trans HM9.out)
        have HX19 := Lib.hid ((HB19.out.block b2 (Array.getElem?_eq_some_iff.1 HX17.out).1).trans HX17.out)
        have r16 : w19.cell? ⟨b9, 16, none⟩ = some (.iface 37 (.agg #[.int .i64 1, .int .i64 tb, .int .i64 kd, .string ky, .string fi, .string va, .int .i64 ex, .int .i64 sp, .int .i64 sl, .int .i64 sw, .slice uo5 n uc5])) := by rw [cell_of_row w19 b9 16 _ _ (0, 0) HM19.out]; rfl
        have HWR2 := Lib.hid (wrote_any (⟨tb, kd, ky, fi, va, ex, ⟨sp, sl, sw⟩, O⟩ : Mu) (.slice uo5 n uc5) (.slice xo n xc) w19 (by
          have h1 := row_below HO17.out HB19.out
          rw [HN.out] at h1 ⊢
          exact Over.own (x := ((⟨tb, kd, ky, fi, va, ex, ⟨sp, sl, sw⟩, O⟩ : Mu), .slice uo5 O.length uc5)) h1) (HOX.out.below (below_then HB17.out (Nat.le_refl _) HB19.out)) hO2)
        unfold vW vM at HWR2
        simp only [] at HWR2
        clear hb19
        go_wp2_with (first | (refine load_row_w rfl 28 (.tmp 2) rfl b2 rfl 28 #[.int .i64 tb, .int .i64 kd, .string ky, .string fi, .string va, .int .i64 ex, .int .i64 sp, .int .i64 sl, .int .i64 sw, .slice xo n xc] (0, 0) _ HX19.out Tryz.underlying28 rfl size_M ?_))
        refine HWR2.out.mono ?_
        rintro e w20 ⟨rfl, hb20⟩
        have HB20 := Lib.hid (below_then HB19.out (Nat.le_refl _) hb20)
        have t16 : w20.cell? ⟨b11, 16, none⟩ = some (.iface 51 (.agg #[.int .i64 2, .int .i64 0, .int .i64 0, .slice q1 y1 z1, .slice q2 y2 z2, .slice q3 y3 z3, .int .i64 0, .int .i64 0, .int .i64 0, .int .i64 0])) := by rw [cell_of_row w20 b11 16 _ _ (0, 0) ((HB20.out.block b11 (Array.getElem?_eq_some_iff.1 HM17.out).1).trans HM17.out)]; rfl
        have HTO := Lib.hid (told_any c 20 (.slice q1 y1 z1) (.slice q2 y2 z2) (.slice q3 y3 z3) (.slice lo na lc) la w20 (HT.out.below (below_then HB17.out (Nat.le_refl _) HB20.out)) (HL17.out.below HB20.out) HGD.out (HRA.out.below (below_then HB17.out (Nat.le_refl _) HB20.out)) (by omega) sA HCE.out.symm)
        unfold vA at HTO
        clear r16 hb20 HWR2
        go_wp2_with fail
        refine HTO.out.mono ?_
        rintro e w21 ⟨rfl, hb21⟩
        have HB21 := Lib.hid (below_then HB20.out (Nat.le_refl _) hb21)
        have HLE := Lib.hid (show Calls Tryz.prog 15 #[.pointer (some ⟨g, 0, none⟩)] w21 (fun e w' => e = .returned (.int .i64 0) ∧ w21 = w') from len_any g (g + 1) v6 [] w21 (HN17.out.below HB21.out))
        clear hb21 t16 HTO
        go_wp2_with fail
        refine HLE.out.mono ?_
        rintro e w22 ⟨rfl, hw22⟩
        subst hw22
        go_wp2_with fail
        refine (NetW.alive_any w21).mono ?_
        rintro e w23 ⟨rfl, hb23⟩
        have HBF := Lib.hid (below_then (below_then HB17.out (Nat.le_refl _) HB21.out) (Nat.le_refl _) hb23)
        clear hb23
        go_wp2_with fail
        go_ret
        exact ⟨rfl, HBF.out⟩
end Go.Proofs.YtemckpmedjennaaGreatDoor.NetG
