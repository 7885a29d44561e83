/- slices.Clone at messages; net.Net.Take of the first message (layer 22). PRINTED by wip/gennettake.py. -/
import Derived.Test.YtemckpmedjennaaGreatDoorNetMsg
import Derived.Test.YtemckpmedjennaaGreatDoorMsgIns
set_option linter.unusedSimpArgs false
set_option linter.unusedVariables false
namespace Go.Proofs.YtemckpmedjennaaGreatDoor.NetG
open Go.RowKit Go.Proofs.YtemckpmedjennaaGreatDoor.Spare Go.Proofs.YtemckpmedjennaaGreatDoor.RegInv

theorem flatB_one (L : List Ms) : ∀ u ∈ L.flatMap enB, u.oneCell' = true := by
  intro u hu
  obtain ⟨x, _, hx⟩ := List.mem_flatMap.1 hu
  exact enB_one x u hx
set_option maxHeartbeats 2000000 in
set_option maxRecDepth 100000 in
theorem cloneMsg_any (base : Nat) (v : Value) (L : List Ms) (w : World) (h : w.ownsRow base 45 17 v L.length (L.flatMap enB)) (hl : 0 < L.length) (hn : L.length ≤ 1000) :
    Calls Tryz.prog 43 #[v] w fun e w' => ∃ v', e = .returned v' ∧ w'.ownsRow w.heap.size 45 17 v' L.length (L.flatMap enB) ∧ Below w.heap.size w w' := by
  have q22 : ∀ (w : World) (a : Option Addr) (n c n' c' : Nat), (binOp .eql 32 (.slice a n c) (.slice none n' c')).run Tryz.prog w = .ok (.bool a.isNone) w := fun w a n c n' c' => Lib.run_eql_slice_nil w _ _ a n c n' c' Tryz.underlying32
  obtain ⟨i0, hi0, hz0, hz1, hz2⟩ := info_msg
  have HI := Lib.hid (And.intro hi0 (And.intro hz0 (And.intro hz1 hz2)))
  obtain ⟨g, cap, rfl⟩ : ∃ g cap, v = .slice (some ⟨g, 0, none⟩) L.length cap := by
    rcases h.2 with ⟨_, h0⟩ | ⟨g, cap, cur, rfl, _⟩
    · omega
    · exact ⟨g, cap, rfl⟩
  obtain ⟨n, hnn⟩ : ∃ n, n = L.length := ⟨_, rfl⟩
  have HC := Lib.hid (fun j u hj => (ownB_below h ((Below.refl _ w).alloc (Nat.le_refl _) (.cells #[] 45))).cells (g := g) rfl j u hj)
  rw [← hnn] at hl hn ⊢
  have HN := Lib.hid hnn
  clear h hi0 hz0 hz1 hz2 hnn
  go_enter Tryz.func43, Tryz.ntmps43
  go_wp2_with (at_builtin; refine wpList_append_own _ rfl _ _ 32 rfl w.heap.size 45 i0 (.agg zB.toArray) 17 112 Tryz.underlying32 HI.out.1 HI.out.2.1 HI.out.2.2.1 HI.out.2.2.2 rfl (by decide) _ _ _ rfl (World.ownsRow_made w #[] 0 (Nat.le_refl _) (Nat.zero_le _) (by simp)) ⟨g, 0, none⟩ n cap (L.flatMap enB) rfl ?qc1 ?qc2 ?qc3 ?qc4 ?qc5 ?qc6 ?_)
  case qc1 => rw [HN.out]; exact flatMap_len enB_len L
  case qc2 => exact HC.out
  case qc3 => exact flatB_one L
  case qc4 => unfold maxLen; omega
  case qc5 => omega
  case qc6 => simp
  intro v' w1 hown hgrow _
  have HE := Lib.hid (show w1.ownsRow w.heap.size 45 17 v' n (L.flatMap enB) ∧ Below w.heap.size w w1 from ⟨by simpa using hown, ((Below.refl _ w).alloc (Nat.le_refl _) _).grown hgrow (by simp) (by intro k hk; simp [Value.ownBlock] at hk; omega)⟩)
  clear hown hgrow
  go_wp2_with fail
  go_ret
  exact ⟨_, rfl, HE.out.1, HE.out.2⟩

/-- Behind Take of the first message. -/
def TakeP (Q : Value → World → Prop) (x : Ms) (g base : Nat) (L : List Ms) (w : World) (e : Ending) (w' : World) : Prop :=
  (∃ V' w1, e = .returned (.tuple #[vBeat ⟨x.f, x.T, V'⟩, .bool true]) ∧ Q V' w1 ∧ Below w.heap.size w w1 ∧ KeepR w1 w') ∧ (∃ v', NetAt w' g base v' L) ∧ Below g w w' ∧ ∀ i, i < w.heap.size → i ≠ g → w'.heap[i]? = w.heap[i]?

set_option maxHeartbeats 8000000 in
set_option maxRecDepth 100000 in
theorem take_any (Q : Value → World → Prop) (x : Ms) (g base : Nat) (v : Value) (L : List Ms) (w : World) (h : NetAt w g base v (x :: L)) (hn : L.length < 100)
    (hcall : ∀ W, Below w.heap.size w W → Calls Tryz.prog 38 #[.iface x.T x.V] W fun e w' => ∃ V', e = .returned (.iface x.T V') ∧ Q V' w' ∧ Below W.heap.size W w') :
    Calls Tryz.prog 12 #[.pointer (some ⟨g, 0, none⟩), .int .i64 0] w (TakeP Q x g base L w) := by
  have hgl : g < w.heap.size := Nat.lt_of_lt_of_le h.lt h.low
  have HPL := Lib.hid (fun (W : World) (hh : NetAt W g base v (x :: L)) => place_zero g base v (x :: L) W hh (by simp) (by simp; omega))
  have HAT := Lib.hid (fun (W : World) (hb : Below w.heap.size w W) => at_any Q 0 0 x g base v (x :: L) W (h.below hb) rfl (by simp; omega) (fun W' hh => HPL.out W' hh) (fun W' hb' => hcall W' (below_then hb (Nat.le_refl _) hb')))
  obtain ⟨W, hW⟩ : ∃ W, W = w.alloc (.cells #[.int .i64 0, .int .i64 0, .int .i64 0, .bool false, .bool false, .bool false, .bool false, .bool false, .int .i64 0, .int .i64 0, .int .i64 0, .int .i64 0, .int .i64 0, .int .i64 0, .int .i64 0, .int .i64 0, .nilIface] 45) := ⟨_, rfl⟩
  obtain ⟨k, hk⟩ : ∃ k, k = w.heap.size := ⟨_, rfl⟩
  have hbW : Below w.heap.size w W := by rw [hW]; exact (Below.refl _ _).alloc (Nat.le_refl _) _
  have hm : W.heap[k]? = some (.cells #[.int .i64 0, .int .i64 0, .int .i64 0, .bool false, .bool false, .bool false, .bool false, .bool false, .int .i64 0, .int .i64 0, .int .i64 0, .int .i64 0, .int .i64 0, .int .i64 0, .int .i64 0, .int .i64 0, .nilIface] 45 (0, 0)) := by rw [hW, hk]; exact heap_alloc_new w _
  have HW := Lib.hid hW
  have HM := Lib.hid hm
  have HBW := Lib.hid hbW
  have HK := Lib.hid hk
  have HL := Lib.hid h.low
  have hgb : g < base := h.lt
  clear h hcall hW hk hbW hm
  go_enter Tryz.func12, Tryz.ntmps12
  go_upto_region 1 with fail
  rw [← HW.out, ← HK.out]
  go_wp2_with fail
  refine (HAT.out W HBW.out).mono ?_
  rintro e w1 ⟨⟨V', w0, rfl, hq0, hb0, hk0⟩, hn1, hb1⟩
  obtain ⟨y, hy⟩ : ∃ y : Ms, y = ⟨x.f, x.T, V'⟩ := ⟨_, rfl⟩
  rw [← hy]
  have HY := Lib.hid hy
  have HQ0 := Lib.hid (And.intro hq0 (And.intro hb0 hk0))
  have HN1 := Lib.hid hn1
  have HB1 := Lib.hid (below_then HBW.out (Nat.le_refl _) hb1)
  have HM1 := Lib.hid ((hb1.block k (Array.getElem?_eq_some_iff.1 HM.out).1).trans HM.out)
  clear hy hq0 hb0 hk0 hn1 hb1
  go_upto_region 2 with fail
  obtain ⟨W2, hW2⟩ : ∃ W, W = w1.alloc (.cells #[.int .i64 y.f, .int .i64 0, .int .i64 0, .bool false, .bool false, .bool false, .bool false, .bool false, .int .i64 0, .int .i64 0, .int .i64 0, .int .i64 0, .int .i64 0, .int .i64 0, .int .i64 0, .int .i64 0, .iface y.T y.V] 45) := ⟨_, rfl⟩
  obtain ⟨q, hq⟩ : ∃ k, k = w1.heap.size := ⟨_, rfl⟩
  rw [← hW2, ← hq]
  have hb2 : Below w1.heap.size w1 W2 := by rw [hW2]; exact (Below.refl _ _).alloc (Nat.le_refl _) _
  have HMQ := Lib.hid (show MsgAt W2 q y from by rw [hW2, hq]; exact MsgAt.new w1 y)
  have HN2 := Lib.hid (HN1.out.below hb2)
  have HB2 := Lib.hid (below_then HB1.out (Nat.le_refl _) hb2)
  have HM2 := Lib.hid ((hb2.block k (Array.getElem?_eq_some_iff.1 HM1.out).1).trans HM1.out)
  have HK2 := Lib.hid (show KeepR w1 W2 from KeepR.below hb2)
  have hkq : k < q := by rw [hq]; exact (Array.getElem?_eq_some_iff.1 HM1.out).1
  clear hW2 hq hb2
  go_wp2_with fail
  refine (HPL.out W2 HN2.out).mono ?_
  rintro e w3 ⟨rfl, h1⟩
  subst h1
  obtain ⟨gv, gc, hv⟩ : ∃ gv gc, v = .slice (some ⟨gv, 0, none⟩) (L.length + 1) gc := by
    rcases HN2.out.own.2 with ⟨_, h0⟩ | ⟨gv, gc, cur, e, _⟩
    · simp at h0
    · exact ⟨gv, gc, e⟩
  obtain ⟨n, hnn⟩ : ∃ n, n = L.length := ⟨_, rfl⟩
  have HNN := Lib.hid hnn
  rw [← hnn] at hv hn
  subst hv
  have c0 := HN2.out.c0
  have HCL := Lib.hid (show Calls Tryz.prog 43 #[.slice (some ⟨gv, 0, none⟩) (n + 1) gc] W2 (fun e w' => ∃ v', e = .returned v' ∧ w'.ownsRow W2.heap.size 45 17 v' (n + 1) ((x :: L).flatMap enB) ∧ Below W2.heap.size W2 w') from by
    have h := cloneMsg_any base _ (x :: L) W2 HN2.out.own (by simp) (by simp; omega)
    rw [List.length_cons, ← HNN.out] at h
    exact h)
  clear hnn
  go_wp2_with fail
  refine HCL.out.mono ?_
  rintro e w4 ⟨v4, rfl, ho4, hb4⟩
  obtain ⟨g4, c4, hv4, hg4⟩ : ∃ g4 c4, v4 = .slice (some ⟨g4, 0, none⟩) (n + 1) c4 ∧ W2.heap.size ≤ g4 := by
    rcases ho4.2 with ⟨_, h0⟩ | ⟨g4, c4, cur, e, hb, _⟩
    · simp at h0
    · exact ⟨g4, c4, e, hb⟩
  subst hv4
  have HDL := Lib.hid (show Calls Tryz.prog 42 #[.slice (some ⟨g4, 0, none⟩) (n + 1) c4, .int .i64 0, .int .i64 1] w4 (fun e w' => e = .returned (.slice (some ⟨g4, 0, none⟩) n c4) ∧ w'.ownsRow W2.heap.size 45 17 (.slice (some ⟨g4, 0, none⟩) n c4) n (L.flatMap enB) ∧ w4.grownBy w' (some g4)) from by
    have h := SlMsg.delete_any W2.heap.size g4 (n + 1) c4 0 ((x :: L).flatMap enB) w4 ho4 (by omega) (flatB_one _)
    simp only [SlMsg.DelPost, List.flatMap_cons] at h
    rw [show (enB x ++ L.flatMap enB).take (0 * 17) ++ (enB x ++ L.flatMap enB).drop ((0 + 1) * 17) = L.flatMap enB from by
      rw [Nat.zero_mul, List.take_zero, List.nil_append, List.drop_append, List.drop_of_length_le (by rw [enB_len]; decide), enB_len]; simp] at h
    exact h)
  have HB4 := Lib.hid hb4
  have HN4 := Lib.hid (HN2.out.below hb4)
  clear ho4 hb4 c0
  go_wp2_with fail
  refine HDL.out.mono ?_
  rintro e w5 ⟨rfl, ho5, hg5⟩
  have hs2 := HN2.out.low
  have h2k : k < W2.heap.size := (Array.getElem?_eq_some_iff.1 HM2.out).1
  have h2q : q < W2.heap.size := HMQ.out.lt
  have hgk' : g < k := by rw [HK.out]; exact hgl
  have HN5 := Lib.hid (HN4.out.beside hg5 (by omega) (fun e => by have h := (HN2.out.own.lt _ e).2; omega))
  have HB25 := Lib.hid (show Below W2.heap.size W2 w5 from HB4.out.grown hg5 HB4.out.size (fun j hj => by cases hj; exact hg4))
  have HO5 := Lib.hid ho5
  have c0 := HN5.out.c0
  have f0 := HN5.out.f0
  clear ho5 hg5
  go_upto_region 5 with fail
  obtain ⟨W6, hW6⟩ : ∃ W, W = w5.setCell ⟨g, 0, none⟩ (.slice (some ⟨g4, 0, none⟩) n c4) := ⟨_, rfl⟩
  rw [← hW6]
  have hgg : w5.grownBy W6 (some g) := by rw [hW6]; exact grown_setCell (World.grownBy.refl _ _) (Or.inl rfl) _
  have HN6 := Lib.hid (show NetAt W6 g base (.slice (some ⟨g4, 0, none⟩) n c4) L from by
    obtain ⟨p1, p2, p3, p4, p5, p6, p7, p8⟩ := HN5.out
    have h7 := HO5.out.kept hgg (Or.inr (fun e => by have e2 : g4 = g := (by simpa [Value.ownBlock] using e); omega))
    refine ⟨p1, by rw [hW6]; simpa using p2, by rw [hW6]; go_simp, by rw [hW6]; go_simp, by rw [hW6]; go_simp, by rw [hW6]; go_simp, ?_, p8.elim fun cur ht => ⟨_, by rw [hW6]; exact heap_setCell_same w5 g 0 _ _ _ ht⟩⟩
    rw [← HNN.out]
    exact own_base h7 hs2)
  have HK6 := Lib.hid (show KeepR w5 W6 from KeepR.grown hgg HN5.out.tg.choose_spec (Or.inr rfl))
  have HM6 := Lib.hid (show W6.heap[k]? = some (.cells #[.int .i64 0, .int .i64 0, .int .i64 0, .bool false, .bool false, .bool false, .bool false, .bool false, .int .i64 0, .int .i64 0, .int .i64 0, .int .i64 0, .int .i64 0, .int .i64 0, .int .i64 0, .int .i64 0, .nilIface] 45 (0, 0)) from (hgg.block k (Nat.lt_of_lt_of_le h2k HB25.out.size) (by simp; omega)).trans ((HB25.out.block k h2k).trans HM2.out))
  have HQ6 := Lib.hid (show MsgAt W6 q y from (hgg.block q (Nat.lt_of_lt_of_le h2q HB25.out.size) (by simp; omega)).trans ((HB25.out.block q h2q).trans HMQ.out))
  have HG6 := Lib.hid hgg
  clear hW6 hgg c0 f0
  have hm8 : MsgAt (W6.setRow k (enB y).toArray) k y := by unfold MsgAt; exact setRow_heap _ _ _ _ _ _ HM6.out
  have hgk : W6.grownBy (W6.setRow k (enB y).toArray) (some k) := ⟨rfl, rfl, rfl, by simp, fun i _ hi => setRow_other W6 k i _ (fun e => hi (by rw [e]))⟩
  have HM8 := Lib.hid hm8
  have HN8 := Lib.hid (HN6.out.beside hgk (by have := HK.out; omega) (fun e => by have e2 : g4 = k := (by simpa [Value.ownBlock] using e); omega))
  have HGK := Lib.hid hgk
  have HF := Lib.hid (show (∃ V' w1, Ending.returned (.tuple #[vBeat y, .bool true]) = .returned (.tuple #[vBeat ⟨x.f, x.T, V'⟩, .bool true]) ∧ Q V' w1 ∧ Below w.heap.size w w1 ∧ KeepR w1 (W6.setRow k (enB y).toArray)) ∧ Below g w (W6.setRow k (enB y).toArray) ∧ ∀ i, i < w.heap.size → i ≠ g → (W6.setRow k (enB y).toArray).heap[i]? = w.heap[i]? from by
    refine ⟨⟨V', w0, by rw [HY.out], HQ0.out.1, below_then HBW.out (Nat.le_refl _) HQ0.out.2.1, HQ0.out.2.2.trans (HK2.out.trans ((KeepR.below HB25.out).trans (HK6.out.trans (keep_setRow HM6.out _))))⟩, ?_, ?_⟩
    · have h1 : Below g w w5 := (below_then HB2.out (Nat.le_refl _) HB25.out).mono (by omega)
      exact (h1.grown HG6.out (by have := h1.size; omega) (fun j hj => by cases hj; exact Nat.le_refl _)).grown hgk (by have := h1.size; have := HG6.out.size; omega) (fun j hj => by cases hj; have := HK.out; omega)
    · intro i hi hig
      have h1 := HB2.out.block i hi
      have hi2 : i < W2.heap.size := Nat.lt_of_lt_of_le hi HB2.out.size
      have h2 := HB25.out.block i hi2
      have h3 := HG6.out.block i (Nat.lt_of_lt_of_le hi2 HB25.out.size) (by simpa using hig)
      have h4 := hgk.block i (Nat.lt_of_lt_of_le (Nat.lt_of_lt_of_le hi2 HB25.out.size) HG6.out.size) (by simp; have := HK.out; omega)
      exact h4.trans (h3.trans (h2.trans h1)))
  clear hm8 hgk
  go_wp2_with (first
    | (refine wpList_load_row rfl 45 _ rfl q rfl 45 (enB y).toArray (0, 0) _ HQ6.out Tryz.underlying45 rfl (size_B y) ?_)
    | (refine wpList_store_row rfl 45 _ _ rfl k (enB y).toArray rfl rfl 45 #[.int .i64 0, .int .i64 0, .int .i64 0, .bool false, .bool false, .bool false, .bool false, .bool false, .int .i64 0, .int .i64 0, .int .i64 0, .int .i64 0, .int .i64 0, .int .i64 0, .int .i64 0, .int .i64 0, .nilIface] HM6.out (size_B y) rfl (oneB y) ?_))
  have u0 : (W6.setRow k (enB y).toArray).cell? ⟨k, 0, none⟩ = some (.int .i64 y.f) := HM8.out.cell 0
  have u1 : (W6.setRow k (enB y).toArray).cell? ⟨k, 1, none⟩ = some (.int .i64 0) := HM8.out.cell 1
  have u2 : (W6.setRow k (enB y).toArray).cell? ⟨k, 2, none⟩ = some (.int .i64 0) := HM8.out.cell 2
  have u3 : (W6.setRow k (enB y).toArray).cell? ⟨k, 3, none⟩ = some (.bool false) := HM8.out.cell 3
  have u4 : (W6.setRow k (enB y).toArray).cell? ⟨k, 4, none⟩ = some (.bool false) := HM8.out.cell 4
  have u5 : (W6.setRow k (enB y).toArray).cell? ⟨k, 5, none⟩ = some (.bool false) := HM8.out.cell 5
  have u6 : (W6.setRow k (enB y).toArray).cell? ⟨k, 6, none⟩ = some (.bool false) := HM8.out.cell 6
  have u7 : (W6.setRow k (enB y).toArray).cell? ⟨k, 7, none⟩ = some (.bool false) := HM8.out.cell 7
  have u8 : (W6.setRow k (enB y).toArray).cell? ⟨k, 8, none⟩ = some (.int .i64 0) := HM8.out.cell 8
  have u9 : (W6.setRow k (enB y).toArray).cell? ⟨k, 9, none⟩ = some (.int .i64 0) := HM8.out.cell 9
  have u10 : (W6.setRow k (enB y).toArray).cell? ⟨k, 10, none⟩ = some (.int .i64 0) := HM8.out.cell 10
  have u11 : (W6.setRow k (enB y).toArray).cell? ⟨k, 11, none⟩ = some (.int .i64 0) := HM8.out.cell 11
  have u12 : (W6.setRow k (enB y).toArray).cell? ⟨k, 12, none⟩ = some (.int .i64 0) := HM8.out.cell 12
  have u13 : (W6.setRow k (enB y).toArray).cell? ⟨k, 13, none⟩ = some (.int .i64 0) := HM8.out.cell 13
  have u14 : (W6.setRow k (enB y).toArray).cell? ⟨k, 14, none⟩ = some (.int .i64 0) := HM8.out.cell 14
  have u15 : (W6.setRow k (enB y).toArray).cell? ⟨k, 15, none⟩ = some (.int .i64 0) := HM8.out.cell 15
  have u16 : (W6.setRow k (enB y).toArray).cell? ⟨k, 16, none⟩ = some (.iface y.T y.V) := HM8.out.cell 16
  refine bodyPost_ret (v := .tuple #[vBeat y, .bool true]) (by simp [results, Tryz.f12, go_sem, u0, u1, u2, u3, u4, u5, u6, u7, u8, u9, u10, u11, u12, u13, u14, u15, u16]) rfl ⟨HF.out.1, ⟨_, HN8.out⟩, HF.out.2.1, HF.out.2.2⟩
end Go.Proofs.YtemckpmedjennaaGreatDoor.NetG
