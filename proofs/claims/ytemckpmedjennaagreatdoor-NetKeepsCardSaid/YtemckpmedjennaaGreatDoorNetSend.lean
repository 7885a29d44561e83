/- net.Net at messages that say 'beat': Send, place, At, Double, Len (layer 22). PRINTED by wip/gennetsend.py. -/
import Derived.Test.YtemckpmedjennaaGreatDoorNetOwn
import Derived.Test.YtemckpmedjennaaGreatDoorRegLin
import Derived.Test.YtemckpmedjennaaGreatDoorAppendLoc
import Derived.Laws.Rows
set_option linter.unusedSimpArgs false
set_option linter.unusedVariables false
namespace Go.Proofs.YtemckpmedjennaaGreatDoor.NetW
open Go.RowKit Go.Proofs.YtemckpmedjennaaGreatDoor.Spare Go.Proofs.YtemckpmedjennaaGreatDoor.RegInv

def enB (a : Int) : List Value := [.int .i64 a, .int .i64 0, .int .i64 0, .bool false, .bool false, .bool false, .bool false, .bool false, .int .i64 0, .int .i64 0, .int .i64 0, .int .i64 0, .int .i64 0, .int .i64 0, .int .i64 0, .int .i64 0, bBeat]
def zB : List Value := [.int .i64 0, .int .i64 0, .int .i64 0, .bool false, .bool false, .bool false, .bool false, .bool false, .int .i64 0, .int .i64 0, .int .i64 0, .int .i64 0, .int .i64 0, .int .i64 0, .int .i64 0, .int .i64 0, .nilIface]
abbrev vBeat (a : Int) : Value := .agg #[.int .i64 a, .int .i64 0, .int .i64 0, .bool false, .bool false, .bool false, .bool false, .bool false, .int .i64 0, .int .i64 0, .int .i64 0, .int .i64 0, .int .i64 0, .int .i64 0, .int .i64 0, .int .i64 0, bBeat]
theorem enB_len (a : Int) : (enB a).length = 17 := rfl
theorem enB_one (a : Int) : ∀ u ∈ enB a, u.oneCell' = true := by
  intro u hu
  simp only [enB, List.mem_cons, List.not_mem_nil, or_false] at hu
  rcases hu with rfl | rfl | rfl | rfl | rfl | rfl | rfl | rfl | rfl | rfl | rfl | rfl | rfl | rfl | rfl | rfl | rfl <;> rfl
theorem info_Msg : (Tryz.prog.info? 45).map (fun i => (i.zero, i.size, i.bytes)) = some (some (.agg zB.toArray), 17, 112) := by kernel_rfl
theorem info_msg : ∃ i : TypeInfo, Tryz.prog.info? 45 = some i ∧ i.zero = some (.agg zB.toArray) ∧ i.size = 17 ∧ i.bytes = 112 := by
  have h := info_Msg
  cases hq : Tryz.prog.info? 45 with
  | none => simp [hq] at h
  | some i => simp [hq] at h; exact ⟨i, rfl, h.1, h.2.1, h.2.2⟩
theorem size_Msg : (Tryz.prog.info? 45).map (·.size) = some 17 := by kernel_rfl
/-- A variable that holds that message. -/
def MsgAt (w : World) (k : Nat) (a : Int) : Prop := w.heap[k]? = some (.cells (enB a).toArray 45 (0, 0))
theorem MsgAt.lt {w : World} {k : Nat} {a : Int} (h : MsgAt w k a) : k < w.heap.size := (Array.getElem?_eq_some_iff.1 h).1
theorem MsgAt.below {w w' : World} {k : Nat} {a : Int} (h : MsgAt w k a) (hb : Below w.heap.size w w') : MsgAt w' k a := (hb.block k h.lt).trans h
theorem MsgAt.kept {w w' : World} {k : Nat} {a : Int} {row : Option Nat} (h : MsgAt w k a) (hg : w.grownBy w' row) (hne : some k ≠ row) : MsgAt w' k a := (hg.block k h.lt hne).trans h
theorem MsgAt.new (w : World) (a : Int) : MsgAt (w.alloc (.cells #[.int .i64 a, .int .i64 0, .int .i64 0, .bool false, .bool false, .bool false, .bool false, .bool false, .int .i64 0, .int .i64 0, .int .i64 0, .int .i64 0, .int .i64 0, .int .i64 0, .int .i64 0, .int .i64 0, bBeat] 45)) w.heap.size a := heap_alloc_new w _
theorem MsgAt.cell {w : World} {k : Nat} {a : Int} (h : MsgAt w k a) (j : Nat) : w.cell? ⟨k, j, none⟩ = (enB a)[j]? := by
  rw [cell_of_row w k j _ _ (0, 0) h]
  simp
theorem MsgAt.body {w : World} {k : Nat} {a : Int} (h : MsgAt w k a) : MsgAt (w.setCell ⟨k, 16, none⟩ bBeat) k a := by
  have h2 := heap_setCell_same w k 16 (enB a).toArray _ bBeat h
  unfold MsgAt
  rw [h2]
  rfl
/-- A net that has these messages under way, none lost. -/
structure NetAt (w : World) (g base : Nat) (v : Value) (L : List Int) : Prop where
  lt : g < base
  low : base ≤ w.heap.size
  c0 : w.cell? ⟨g, 0, none⟩ = some v
  c1 : w.cell? ⟨g, 1, none⟩ = some (.int .i64 0)
  f0 : w.frozen? ⟨g, 0, none⟩ = false
  f1 : w.frozen? ⟨g, 1, none⟩ = false
  own : w.ownsRow base 45 17 v L.length (L.flatMap enB)
theorem ownB_below {w w' : World} {base n : Nat} {v : Value} {xs : List Value} (h : w.ownsRow base 45 17 v n xs) (hb : Below w.heap.size w w') : w'.ownsRow base 45 17 v n xs :=
  World.ownsRow.kept h (row := none) ⟨hb.os, hb.tape, hb.output, hb.size, fun k hk _ => hb.block k hk⟩ (by cases v.ownBlock <;> simp)
theorem NetAt.below {w w' : World} {g base : Nat} {v : Value} {L : List Int} (h : NetAt w g base v L) (hb : Below w.heap.size w w') : NetAt w' g base v L := by
  have hg : g < w.heap.size := Nat.lt_of_lt_of_le h.lt h.low
  exact ⟨h.lt, Nat.le_trans h.low hb.size, (hb.cell (p := ⟨g, 0, none⟩) hg).trans h.c0, (hb.cell (p := ⟨g, 1, none⟩) hg).trans h.c1, (hb.frozen (p := ⟨g, 0, none⟩) hg).trans h.f0, (hb.frozen (p := ⟨g, 1, none⟩) hg).trans h.f1, ownB_below h.own hb⟩
theorem grown_und {a b c : World} {row : Option Nat} (h : a.grownBy b row) (hb : Below b.heap.size b c) : a.grownBy c row :=
  h.andThen (row' := none) ⟨hb.os, hb.tape, hb.output, hb.size, fun k hk _ => hb.block k hk⟩ (fun j hj => by cases hj)
theorem NetAt.beside {w w' : World} {g base k : Nat} {v : Value} {L : List Int} (h : NetAt w g base v L) (hg : w.grownBy w' (some k)) (hk : g ≠ k) (ho : v.ownBlock ≠ some k) : NetAt w' g base v L := by
  have hgl : g < w.heap.size := Nat.lt_of_lt_of_le h.lt h.low
  have hb := hg.block g hgl (fun e => hk (by simpa using e))
  exact ⟨h.lt, Nat.le_trans h.low hg.size, (World.cell?_of_block (a := ⟨g, 0, none⟩) hb).trans h.c0, (World.cell?_of_block (a := ⟨g, 1, none⟩) hb).trans h.c1, (World.frozen?_of_block hb).trans h.f0, (World.frozen?_of_block hb).trans h.f1, h.own.kept hg (by cases hv : v.ownBlock with | none => exact Or.inl rfl | some q => exact Or.inr (by rw [← hv]; exact ho))⟩
def sNewB (a : Int) : RSpec := sOne (fun v W => ∃ g, v = .slice (some ⟨g, 0, none⟩) 1 1 ∧ g < W.heap.size ∧ ∀ j u, (enB a)[j]? = some u → W.cell? ⟨g, j, none⟩ = some u) (fun _ _ _ h hb => by
  obtain ⟨g, h1, h2, h3⟩ := h
  exact ⟨g, h1, Nat.lt_of_lt_of_le h2 hb.size, fun j u hu => (World.cell?_of_block (a := ⟨g, j, none⟩) (hb.block g h2)).trans (h3 j u hu)⟩)
theorem new_beat (W : World) (a : Int) : ∀ (j : Nat) (u : Value), (enB a)[j]? = some u → (W.alloc (.cells #[.int .i64 a, .int .i64 0, .int .i64 0, .bool false, .bool false, .bool false, .bool false, .bool false, .int .i64 0, .int .i64 0, .int .i64 0, .int .i64 0, .int .i64 0, .int .i64 0, .int .i64 0, .int .i64 0, bBeat] 45)).cell? ⟨W.heap.size, j, none⟩ = some u := fun j u hu => by rw [(MsgAt.new W a).cell]; exact hu
theorem news_beat {w : World} {g : Nat} {a : Int} (h : ∀ j u, (enB a)[j]? = some u → w.cell? ⟨g, j, none⟩ = some u) : ∀ (j : Nat) (u : Value), (enB a)[j]? = some u → w.cell? ((⟨g, 0, none⟩ : Addr).add j) = some u := by
  intro j u hu
  rw [addr_add, Nat.zero_add]
  exact h j u hu

set_option maxHeartbeats 8000000 in
set_option maxRecDepth 100000 in
theorem send_beat (a : Int) (g base : Nat) (v : Value) (L : List Int) (w : World) (h : NetAt w g base v L) (hL : L.length < 100) :
    Calls Tryz.prog 7 #[.pointer (some ⟨g, 0, none⟩), vBeat a] w fun e w' => e = .returned (.bool true) ∧ (∃ v', NetAt w' g base v' (L ++ [a])) ∧ Below g w w' ∧ ∀ i, i < w.heap.size → i ≠ g → v.ownBlock ≠ some i → w'.heap[i]? = w.heap[i]? := by
  obtain ⟨ao, ac, rfl⟩ := row_form h.own
  obtain ⟨n, hn⟩ : ∃ n, n = L.length := ⟨_, rfl⟩
  have hown := h.own
  have hh : NetAt w g base (.slice ao n ac) L := by rw [hn]; exact h
  clear h
  have h := hh
  clear hh
  rw [← hn] at hL hown
  have HN := Lib.hid hn
  have HA := Lib.hid h
  obtain ⟨W, hW⟩ : ∃ W, W = w.alloc (.cells #[.int .i64 a, .int .i64 0, .int .i64 0, .bool false, .bool false, .bool false, .bool false, .bool false, .int .i64 0, .int .i64 0, .int .i64 0, .int .i64 0, .int .i64 0, .int .i64 0, .int .i64 0, .int .i64 0, bBeat] 45) := ⟨_, rfl⟩
  obtain ⟨k, hk⟩ : ∃ k, k = w.heap.size := ⟨_, rfl⟩
  have hbW : Below w.heap.size w W := by rw [hW]; exact (Below.refl _ _).alloc (Nat.le_refl _) _
  have hm : MsgAt W k a := by rw [hW, hk]; exact MsgAt.new w a
  have hA1 := h.below hbW
  have hgk : g < k := by rw [hk]; exact Nat.lt_of_lt_of_le h.lt h.low
  have hbk : base ≤ k := by rw [hk]; exact h.low
  have HW := Lib.hid hW
  have HM := Lib.hid hm
  have HA1 := Lib.hid hA1
  have HBW := Lib.hid hbW
  have HK := Lib.hid hk
  obtain ⟨-, -, c0, c1, f0, f1, -⟩ := hA1
  have m16 : W.cell? ⟨k, 16, none⟩ = some bBeat := hm.cell 16
  obtain ⟨i0, hi0, hz0, hz1, hz2⟩ := info_msg
  have HI := Lib.hid (And.intro hi0 (And.intro hz0 (And.intro hz1 hz2)))
  have HOB := Lib.hid own_beat
  clear hn h hown hW hk hbW hm hi0 hz0 hz1 hz2
  go_enter Tryz.func7, Tryz.ntmps7
  go_upto_region 1 with fail
  rw [← HW.out, ← HK.out]
  go_wp2_with fail
  refine (HOB.out _).mono ?_
  rintro e w1 ⟨rfl, hb1⟩
  have HA2 := Lib.hid (HA1.out.below hb1)
  have HM2 := Lib.hid (HM.out.below hb1)
  have HB2 := Lib.hid (below_then HBW.out (Nat.le_refl _) hb1)
  have q16 : w1.frozen? ⟨k, 16, none⟩ = false := frozen_of_row w1 k 16 _ _ HM2.out
  have p16 : w1.cell? ⟨k, 16, none⟩ = some bBeat := HM2.out.cell 16
  clear hb1 m16 c0 c1 f0 f1
  go_upto_region 5 with fail
  have hset : w1.grownBy (w1.setCell ⟨k, 16, none⟩ bBeat) (some k) := grown_setCell (World.grownBy.refl _ _) (Or.inl rfl) _
  obtain ⟨W6, hW6⟩ : ∃ W6, W6 = w1.setCell ⟨k, 16, none⟩ bBeat := ⟨_, rfl⟩
  have hA6 : NetAt W6 g base (.slice ao n ac) L := by
    rw [hW6]
    exact HA2.out.beside hset (by omega) (fun e => by have := (HA1.out.own.lt k e).2; have h2 := (HA.out.own.lt k e).2; rw [← HK.out] at h2; omega)
  have hM6 : MsgAt W6 k a := by rw [hW6]; exact HM2.out.body
  have hB6 : Below k w W6 := by
    rw [hW6, HK.out]
    exact HB2.out.setCell (p := ⟨w.heap.size, 16, none⟩) (Nat.le_refl _) _
  rw [← hW6]
  have HA6 := Lib.hid hA6
  have HM6 := Lib.hid hM6
  have HB6 := Lib.hid hB6
  have hbz6 : base ≤ W6.heap.size := hA6.low
  clear hW6 hset hA6 hM6 hB6 q16 p16
  have hcm : ∀ a b, W6.grownBy a (Value.slice ao n ac).ownBlock → Below a.heap.size a b → W6.grownBy b (Value.slice ao n ac).ownBlock := fun a b h hb => grown_und h hb
  have hpr : ∀ (j : Nat) (a b : World), (j = 7 → (fun W => W.ownsRow base 45 17 (.slice ao n ac) n (L.flatMap enB)) a) → Below a.heap.size a b → (j = 7 → (fun W => W.ownsRow base 45 17 (.slice ao n ac) n (L.flatMap enB)) b) := fun j a b h hb e => ownB_below (h e) hb
  have HOW := Lib.hid (show W6.ownsRow base 45 17 (.slice ao n ac) n (L.flatMap enB) from by have h := HA6.out.own; rw [← HN.out] at h; exact h)
  have HLT := Lib.hid (show ∀ j, (Value.slice ao n ac).ownBlock = some j → base ≤ j ∧ j < k from fun j hj => ⟨(HA6.out.own.lt j hj).1, by have h := (HA.out.own.lt j hj).2; rw [← HK.out] at h; exact h⟩)
  have HKX := Lib.hid (fun (W : World) (hc : W6.grownBy W (Value.slice ao n ac).ownBlock) => show W.cell? ⟨g, 0, none⟩ = some (.slice ao n ac) ∧ W.cell? ⟨g, 1, none⟩ = some (.int .i64 0) ∧ W.frozen? ⟨g, 0, none⟩ = false ∧ W.frozen? ⟨g, 1, none⟩ = false from by
    have hb := hc.block g (Nat.lt_of_lt_of_le HA6.out.lt hbz6) (fun e => by have := (HLT.out g e.symm).1; have := HA6.out.lt; omega)
    exact ⟨(World.cell?_of_block (a := ⟨g, 0, none⟩) hb).trans HA6.out.c0, (World.cell?_of_block (a := ⟨g, 1, none⟩) hb).trans HA6.out.c1, (World.frozen?_of_block hb).trans HA6.out.f0, (World.frozen?_of_block hb).trans HA6.out.f1⟩)
  have HKM := Lib.hid (fun (W : World) (hc : W6.grownBy W (Value.slice ao n ac).ownBlock) => HM6.out.kept hc (fun e => by have := (HLT.out k e.symm).2; omega))
  have HG0 := Lib.hid (show W6.grownBy W6.drew (Value.slice ao n ac).ownBlock from hcm _ _ (World.grownBy.refl _ _) (Below.refl _ _).drew)
  have HP0 := Lib.hid (show W6.drew.ownsRow base 45 17 (.slice ao n ac) n (L.flatMap enB) from ownB_below HOW.out (Below.refl _ _).drew)
  refine RegLin.wp_region_lin (RegLin.useL [(6, 7)]) (fun W => W6.grownBy W (Value.slice ao n ac).ownBlock) (fun j W => j = 7 → (fun W => W.ownsRow base 45 17 (.slice ao n ac) n (L.flatMap enB)) W) 10 [false, false, false, false, false, false, false, false, false, false, false, false, false, false, false, false, false, false, false, false, false, false, true, true, true, true, true, true, true, true, true, true]
    [sLit (.pointer (some ⟨g, 0, none⟩)),
    sLit (.pointer (some ⟨g, 0, none⟩)),
    sLit (.pointer (some ⟨g, 0, none⟩)),
    sLit (.pointer (some ⟨g, 0, none⟩)),
    sLit (.slice ao n ac),
    sLit (vBeat a),
    sNewB a,
    sOne (fun v W => W.ownsRow base 45 17 v (n + 1) ((L ++ [a]).flatMap enB)) (fun _ _ _ h hb => ownB_below h hb),
    sLit (.pointer (some ⟨g, 0, none⟩)),
    sLit (.pointer (some ⟨g, 0, none⟩))] (HG0.out) (fun j _ _ => HP0.out) (by kernel_rfl) (by kernel_rfl) (by kernel_rfl) (by kernel_rfl) (fun F hF => ?_)
  simp only [over, overL, Nat.reduceAdd] at hF
  obtain rfl := funext hF
  clear hF
  refine ⟨⟨?_, ?_, ?_, ?_, ?_, ?_, ?_, ?_, ?_, ?_, trivial⟩, ?_⟩
  · intro V W hc hp hd K hK _
    clear hd
    go_wp2_with fail
    refine hK _ _ ?_ ?_ ?_
    · rfl
    · exact RegLin.keeps_below hcm hpr hc (Below.refl _ _)
    · exact rfl
  · intro V W hc hp hd K hK _
    clear hd
    go_wp2_with fail
    refine hK _ _ ?_ ?_ ?_
    · rfl
    · exact RegLin.keeps_below hcm hpr hc (Below.refl _ _)
    · exact rfl
  · intro V W hc hp hd K hK _
    have h1 : (V 23) = .pointer (some ⟨g, 0, none⟩) := hd 1 (by decide) (by kernel_rfl) (RegLin.useL_ok (by kernel_rfl))
    clear hd
    go_wp2_with fail
    refine hK _ _ ?_ ?_ ?_
    · rfl
    · exact RegLin.keeps_below hcm hpr hc (Below.refl _ _)
    · exact rfl
  · intro V W hc hp hd K hK _
    have h2 : (V 24) = .pointer (some ⟨g, 0, none⟩) := hd 2 (by decide) (by kernel_rfl) (RegLin.useL_ok (by kernel_rfl))
    clear hd
    go_wp2_with fail
    refine hK _ _ ?_ ?_ ?_
    · rfl
    · exact RegLin.keeps_below hcm hpr hc (Below.refl _ _)
    · exact rfl
  · intro V W hc hp hd K hK _
    have h3 : (V 25) = .pointer (some ⟨g, 0, none⟩) := hd 3 (by decide) (by kernel_rfl) (RegLin.useL_ok (by kernel_rfl))
    clear hd
    obtain ⟨s0, s1, -, -⟩ := HKX.out W hc
    go_wp2_with fail
    refine hK _ _ ?_ ?_ ?_
    · rfl
    · exact RegLin.keeps_below hcm hpr hc (Below.refl _ _)
    · exact rfl
  · intro V W hc hp hd K hK _
    clear hd
    have HCC := Lib.hid hc
    clear hc hp
    go_wp2_with (first | (refine wpList_load_row rfl 45 _ rfl k rfl 45 (enB a).toArray (0, 0) _ (HKM.out W HCC.out) Tryz.underlying45 rfl size_Msg ?_))
    refine hK _ _ ?_ ?_ ?_
    · rfl
    · exact RegLin.keeps_below hcm hpr HCC.out (Below.refl _ _)
    · exact rfl
  · intro V W hc hp hd K hK _
    have h5 : (V 27) = vBeat a := hd 5 (by decide) (by kernel_rfl) (RegLin.useL_ok (by kernel_rfl))
    clear hd
    have HCC := Lib.hid hc
    clear hc hp
    go_wp2_with fail
    refine hK _ _ ?_ ?_ ?_
    · rfl
    · exact RegLin.keeps_below hcm hpr HCC.out ((Below.refl _ _).alloc (Nat.le_refl _) _)
    · exact ⟨_, rfl, by simp, new_beat W a⟩
  · intro V W hc hp hd K hK _
    have h4 : (V 26) = .slice ao n ac := hd 4 (by decide) (by kernel_rfl) (RegLin.useL_ok (by kernel_rfl))
    have h6 : ∃ g, (V 28) = .slice (some ⟨g, 0, none⟩) 1 1 ∧ g < W.heap.size ∧ ∀ j u, (enB a)[j]? = some u → W.cell? ⟨g, j, none⟩ = some u := hd 6 (by decide) (by kernel_rfl) (RegLin.useL_ok (by kernel_rfl))
    clear hd
    have HAA := Lib.hid (hp rfl)
    obtain ⟨gn, e6, hgl, hgc⟩ := h6
    have ea := h4
    have hbw : base ≤ W.heap.size := Nat.le_trans hbz6 hc.size
    have HCC := Lib.hid hc
    clear hc hp
    go_wp2_with (at_builtin; refine wpList_append_own_loc rfl (.tmp 26) (.tmp 28) 32 rfl base 45 i0 (.agg zB.toArray) zB 112 Tryz.underlying32 HI.out.1 HI.out.2.1 rfl HI.out.2.2.1 HI.out.2.2.2 (by decide) (.slice ao n ac) n (L.flatMap enB) (by first | rfl | exact ea) HAA.out ⟨gn, 0, none⟩ 1 1 (enB a) (by first | rfl | exact e6) (by decide) rfl (news_beat hgc) (enB_one a) (by unfold maxLen; omega) (by omega) hbw ?_)
    intro v1 w1 g1 g2 g3
    have G1 := Lib.hid (show w1.ownsRow base 45 17 v1 (n + 1) ((L ++ [a]).flatMap enB) from by rw [List.flatMap_append, List.flatMap_singleton]; exact g1)
    have G2 := Lib.hid (show W6.grownBy w1 (Value.slice ao n ac).ownBlock from HCC.out.andThen g2 (fun j hj => Or.inr hj))
    clear g1 g2 g3
    go_wp2_with fail
    refine hK _ _ ?_ ?_ ?_
    · rfl
    · refine RegLin.keeps_by G2.out (by kernel_rfl) (fun j hj hne hl h => ?_)
      match j, hj, hne, hl, h with
      | 0, _, _, _, h => exact h
      | 1, _, _, _, h => exact h
      | 2, _, _, _, h => exact h
      | 3, _, _, _, h => exact h
      | 4, _, _, _, h => exact h
      | 5, _, _, _, h => exact h
      | 6, _, _, hl, _ => exact Bool.noConfusion (hl.symm.trans (show RegLin.liveB _ 10 [(6, 7)] 7 6 = false from by kernel_rfl))
      | 7, _, hne, _, _ => exact absurd rfl hne
      | 8, _, _, hl, _ => exact Bool.noConfusion (hl.symm.trans (show RegLin.liveB _ 10 [(6, 7)] 7 8 = false from by kernel_rfl))
      | 9, _, _, hl, _ => exact Bool.noConfusion (hl.symm.trans (show RegLin.liveB _ 10 [(6, 7)] 7 9 = false from by kernel_rfl))
      | j + 10, hj, _, _, _ => exact absurd hj (by omega)
    · exact G1.out
  · intro V W hc hp hd K hK _
    have h0 : (V 22) = .pointer (some ⟨g, 0, none⟩) := hd 0 (by decide) (by kernel_rfl) (RegLin.useL_ok (by kernel_rfl))
    clear hd
    go_wp2_with fail
    refine hK _ _ ?_ ?_ ?_
    · rfl
    · exact RegLin.keeps_below hcm hpr hc (Below.refl _ _)
    · exact rfl
  · intro V W hc hp hd K hK _
    have h8 : (V 30) = .pointer (some ⟨g, 0, none⟩) := hd 8 (by decide) (by kernel_rfl) (RegLin.useL_ok (by kernel_rfl))
    clear hd
    go_wp2_with fail
    refine hK _ _ ?_ ?_ ?_
    · rfl
    · exact RegLin.keeps_below hcm hpr hc (Below.refl _ _)
    · exact rfl
  · intro V W hc hd
    have h7 : W.ownsRow base 45 17 (V 29) (n + 1) ((L ++ [a]).flatMap enB) := hd 7 (by decide) rfl
    have h9 : (V 31) = .pointer (some ⟨g, 0, none⟩) := hd 9 (by decide) rfl
    clear hd
    simp only [List.drop_succ_cons, List.drop_zero]
    have HC9 := Lib.hid hc
    have H9 := Lib.hid h7
    obtain ⟨bo, bc, e9⟩ := row_form h7
    obtain ⟨s0, s1, f0, f1⟩ := HKX.out W hc
    clear h7 hc
    rw [e9] at H9
    have hgg : W.grownBy (W.setCell ⟨g, 0, none⟩ (.slice bo (n + 1) bc)) (some g) := grown_setCell (World.grownBy.refl _ _) (Or.inl rfl) _
    have HFIN := Lib.hid (show NetAt (W.setCell ⟨g, 0, none⟩ (.slice bo (n + 1) bc)) g base (.slice bo (n + 1) bc) (L ++ [a]) from by
      have hlt : base ≤ W.heap.size := Nat.le_trans hbz6 HC9.out.size
      refine ⟨HA6.out.lt, by simpa using hlt, by go_simp, by go_simp, by go_simp, by go_simp, ?_⟩
      have h1 := H9.out.kept hgg (by
        cases hv : (Value.slice bo (n + 1) bc).ownBlock with
        | none => exact Or.inl rfl
        | some q => exact Or.inr (fun e => by have h := (H9.out.lt q hv).1; have e2 : q = g := by simpa using e
                                              have := HA6.out.lt; omega))
      rw [List.length_append, ← HN.out]
      exact h1)
    have HFB := Lib.hid (show Below g w (W.setCell ⟨g, 0, none⟩ (.slice bo (n + 1) bc)) from by
      have h1 : Below g w W6 := HB6.out.mono (by omega)
      have h2 : Below g w W := h1.grown HC9.out (by have := HA6.out.lt; omega) (fun j hj => by have := (HLT.out j hj).1; have := HA6.out.lt; omega)
      exact h2.setCell (p := ⟨g, 0, none⟩) (Nat.le_refl _) _)
    have HFR := Lib.hid (show ∀ i, i < w.heap.size → i ≠ g → (Value.slice ao n ac).ownBlock ≠ some i → (W.setCell ⟨g, 0, none⟩ (.slice bo (n + 1) bc)).heap[i]? = w.heap[i]? from fun i hi hig hiv => by
      have h1 := HB6.out.block i (by rw [HK.out]; exact hi)
      have hi6 : i < W6.heap.size := Nat.lt_of_lt_of_le hi HB6.out.size
      have h2 := HC9.out.block i hi6 (fun e => hiv e.symm)
      have h3 := hgg.block i (Nat.lt_of_lt_of_le hi6 HC9.out.size) (fun e => hig (by simpa using e))
      exact h3.trans (h2.trans h1))
    clear hgg
    go_wp2_with fail
    go_ret
    exact ⟨rfl, ⟨_, HFIN.out⟩, HFB.out, by rw [← HN.out]; exact HFR.out⟩
end Go.Proofs.YtemckpmedjennaaGreatDoor.NetW
