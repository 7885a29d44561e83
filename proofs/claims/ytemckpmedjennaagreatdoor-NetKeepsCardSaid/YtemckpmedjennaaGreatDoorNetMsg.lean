/- net.Net at messages of any body: Send, Len, At (layer 22). PRINTED by wip/gennetmsg.py out of NetSend and NetAlive. -/
import Derived.Test.YtemckpmedjennaaGreatDoorNetOwn
import Derived.Test.YtemckpmedjennaaGreatDoorRegLin
import Derived.Test.YtemckpmedjennaaGreatDoorAppendLoc
import Derived.Laws.Rows
import Derived.Test.YtemckpmedjennaaGreatDoorRegApp
set_option linter.unusedSimpArgs false
set_option linter.unusedVariables false
namespace Go.Proofs.YtemckpmedjennaaGreatDoor.NetG
open Go.RowKit Go.Proofs.YtemckpmedjennaaGreatDoor.Spare Go.Proofs.YtemckpmedjennaaGreatDoor.RegInv

/-- A message: from whom, and what it says. -/
structure Ms where
  f : Int
  T : TypeId
  V : Value
def enB (a : Ms) : List Value := [.int .i64 a.f, .int .i64 0, .int .i64 0, .bool false, .bool false, .bool false, .bool false, .bool false, .int .i64 0, .int .i64 0, .int .i64 0, .int .i64 0, .int .i64 0, .int .i64 0, .int .i64 0, .int .i64 0, .iface a.T a.V]
def zB : List Value := [.int .i64 0, .int .i64 0, .int .i64 0, .bool false, .bool false, .bool false, .bool false, .bool false, .int .i64 0, .int .i64 0, .int .i64 0, .int .i64 0, .int .i64 0, .int .i64 0, .int .i64 0, .int .i64 0, .nilIface]
abbrev vBeat (a : Ms) : Value := .agg #[.int .i64 a.f, .int .i64 0, .int .i64 0, .bool false, .bool false, .bool false, .bool false, .bool false, .int .i64 0, .int .i64 0, .int .i64 0, .int .i64 0, .int .i64 0, .int .i64 0, .int .i64 0, .int .i64 0, .iface a.T a.V]
theorem enB_len (a : Ms) : (enB a).length = 17 := rfl
theorem enB_one (a : Ms) : ∀ u ∈ enB a, u.oneCell' = true := by
  intro u hu
  simp only [enB, List.mem_cons, List.not_mem_nil, or_false] at hu
  rcases hu with rfl | rfl | rfl | rfl | rfl | rfl | rfl | rfl | rfl | rfl | rfl | rfl | rfl | rfl | rfl | rfl | rfl <;> rfl
theorem info_Msg : (Tryz.prog.info? 45).map (fun i => (i.zero, i.size, i.bytes)) = some (some (.agg zB.toArray), 17, 112) := by kernel_rfl
theorem info_msg : ∃ i : TypeInfo, Tryz.prog.info? 45 = some i ∧ i.zero = some (.agg zB.toArray) ∧ i.size = 17 ∧ i.bytes = 112 := by
  have h := info_Msg
  cases hq : Tryz.prog.info? 45 with
  | none => simp [hq] at h
  | some i => simp [hq] at h; exact ⟨i, rfl, h.1, h.2.1, h.2.2⟩
theorem size_Msg : (Tryz.prog.info? 45).map (·.size) = some 17 := by kernel_rfl
/-- A variable that holds that message. -/
def MsgAt (w : World) (k : Nat) (a : Ms) : Prop := w.heap[k]? = some (.cells (enB a).toArray 45 (0, 0))
theorem MsgAt.lt {w : World} {k : Nat} {a : Ms} (h : MsgAt w k a) : k < w.heap.size := (Array.getElem?_eq_some_iff.1 h).1
theorem MsgAt.below {w w' : World} {k : Nat} {a : Ms} (h : MsgAt w k a) (hb : Below w.heap.size w w') : MsgAt w' k a := (hb.block k h.lt).trans h
theorem MsgAt.kept {w w' : World} {k : Nat} {a : Ms} {row : Option Nat} (h : MsgAt w k a) (hg : w.grownBy w' row) (hne : some k ≠ row) : MsgAt w' k a := (hg.block k h.lt hne).trans h
theorem MsgAt.new (w : World) (a : Ms) : MsgAt (w.alloc (.cells #[.int .i64 a.f, .int .i64 0, .int .i64 0, .bool false, .bool false, .bool false, .bool false, .bool false, .int .i64 0, .int .i64 0, .int .i64 0, .int .i64 0, .int .i64 0, .int .i64 0, .int .i64 0, .int .i64 0, .iface a.T a.V] 45)) w.heap.size a := heap_alloc_new w _
theorem MsgAt.cell {w : World} {k : Nat} {a : Ms} (h : MsgAt w k a) (j : Nat) : w.cell? ⟨k, j, none⟩ = (enB a)[j]? := by
  rw [cell_of_row w k j _ _ (0, 0) h]
  simp
theorem MsgAt.body {w : World} {k : Nat} {a : Ms} (h : MsgAt w k a) (V : Value) : MsgAt (w.setCell ⟨k, 16, none⟩ (.iface a.T V)) k ⟨a.f, a.T, V⟩ := by
  have h2 := heap_setCell_same w k 16 (enB a).toArray _ (.iface a.T V) h
  unfold MsgAt
  rw [h2]
  rfl
/-- A net that has these messages under way, none lost. -/
structure NetAt (w : World) (g base : Nat) (v : Value) (L : List Ms) : Prop where
  lt : g < base
  low : base ≤ w.heap.size
  c0 : w.cell? ⟨g, 0, none⟩ = some v
  c1 : w.cell? ⟨g, 1, none⟩ = some (.int .i64 0)
  f0 : w.frozen? ⟨g, 0, none⟩ = false
  f1 : w.frozen? ⟨g, 1, none⟩ = false
  own : w.ownsRow base 45 17 v L.length (L.flatMap enB)
  tg : ∃ cur, w.heap[g]? = some (.cells cur 34 (0, 0))
theorem ownB_below {w w' : World} {base n : Nat} {v : Value} {xs : List Value} (h : w.ownsRow base 45 17 v n xs) (hb : Below w.heap.size w w') : w'.ownsRow base 45 17 v n xs :=
  World.ownsRow.kept h (row := none) ⟨hb.os, hb.tape, hb.output, hb.size, fun k hk _ => hb.block k hk⟩ (by cases v.ownBlock <;> simp)
theorem NetAt.below {w w' : World} {g base : Nat} {v : Value} {L : List Ms} (h : NetAt w g base v L) (hb : Below w.heap.size w w') : NetAt w' g base v L := by
  have hg : g < w.heap.size := Nat.lt_of_lt_of_le h.lt h.low
  exact ⟨h.lt, Nat.le_trans h.low hb.size, (hb.cell (p := ⟨g, 0, none⟩) hg).trans h.c0, (hb.cell (p := ⟨g, 1, none⟩) hg).trans h.c1, (hb.frozen (p := ⟨g, 0, none⟩) hg).trans h.f0, (hb.frozen (p := ⟨g, 1, none⟩) hg).trans h.f1, ownB_below h.own hb, h.tg.imp fun _ ht => (hb.block g hg).trans ht⟩
theorem grown_und {a b c : World} {row : Option Nat} (h : a.grownBy b row) (hb : Below b.heap.size b c) : a.grownBy c row :=
  h.andThen (row' := none) ⟨hb.os, hb.tape, hb.output, hb.size, fun k hk _ => hb.block k hk⟩ (fun j hj => by cases hj)
theorem NetAt.beside {w w' : World} {g base k : Nat} {v : Value} {L : List Ms} (h : NetAt w g base v L) (hg : w.grownBy w' (some k)) (hk : g ≠ k) (ho : v.ownBlock ≠ some k) : NetAt w' g base v L := by
  have hgl : g < w.heap.size := Nat.lt_of_lt_of_le h.lt h.low
  have hb := hg.block g hgl (fun e => hk (by simpa using e))
  exact ⟨h.lt, Nat.le_trans h.low hg.size, (World.cell?_of_block (a := ⟨g, 0, none⟩) hb).trans h.c0, (World.cell?_of_block (a := ⟨g, 1, none⟩) hb).trans h.c1, (World.frozen?_of_block hb).trans h.f0, (World.frozen?_of_block hb).trans h.f1, h.own.kept hg (by cases hv : v.ownBlock with | none => exact Or.inl rfl | some q => exact Or.inr (by rw [← hv]; exact ho)), h.tg.imp fun _ ht => hb.trans ht⟩
def sNewB (a : Ms) : RSpec := sOne (fun v W => ∃ g, v = .slice (some ⟨g, 0, none⟩) 1 1 ∧ g < W.heap.size ∧ ∀ j u, (enB a)[j]? = some u → W.cell? ⟨g, j, none⟩ = some u) (fun _ _ _ h hb => by
  obtain ⟨g, h1, h2, h3⟩ := h
  exact ⟨g, h1, Nat.lt_of_lt_of_le h2 hb.size, fun j u hu => (World.cell?_of_block (a := ⟨g, j, none⟩) (hb.block g h2)).trans (h3 j u hu)⟩)
theorem new_beat (W : World) (a : Ms) : ∀ (j : Nat) (u : Value), (enB a)[j]? = some u → (W.alloc (.cells #[.int .i64 a.f, .int .i64 0, .int .i64 0, .bool false, .bool false, .bool false, .bool false, .bool false, .int .i64 0, .int .i64 0, .int .i64 0, .int .i64 0, .int .i64 0, .int .i64 0, .int .i64 0, .int .i64 0, .iface a.T a.V] 45)).cell? ⟨W.heap.size, j, none⟩ = some u := fun j u hu => by rw [(MsgAt.new W a).cell]; exact hu
theorem news_beat {w : World} {g : Nat} {a : Ms} (h : ∀ j u, (enB a)[j]? = some u → w.cell? ⟨g, j, none⟩ = some u) : ∀ (j : Nat) (u : Value), (enB a)[j]? = some u → w.cell? ((⟨g, 0, none⟩ : Addr).add j) = some u := by
  intro j u hu
  rw [addr_add, Nat.zero_add]
  exact h j u hu

/-- All but messages and nets stays. -/
def KeepR (w w' : World) : Prop := w.heap.size ≤ w'.heap.size ∧ ∀ (i : Nat) cur ty, w.heap[i]? = some (.cells cur ty (0, 0)) → ty ≠ 45 → ty ≠ 34 → w'.heap[i]? = w.heap[i]?
/-- Behind Send: the message, in memory of its own, is the last one. -/
def SendP (Q : Value → World → Prop) (x : Ms) (g base : Nat) (L : List Ms) (w w' : World) : Prop := ∃ V' v' w1, NetAt w' g base v' (L ++ [⟨x.f, x.T, V'⟩]) ∧ Q V' w1 ∧ Below w.heap.size w w1 ∧ KeepR w1 w'
/-- At's answer: a message in memory of its own. -/
def AtP (Q : Value → World → Prop) (x : Ms) (w : World) (e : Ending) (w' : World) : Prop := ∃ V' w1, e = .returned (.tuple #[vBeat ⟨x.f, x.T, V'⟩, .bool true]) ∧ Q V' w1 ∧ Below w.heap.size w w1 ∧ KeepR w1 w'
theorem KeepR.refl (w : World) : KeepR w w := ⟨Nat.le_refl _, fun _ _ _ _ _ _ => rfl⟩
theorem KeepR.trans {a b c : World} (h : KeepR a b) (k : KeepR b c) : KeepR a c := ⟨Nat.le_trans h.1 k.1, fun i cur ty h1 h2 h3 => by
  have h4 := h.2 i cur ty h1 h2 h3
  exact (k.2 i cur ty (h4.trans h1) h2 h3).trans h4⟩
theorem KeepR.below {a b : World} (h : Below a.heap.size a b) : KeepR a b := ⟨h.size, fun i cur ty h1 _ _ => h.block i (Array.getElem?_eq_some_iff.1 h1).1⟩
theorem KeepR.grown {a b : World} {k : Nat} {cur : Array Value} {ty : TypeId} (h : a.grownBy b (some k)) (hk : a.heap[k]? = some (.cells cur ty (0, 0))) (ht : ty = 45 ∨ ty = 34) : KeepR a b := ⟨h.size, fun i c2 t2 h1 h2 h3 => by
  refine h.block i (Array.getElem?_eq_some_iff.1 h1).1 (fun e => ?_)
  have e2 : i = k := by simpa using e
  subst e2
  rw [hk] at h1
  simp at h1
  rcases ht with ht | ht
  · exact h2 (h1.2.symm.trans ht)
  · exact h3 (h1.2.symm.trans ht)⟩
theorem KeepR.row {a b : World} {base sz n : Nat} {v : Value} {xs : List Value} (h : a.grownBy b v.ownBlock) (hv : a.ownsRow base 45 sz v n xs) : KeepR a b := by
  rcases hv.2 with ⟨rfl, _⟩ | ⟨g, cap, cur, rfl, _, hg, _⟩
  · exact KeepR.below ⟨h.os, h.tape, h.output, h.size, fun i hi => h.block i hi (by simp [Value.ownBlock])⟩
  · exact KeepR.grown (k := g) (by simpa [Value.ownBlock] using h) hg (Or.inl rfl)
theorem KeepR.own {a b : World} {base sz n : Nat} {e : TypeId} {v : Value} {xs : List Value} (h : KeepR a b) (hv : a.ownsRow base e sz v n xs) (h1 : e ≠ 45) (h2 : e ≠ 34) : b.ownsRow base e sz v n xs := by
  refine ⟨hv.1, hv.2.imp id ?_⟩
  rintro ⟨g, cap, cur, q1, q2, q3, q4⟩
  exact ⟨g, cap, cur, q1, q2, (h.2 g cur e q3 h1 h2).trans q3, q4⟩

set_option maxHeartbeats 8000000 in
set_option maxRecDepth 100000 in
theorem send_any (Q : Value → World → Prop) (x : Ms) (g base : Nat) (v : Value) (L : List Ms) (w : World) (h : NetAt w g base v L) (hL : L.length < 100) (hcall : ∀ W, Below w.heap.size w W → Calls Tryz.prog 38 #[.iface x.T x.V] W fun e w' => ∃ V', e = .returned (.iface x.T V') ∧ Q V' w' ∧ Below W.heap.size W w') :
    Calls Tryz.prog 7 #[.pointer (some ⟨g, 0, none⟩), vBeat x] w fun e w' => e = .returned (.bool true) ∧ SendP Q x g base L w w' ∧ Below g w w' ∧ ∀ i, i < w.heap.size → i ≠ g → v.ownBlock ≠ some i → w'.heap[i]? = w.heap[i]? := by
  obtain ⟨ao, ac, rfl⟩ := row_form h.own
  obtain ⟨n, hn⟩ : ∃ n, n = L.length := ⟨_, rfl⟩
  have hown := h.own
  have hh : NetAt w g base (.slice ao n ac) L := by rw [hn]; exact h
  clear h
  have h := hh
  clear hh
  rw [← hn] at hL hown
  have HN := Lib.hid hn
  have HA := Lib.hid h
  obtain ⟨W, hW⟩ : ∃ W, W = w.alloc (.cells #[.int .i64 x.f, .int .i64 0, .int .i64 0, .bool false, .bool false, .bool false, .bool false, .bool false, .int .i64 0, .int .i64 0, .int .i64 0, .int .i64 0, .int .i64 0, .int .i64 0, .int .i64 0, .int .i64 0, .iface x.T x.V] 45) := ⟨_, rfl⟩
  obtain ⟨k, hk⟩ : ∃ k, k = w.heap.size := ⟨_, rfl⟩
  have hbW : Below w.heap.size w W := by rw [hW]; exact (Below.refl _ _).alloc (Nat.le_refl _) _
  have hm : MsgAt W k x := by rw [hW, hk]; exact MsgAt.new w x
  have hA1 := h.below hbW
  have hgk : g < k := by rw [hk]; exact Nat.lt_of_lt_of_le h.lt h.low
  have hbk : base ≤ k := by rw [hk]; exact h.low
  have HW := Lib.hid hW
  have HM := Lib.hid hm
  have HA1 := Lib.hid hA1
  have HBW := Lib.hid hbW
  have HK := Lib.hid hk
  obtain ⟨-, -, c0, c1, f0, f1, -, -⟩ := hA1
  have m16 : W.cell? ⟨k, 16, none⟩ = some (.iface x.T x.V) := hm.cell 16
  obtain ⟨i0, hi0, hz0, hz1, hz2⟩ := info_msg
  have HI := Lib.hid (And.intro hi0 (And.intro hz0 (And.intro hz1 hz2)))
  have HOB := Lib.hid hcall
  clear hn h hown hcall hW hk hbW hm hi0 hz0 hz1 hz2
  go_enter Tryz.func7, Tryz.ntmps7
  go_upto_region 1 with fail
  rw [← HW.out, ← HK.out]
  go_wp2_with fail
  refine (HOB.out _ HBW.out).mono ?_
  rintro e w1 ⟨V', rfl, hq1, hb1⟩
  obtain ⟨y, hy⟩ : ∃ y : Ms, y = ⟨x.f, x.T, V'⟩ := ⟨_, rfl⟩
  have HY := Lib.hid hy
  have HQ1 := Lib.hid hq1
  have HA2 := Lib.hid (HA1.out.below hb1)
  have HM2 := Lib.hid (HM.out.below hb1)
  have HB2 := Lib.hid (below_then HBW.out (Nat.le_refl _) hb1)
  have q16 : w1.frozen? ⟨k, 16, none⟩ = false := frozen_of_row w1 k 16 _ _ HM2.out
  have p16 : w1.cell? ⟨k, 16, none⟩ = some (.iface x.T x.V) := HM2.out.cell 16
  clear hb1 hq1 hy m16 c0 c1 f0 f1
  go_upto_region 5 with fail
  have hset : w1.grownBy (w1.setCell ⟨k, 16, none⟩ (.iface x.T V')) (some k) := grown_setCell (World.grownBy.refl _ _) (Or.inl rfl) _
  obtain ⟨W6, hW6⟩ : ∃ W6, W6 = w1.setCell ⟨k, 16, none⟩ (.iface x.T V') := ⟨_, rfl⟩
  have hA6 : NetAt W6 g base (.slice ao n ac) L := by
    rw [hW6]
    exact HA2.out.beside hset (by omega) (fun e => by have := (HA1.out.own.lt k e).2; have h2 := (HA.out.own.lt k e).2; rw [← HK.out] at h2; omega)
  have hM6 : MsgAt W6 k y := by rw [hW6, HY.out]; exact HM2.out.body _
  have HK6 := Lib.hid (show KeepR w1 W6 from by rw [hW6]; exact KeepR.grown (grown_setCell (World.grownBy.refl _ _) (Or.inl rfl) _) HM2.out (Or.inl rfl))
  have hB6 : Below k w W6 := by
    rw [hW6, HK.out]
    exact HB2.out.setCell (p := ⟨w.heap.size, 16, none⟩) (Nat.le_refl _) _
  rw [← hW6]
  have HA6 := Lib.hid hA6
  have HM6 := Lib.hid hM6
  have HB6 := Lib.hid hB6
  have hbz6 : base ≤ W6.heap.size := hA6.low
  clear hW6 hset hA6 hM6 hB6 q16 p16
  have hcm : ∀ a b, W6.grownBy a (Value.slice ao n ac).ownBlock → Below a.heap.size a b → W6.grownBy b (Value.slice ao n ac).ownBlock := fun a b h hb => grown_und h hb
  have hpr : ∀ (j : Nat) (a b : World), (j = 7 → (fun W => W.ownsRow base 45 17 (.slice ao n ac) n (L.flatMap enB)) a) → Below a.heap.size a b → (j = 7 → (fun W => W.ownsRow base 45 17 (.slice ao n ac) n (L.flatMap enB)) b) := fun j a b h hb e => ownB_below (h e) hb
  have HOW := Lib.hid (show W6.ownsRow base 45 17 (.slice ao n ac) n (L.flatMap enB) from by have h := HA6.out.own; rw [← HN.out] at h; exact h)
  have HLT := Lib.hid (show ∀ j, (Value.slice ao n ac).ownBlock = some j → base ≤ j ∧ j < k from fun j hj => ⟨(HA6.out.own.lt j hj).1, by have h := (HA.out.own.lt j hj).2; rw [← HK.out] at h; exact h⟩)
  have HKX := Lib.hid (fun (W : World) (hc : W6.grownBy W (Value.slice ao n ac).ownBlock) => show W.cell? ⟨g, 0, none⟩ = some (.slice ao n ac) ∧ W.cell? ⟨g, 1, none⟩ = some (.int .i64 0) ∧ W.frozen? ⟨g, 0, none⟩ = false ∧ W.frozen? ⟨g, 1, none⟩ = false from by
    have hb := hc.block g (Nat.lt_of_lt_of_le HA6.out.lt hbz6) (fun e => by have := (HLT.out g e.symm).1; have := HA6.out.lt; omega)
    exact ⟨(World.cell?_of_block (a := ⟨g, 0, none⟩) hb).trans HA6.out.c0, (World.cell?_of_block (a := ⟨g, 1, none⟩) hb).trans HA6.out.c1, (World.frozen?_of_block hb).trans HA6.out.f0, (World.frozen?_of_block hb).trans HA6.out.f1⟩)
  have HTG := Lib.hid (fun (W : World) (hc : W6.grownBy W (Value.slice ao n ac).ownBlock) => show ∃ cur, W.heap[g]? = some (.cells cur 34 (0, 0)) from HA6.out.tg.imp fun _ ht => (hc.block g (Nat.lt_of_lt_of_le HA6.out.lt hbz6) (fun e => by have := (HLT.out g e.symm).1; have := HA6.out.lt; omega)).trans ht)
  have HKM := Lib.hid (fun (W : World) (hc : W6.grownBy W (Value.slice ao n ac).ownBlock) => HM6.out.kept hc (fun e => by have := (HLT.out k e.symm).2; omega))
  have HG0 := Lib.hid (show W6.grownBy W6.drew (Value.slice ao n ac).ownBlock from hcm _ _ (World.grownBy.refl _ _) (Below.refl _ _).drew)
  have HP0 := Lib.hid (show W6.drew.ownsRow base 45 17 (.slice ao n ac) n (L.flatMap enB) from ownB_below HOW.out (Below.refl _ _).drew)
  refine RegLin.wp_region_lin (RegLin.useL [(6, 7)]) (fun W => W6.grownBy W (Value.slice ao n ac).ownBlock) (fun j W => j = 7 → (fun W => W.ownsRow base 45 17 (.slice ao n ac) n (L.flatMap enB)) W) 10 [false, false, false, false, false, false, false, false, false, false, false, false, false, false, false, false, false, false, false, false, false, false, true, true, true, true, true, true, true, true, true, true]
    [sLit (.pointer (some ⟨g, 0, none⟩)),
    sLit (.pointer (some ⟨g, 0, none⟩)),
    sLit (.pointer (some ⟨g, 0, none⟩)),
    sLit (.pointer (some ⟨g, 0, none⟩)),
    sLit (.slice ao n ac),
    sLit (vBeat y),
    sNewB y,
    sOne (fun v W => W.ownsRow base 45 17 v (n + 1) ((L ++ [y]).flatMap enB)) (fun _ _ _ h hb => ownB_below h hb),
    sLit (.pointer (some ⟨g, 0, none⟩)),
    sLit (.pointer (some ⟨g, 0, none⟩))] (HG0.out) (fun j _ _ => HP0.out) (by kernel_rfl) (by kernel_rfl) (by kernel_rfl) (by kernel_rfl) (fun F hF => ?_)
  simp only [over, overL, Nat.reduceAdd] at hF
  obtain rfl := funext hF
  clear hF
  refine ⟨⟨?_, ?_, ?_, ?_, ?_, ?_, ?_, ?_, ?_, ?_, trivial⟩, ?_⟩
  · intro V W hc hp hd K hK _
    clear hd
    go_wp2_with fail
    refine hK _ _ ?_ ?_ ?_
    · rfl
    · exact RegLin.keeps_below hcm hpr hc (Below.refl _ _)
    · exact rfl
  · intro V W hc hp hd K hK _
    clear hd
    go_wp2_with fail
    refine hK _ _ ?_ ?_ ?_
    · rfl
    · exact RegLin.keeps_below hcm hpr hc (Below.refl _ _)
    · exact rfl
  · intro V W hc hp hd K hK _
    have h1 : (V 23) = .pointer (some ⟨g, 0, none⟩) := hd 1 (by decide) (by kernel_rfl) (RegLin.useL_ok (by kernel_rfl))
    clear hd
    go_wp2_with fail
    refine hK _ _ ?_ ?_ ?_
    · rfl
    · exact RegLin.keeps_below hcm hpr hc (Below.refl _ _)
    · exact rfl
  · intro V W hc hp hd K hK _
    have h2 : (V 24) = .pointer (some ⟨g, 0, none⟩) := hd 2 (by decide) (by kernel_rfl) (RegLin.useL_ok (by kernel_rfl))
    clear hd
    go_wp2_with fail
    refine hK _ _ ?_ ?_ ?_
    · rfl
    · exact RegLin.keeps_below hcm hpr hc (Below.refl _ _)
    · exact rfl
  · intro V W hc hp hd K hK _
    have h3 : (V 25) = .pointer (some ⟨g, 0, none⟩) := hd 3 (by decide) (by kernel_rfl) (RegLin.useL_ok (by kernel_rfl))
    clear hd
    obtain ⟨s0, s1, -, -⟩ := HKX.out W hc
    go_wp2_with fail
    refine hK _ _ ?_ ?_ ?_
    · rfl
    · exact RegLin.keeps_below hcm hpr hc (Below.refl _ _)
    · exact rfl
  · intro V W hc hp hd K hK _
    clear hd
    have HCC := Lib.hid hc
    clear hc hp
    go_wp2_with (first | (refine wpList_load_row rfl 45 _ rfl k rfl 45 (enB y).toArray (0, 0) _ (HKM.out W HCC.out) Tryz.underlying45 rfl size_Msg ?_))
    refine hK _ _ ?_ ?_ ?_
    · rfl
    · exact RegLin.keeps_below hcm hpr HCC.out (Below.refl _ _)
    · exact rfl
  · intro V W hc hp hd K hK _
    have h5 : (V 27) = vBeat y := hd 5 (by decide) (by kernel_rfl) (RegLin.useL_ok (by kernel_rfl))
    clear hd
    have HCC := Lib.hid hc
    clear hc hp
    go_wp2_with fail
    refine hK _ _ ?_ ?_ ?_
    · rfl
    · exact RegLin.keeps_below hcm hpr HCC.out ((Below.refl _ _).alloc (Nat.le_refl _) _)
    · exact ⟨_, rfl, by simp, new_beat W y⟩
  · intro V W hc hp hd K hK _
    have h4 : (V 26) = .slice ao n ac := hd 4 (by decide) (by kernel_rfl) (RegLin.useL_ok (by kernel_rfl))
    have h6 : ∃ g, (V 28) = .slice (some ⟨g, 0, none⟩) 1 1 ∧ g < W.heap.size ∧ ∀ j u, (enB y)[j]? = some u → W.cell? ⟨g, j, none⟩ = some u := hd 6 (by decide) (by kernel_rfl) (RegLin.useL_ok (by kernel_rfl))
    clear hd
    have HAA := Lib.hid (hp rfl)
    obtain ⟨gn, e6, hgl, hgc⟩ := h6
    have ea := h4
    have hbw : base ≤ W.heap.size := Nat.le_trans hbz6 hc.size
    have HCC := Lib.hid hc
    clear hc hp
    go_wp2_with (at_builtin; refine wpList_append_own_loc rfl (.tmp 26) (.tmp 28) 32 rfl base 45 i0 (.agg zB.toArray) zB 112 Tryz.underlying32 HI.out.1 HI.out.2.1 rfl HI.out.2.2.1 HI.out.2.2.2 (by decide) (.slice ao n ac) n (L.flatMap enB) (by first | rfl | exact ea) HAA.out ⟨gn, 0, none⟩ 1 1 (enB y) (by first | rfl | exact e6) (by decide) rfl (news_beat hgc) (enB_one y) (by unfold maxLen; omega) (by omega) hbw ?_)
    intro v1 w1 g1 g2 g3
    have G1 := Lib.hid (show w1.ownsRow base 45 17 v1 (n + 1) ((L ++ [y]).flatMap enB) from by rw [List.flatMap_append, List.flatMap_singleton]; exact g1)
    have G2 := Lib.hid (show W6.grownBy w1 (Value.slice ao n ac).ownBlock from HCC.out.andThen g2 (fun j hj => Or.inr hj))
    clear g1 g2 g3
    go_wp2_with fail
    refine hK _ _ ?_ ?_ ?_
    · rfl
    · refine RegLin.keeps_by G2.out (by kernel_rfl) (fun j hj hne hl h => ?_)
      match j, hj, hne, hl, h with
      | 0, _, _, _, h => exact h
      | 1, _, _, _, h => exact h
      | 2, _, _, _, h => exact h
      | 3, _, _, _, h => exact h
      | 4, _, _, _, h => exact h
      | 5, _, _, _, h => exact h
      | 6, _, _, hl, _ => exact Bool.noConfusion (hl.symm.trans (show RegLin.liveB _ 10 [(6, 7)] 7 6 = false from by kernel_rfl))
      | 7, _, hne, _, _ => exact absurd rfl hne
      | 8, _, _, hl, _ => exact Bool.noConfusion (hl.symm.trans (show RegLin.liveB _ 10 [(6, 7)] 7 8 = false from by kernel_rfl))
      | 9, _, _, hl, _ => exact Bool.noConfusion (hl.symm.trans (show RegLin.liveB _ 10 [(6, 7)] 7 9 = false from by kernel_rfl))
      | j + 10, hj, _, _, _ => exact absurd hj (by omega)
    · exact G1.out
  · intro V W hc hp hd K hK _
    have h0 : (V 22) = .pointer (some ⟨g, 0, none⟩) := hd 0 (by decide) (by kernel_rfl) (RegLin.useL_ok (by kernel_rfl))
    clear hd
    go_wp2_with fail
    refine hK _ _ ?_ ?_ ?_
    · rfl
    · exact RegLin.keeps_below hcm hpr hc (Below.refl _ _)
    · exact rfl
  · intro V W hc hp hd K hK _
    have h8 : (V 30) = .pointer (some ⟨g, 0, none⟩) := hd 8 (by decide) (by kernel_rfl) (RegLin.useL_ok (by kernel_rfl))
    clear hd
    go_wp2_with fail
    refine hK _ _ ?_ ?_ ?_
    · rfl
    · exact RegLin.keeps_below hcm hpr hc (Below.refl _ _)
    · exact rfl
  · intro V W hc hd
    have h7 : W.ownsRow base 45 17 (V 29) (n + 1) ((L ++ [y]).flatMap enB) := hd 7 (by decide) rfl
    have h9 : (V 31) = .pointer (some ⟨g, 0, none⟩) := hd 9 (by decide) rfl
    clear hd
    simp only [List.drop_succ_cons, List.drop_zero]
    have HC9 := Lib.hid hc
    have H9 := Lib.hid h7
    obtain ⟨bo, bc, e9⟩ := row_form h7
    obtain ⟨s0, s1, f0, f1⟩ := HKX.out W hc
    clear h7 hc
    rw [e9] at H9
    have hgg : W.grownBy (W.setCell ⟨g, 0, none⟩ (.slice bo (n + 1) bc)) (some g) := grown_setCell (World.grownBy.refl _ _) (Or.inl rfl) _
    have HFIN := Lib.hid (show NetAt (W.setCell ⟨g, 0, none⟩ (.slice bo (n + 1) bc)) g base (.slice bo (n + 1) bc) (L ++ [y]) from by
      have hlt : base ≤ W.heap.size := Nat.le_trans hbz6 HC9.out.size
      refine ⟨HA6.out.lt, by simpa using hlt, by go_simp, by go_simp, by go_simp, by go_simp, ?_, (HTG.out W HC9.out).elim fun cur ht => ⟨_, heap_setCell_same W g 0 _ _ _ ht⟩⟩
      have h1 := H9.out.kept hgg (by
        cases hv : (Value.slice bo (n + 1) bc).ownBlock with
        | none => exact Or.inl rfl
        | some q => exact Or.inr (fun e => by have h := (H9.out.lt q hv).1; have e2 : q = g := by simpa using e
                                              have := HA6.out.lt; omega))
      rw [List.length_append, ← HN.out]
      exact h1)
    have HFB := Lib.hid (show Below g w (W.setCell ⟨g, 0, none⟩ (.slice bo (n + 1) bc)) from by
      have h1 : Below g w W6 := HB6.out.mono (by omega)
      have h2 : Below g w W := h1.grown HC9.out (by have := HA6.out.lt; omega) (fun j hj => by have := (HLT.out j hj).1; have := HA6.out.lt; omega)
      exact h2.setCell (p := ⟨g, 0, none⟩) (Nat.le_refl _) _)
    have HFR := Lib.hid (show ∀ i, i < w.heap.size → i ≠ g → (Value.slice ao n ac).ownBlock ≠ some i → (W.setCell ⟨g, 0, none⟩ (.slice bo (n + 1) bc)).heap[i]? = w.heap[i]? from fun i hi hig hiv => by
      have h1 := HB6.out.block i (by rw [HK.out]; exact hi)
      have hi6 : i < W6.heap.size := Nat.lt_of_lt_of_le hi HB6.out.size
      have h2 := HC9.out.block i hi6 (fun e => hiv e.symm)
      have h3 := hgg.block i (Nat.lt_of_lt_of_le hi6 HC9.out.size) (fun e => hig (by simpa using e))
      exact h3.trans (h2.trans h1))
    have HKR := Lib.hid (show KeepR w1 (W.setCell ⟨g, 0, none⟩ (.slice bo (n + 1) bc)) from HK6.out.trans ((KeepR.row HC9.out HOW.out).trans (KeepR.grown hgg (HTG.out W HC9.out).choose_spec (Or.inr rfl))))
    have HF1 := Lib.hid (show Below w.heap.size w w1 from HB2.out)
    clear hgg
    go_wp2_with fail
    go_ret
    refine ⟨rfl, ⟨V', .slice bo (n + 1) bc, w1, ?_, HQ1.out, HF1.out, HKR.out⟩, HFB.out, by rw [← HN.out]; exact HFR.out⟩
    have h := HFIN.out
    rw [HY.out] at h
    exact h
theorem load_row_w {P : Program} {ops : Array Oper} {rest : List Oper} {o : Oper} {a : Act} {w : World} {Q : Exit → Act → World → Prop} (hw : Region.wanted o (yielded ops a.tmps) = true) (ty : TypeId) (x : Operand) (ho : o.op = .load ty x)
    (g : Nat) (hx : a.eval x = .pointer (some ⟨g, 0, none⟩)) (t : TypeId) (cs : Array Value) (fr : Nat × Nat) (d : TypeDesc) (hg : w.heap[g]? = some (.cells cs t fr))
    (hu : P.underlying ty = some d) (hd : (match d with | .struct _ | .array _ _ => true | _ => false) = true) (hi : (P.info? ty).map (·.size) = some cs.size)
    (h : wpList P ops Q rest (a.put o.dst (.agg cs)) w) : wpList P ops Q (o :: rest) a w :=
  wpList_step fun _ hK => by rw [if_pos hw]; exact wp_load_row ty x ho g hx t cs fr d hg hu hd hi (hK _ _ h)
theorem below_row {n : Nat} {w0 w : World} (h : RowKit.Below n w0 w) (g : Nat) (hg : n ≤ g) (cs : Array Value) : RowKit.Below n w0 (w.setRow g cs) := by
  have hs : (w.setRow g cs).heap.size = w.heap.size := by simp [World.setRow]
  exact ⟨h.os, h.tape, h.output, by rw [hs]; exact h.size, fun i hi => (setRow_other w g i cs (by omega)).trans (h.block i hi)⟩
theorem mk_arr (l : List Value) : Array.mk l = l.toArray := rfl
theorem size_B (a : Ms) : (Tryz.prog.info? 45).map (·.size) = some (enB a).toArray.size := size_Msg
theorem oneB (a : Ms) : (enB a).toArray.all (·.oneCell') = true := by
  rw [Array.all_eq_true_iff_forall_mem]
  intro x hx
  exact enB_one a x (by simpa using hx)

set_option maxHeartbeats 1000000 in
set_option maxRecDepth 100000 in
theorem len_any (g base : Nat) (v : Value) (L : List Ms) (w : World) (h : NetAt w g base v L) :
    Calls Tryz.prog 15 #[.pointer (some ⟨g, 0, none⟩)] w fun e w' => e = .returned (.int .i64 (L.length : Nat)) ∧ w = w' := by
  obtain ⟨ao, ac, rfl⟩ := row_form h.own
  obtain ⟨n, hn⟩ : ∃ n, n = L.length := ⟨_, rfl⟩
  have c0 := h.c0
  have c1 := h.c1
  rw [← hn] at c0 ⊢
  clear h hn
  go_enter Tryz.func15, Tryz.ntmps15
  go_wp2_with fail
  go_ret
  exact ⟨rfl, rfl⟩
set_option maxHeartbeats 1000000 in
set_option maxRecDepth 100000 in
theorem place_zero (g base : Nat) (v : Value) (L : List Ms) (w : World) (h : NetAt w g base v L) (hL : 0 < L.length) (hn : L.length ≤ 1000) :
    Calls Tryz.prog 40 #[.pointer (some ⟨g, 0, none⟩), .int .i64 0] w fun e w' => e = .returned (.int .i64 0) ∧ w = w' := by
  obtain ⟨ao, ac, rfl⟩ := row_form h.own
  obtain ⟨n, hnn⟩ : ∃ n, n = L.length := ⟨_, rfl⟩
  have c0 := h.c0
  have c1 := h.c1
  rw [← hnn] at c0 hL hn
  have hz : ((n : Int) == 0) = false := by simp; omega
  have hm : Int.tmod 0 (n : Int) = 0 := by simp
  clear h hnn
  go_enter Tryz.func40, Tryz.ntmps40
  go_wp2_with fail
  go_ret
  exact ⟨rfl, rfl⟩

theorem keep_setRow {w : World} {k : Nat} {cur : Array Value} (h : w.heap[k]? = some (.cells cur 45 (0, 0))) (cs : Array Value) : KeepR w (w.setRow k cs) :=
  KeepR.grown (k := k) ⟨rfl, rfl, rfl, by simp, fun i _ hi => setRow_other w k i _ (fun e => hi (by rw [e]))⟩ h (Or.inl rfl)

set_option maxHeartbeats 8000000 in
set_option maxRecDepth 100000 in
theorem at_any (Q : Value → World → Prop) (i : Int) (p : Nat) (a : Ms) (g base : Nat) (v : Value) (L : List Ms) (w : World) (h : NetAt w g base v L) (hp : L[p]? = some a) (hn : L.length ≤ 1000)
    (hpl : ∀ W, NetAt W g base v L → Calls Tryz.prog 40 #[.pointer (some ⟨g, 0, none⟩), .int .i64 i] W fun e w' => e = .returned (.int .i64 (p : Nat)) ∧ W = w')
    (hcall : ∀ W, Below w.heap.size w W → Calls Tryz.prog 38 #[.iface a.T a.V] W fun e w' => ∃ V', e = .returned (.iface a.T V') ∧ Q V' w' ∧ Below W.heap.size W w') :
    Calls Tryz.prog 9 #[.pointer (some ⟨g, 0, none⟩), .int .i64 i] w fun e w' => AtP Q a w e w' ∧ NetAt w' g base v L ∧ Below w.heap.size w w' := by
  obtain ⟨hpl1, hpe⟩ := List.getElem?_eq_some_iff.1 hp
  obtain ⟨gb, gc, rfl, hgc, hgb, hcell⟩ : ∃ gb gc, v = .slice (some ⟨gb, 0, none⟩) L.length gc ∧ L.length ≤ gc ∧ gb < w.heap.size ∧ ∀ j u, (enB a)[j]? = some u → w.cell? ⟨gb, p * 17 + j, none⟩ = some u := by
    rcases h.own.2 with ⟨_, h0⟩ | ⟨gb, gc, cur, rfl, h2, h3, h4, _⟩
    · omega
    · refine ⟨gb, gc, rfl, h4, (Array.getElem?_eq_some_iff.1 h3).1, fun j u hu => ?_⟩
      have hj : j < 17 := by have := (List.getElem?_eq_some_iff.1 hu).1; exact this
      have h5 := World.ownsRow.cells h.own (g := gb) rfl (p * 17 + j) u (by rw [flatMap_get (sz := 17) enB_len L p a hp j hj]; exact hu)
      rw [addr_add, Nat.zero_add] at h5
      exact h5
  obtain ⟨n, hnn⟩ : ∃ n, n = L.length := ⟨_, rfl⟩
  have hh : NetAt w g base (.slice (some ⟨gb, 0, none⟩) n gc) L := by rw [hnn]; exact h
  have hpl2 : ∀ W, NetAt W g base (.slice (some ⟨gb, 0, none⟩) n gc) L → Calls Tryz.prog 40 #[.pointer (some ⟨g, 0, none⟩), .int .i64 i] W fun e w' => e = .returned (.int .i64 (p : Nat)) ∧ W = w' := by rw [hnn]; exact hpl
  have hFIN : ∀ w', NetAt w' g base (.slice (some ⟨gb, 0, none⟩) n gc) L → NetAt w' g base (.slice (some ⟨gb, 0, none⟩) L.length gc) L := fun w' h => by rw [hnn] at h; exact h
  have hp0 : p < n := by omega
  have hn0 : n ≤ 1000 := by omega
  have hgn : n ≤ gc := by omega
  have HFI := Lib.hid hFIN
  have HPL := Lib.hid hpl2
  have HCE := Lib.hid hcell
  have HA := Lib.hid hh
  obtain ⟨W, hW⟩ : ∃ W, W = w.alloc (.cells zB.toArray 45) := ⟨_, rfl⟩
  obtain ⟨k, hk⟩ : ∃ k, k = w.heap.size := ⟨_, rfl⟩
  have hbW : Below w.heap.size w W := by rw [hW]; exact (Below.refl _ _).alloc (Nat.le_refl _) _
  have hm : W.heap[k]? = some (.cells zB.toArray 45 (0, 0)) := by rw [hW, hk]; exact heap_alloc_new w _
  have hA1 := hh.below hbW
  have HW := Lib.hid hW
  have HM := Lib.hid hm
  have HA1 := Lib.hid hA1
  have HBW := Lib.hid hbW
  have HK := Lib.hid hk
  have hkW : k < W.heap.size := (Array.getElem?_eq_some_iff.1 hm).1
  have HOB := Lib.hid hcall
  obtain ⟨-, -, c0, c1, f0, f1, -, -⟩ := hA1
  clear h hcall hpl hpl2 hFIN hh hcell hnn hW hk hbW hm hp hpe hpl1 hn hgc
  go_enter Tryz.func9, Tryz.ntmps9
  go_upto_region 1 with fail
  rw [show w.alloc (.cells #[.int .i64 0, .int .i64 0, .int .i64 0, .bool false, .bool false, .bool false, .bool false, .bool false, .int .i64 0, .int .i64 0, .int .i64 0, .int .i64 0, .int .i64 0, .int .i64 0, .int .i64 0, .int .i64 0, .nilIface] 45) = W from HW.out.symm, ← HK.out]
  go_upto_region 3 with fail
  have HX := Lib.hid (fun (W' : World) (hb : Below W.heap.size W W') => HA1.out.below hb)
  clear c0 c1 f0 f1
  have HGB := Lib.hid (fun (W' : World) (hb : Below W.heap.size W W') => (hb.block gb (Nat.lt_of_lt_of_le hgb HBW.out.size)).trans (HBW.out.block gb hgb))
  refine wp_region_told [] 10 [false, false, false, false, false, false, true, false, false, false, false, false, false, false, true, true, true, true, true, true, true, true, true, false, false, false, false, false]
    [sLit (.pointer (some ⟨g, 0, none⟩)),
    sLit (.pointer (some ⟨g, 0, none⟩)),
    sLit (.pointer (some ⟨g, 0, none⟩)),
    sLit (.slice (some ⟨gb, 0, none⟩) n gc),
    sLit (.pointer (some ⟨g, 0, none⟩)),
    sLit (.int .i64 i),
    sLit (.int .i64 (p : Nat)),
    sLit (.pointer (some ⟨gb, p * 17, none⟩)),
    sLit (vBeat a),
    sOne (fun v W' => ∃ q, v = .pointer (some ⟨q, 0, none⟩) ∧ W'.heap[q]? = some (.cells zB.toArray 45 (0, 0)) ∧ W.heap.size ≤ q) (fun _ _ _ h hb => h.elim fun q h => ⟨q, h.1, (hb.block q (Array.getElem?_eq_some_iff.1 h.2.1).1).trans h.2.1, h.2.2⟩)] (by kernel_rfl) (by kernel_rfl) (by kernel_rfl) (fun F hF => ?_)
  simp only [over, overL, Nat.reduceAdd] at hF
  obtain rfl := funext hF
  clear hF
  refine ⟨⟨?_, ?_, ?_, ?_, ?_, ?_, ?_, ?_, ?_, ?_, trivial⟩, ?_⟩
  · intro V W' hb hd K hK _
    clear hd
    go_wp2_with fail
    refine hK _ _ ?_ ?_ ?_ ?_
    · rfl
    · exact Below.refl _ _
    · exact rfl
    · trivial
  · intro V W' hb hd K hK _
    have h0 : (V 14) = .pointer (some ⟨g, 0, none⟩) := hd 0 (by kernel_rfl)
    clear hd
    go_wp2_with fail
    refine hK _ _ ?_ ?_ ?_ ?_
    · rfl
    · exact Below.refl _ _
    · exact rfl
    · trivial
  · intro V W' hb hd K hK _
    have h1 : (V 15) = .pointer (some ⟨g, 0, none⟩) := hd 1 (by kernel_rfl)
    clear hd
    go_wp2_with fail
    refine hK _ _ ?_ ?_ ?_ ?_
    · rfl
    · exact Below.refl _ _
    · exact rfl
    · trivial
  · intro V W' hb hd K hK _
    have h2 : (V 16) = .pointer (some ⟨g, 0, none⟩) := hd 2 (by kernel_rfl)
    clear hd
    obtain ⟨-, -, s0, s1, -, -, -⟩ := HX.out W' hb
    go_wp2_with fail
    refine hK _ _ ?_ ?_ ?_ ?_
    · rfl
    · exact Below.refl _ _
    · exact rfl
    · trivial
  · intro V W' hb hd K hK _
    clear hd
    go_wp2_with fail
    refine hK _ _ ?_ ?_ ?_ ?_
    · rfl
    · exact Below.refl _ _
    · exact rfl
    · trivial
  · intro V W' hb hd K hK _
    clear hd
    go_wp2_with fail
    refine hK _ _ ?_ ?_ ?_ ?_
    · rfl
    · exact Below.refl _ _
    · exact rfl
    · trivial
  · intro V W' hb hd K hK _
    have h4 : (V 18) = .pointer (some ⟨g, 0, none⟩) := hd 4 (by kernel_rfl)
    have h5 : (V 19) = .int .i64 i := hd 5 (by kernel_rfl)
    clear hd
    go_wp2_with fail
    refine (HPL.out _ (HX.out _ hb)).mono ?_
    rintro e w1 ⟨rfl, rfl⟩
    go_wp2_with fail
    refine hK _ _ ?_ ?_ ?_ ?_
    · rfl
    · exact Below.refl _ _
    · exact rfl
    · trivial
  · intro V W' hb hd K hK _
    have h3 : (V 17) = .slice (some ⟨gb, 0, none⟩) n gc := hd 3 (by kernel_rfl)
    have h6 : (V 20) = .int .i64 (p : Nat) := hd 6 (by kernel_rfl)
    clear hd
    go_wp2_with fail
    refine hK _ _ ?_ ?_ ?_ ?_
    · rfl
    · exact Below.refl _ _
    · exact rfl
    · trivial
  · intro V W' hb hd K hK _
    have h7 : (V 21) = .pointer (some ⟨gb, p * 17, none⟩) := hd 7 (by kernel_rfl)
    clear hd
    have hcs : ∀ j u, (enB a)[j]? = some u → W'.cell? ⟨gb, p * 17 + j, none⟩ = some u := fun j u hu => (World.cell?_of_block (a := ⟨gb, p * 17 + j, none⟩) (HGB.out W' hb)).trans (HCE.out j u hu)
    have m0 : W'.cell? ⟨gb, p * 17, none⟩ = some (.int .i64 a.f) := hcs 0 _ rfl
    have m1 : W'.cell? ⟨gb, p * 17 + 1, none⟩ = some (.int .i64 0) := hcs 1 _ rfl
    have m2 : W'.cell? ⟨gb, p * 17 + 2, none⟩ = some (.int .i64 0) := hcs 2 _ rfl
    have m3 : W'.cell? ⟨gb, p * 17 + 3, none⟩ = some (.bool false) := hcs 3 _ rfl
    have m4 : W'.cell? ⟨gb, p * 17 + 4, none⟩ = some (.bool false) := hcs 4 _ rfl
    have m5 : W'.cell? ⟨gb, p * 17 + 5, none⟩ = some (.bool false) := hcs 5 _ rfl
    have m6 : W'.cell? ⟨gb, p * 17 + 6, none⟩ = some (.bool false) := hcs 6 _ rfl
    have m7 : W'.cell? ⟨gb, p * 17 + 7, none⟩ = some (.bool false) := hcs 7 _ rfl
    have m8 : W'.cell? ⟨gb, p * 17 + 8, none⟩ = some (.int .i64 0) := hcs 8 _ rfl
    have m9 : W'.cell? ⟨gb, p * 17 + 9, none⟩ = some (.int .i64 0) := hcs 9 _ rfl
    have m10 : W'.cell? ⟨gb, p * 17 + 10, none⟩ = some (.int .i64 0) := hcs 10 _ rfl
    have m11 : W'.cell? ⟨gb, p * 17 + 11, none⟩ = some (.int .i64 0) := hcs 11 _ rfl
    have m12 : W'.cell? ⟨gb, p * 17 + 12, none⟩ = some (.int .i64 0) := hcs 12 _ rfl
    have m13 : W'.cell? ⟨gb, p * 17 + 13, none⟩ = some (.int .i64 0) := hcs 13 _ rfl
    have m14 : W'.cell? ⟨gb, p * 17 + 14, none⟩ = some (.int .i64 0) := hcs 14 _ rfl
    have m15 : W'.cell? ⟨gb, p * 17 + 15, none⟩ = some (.int .i64 0) := hcs 15 _ rfl
    have m16 : W'.cell? ⟨gb, p * 17 + 16, none⟩ = some (.iface a.T a.V) := hcs 16 _ rfl
    clear hcs
    go_wp2_with fail
    refine hK _ _ ?_ ?_ ?_ ?_
    · rfl
    · exact Below.refl _ _
    · exact rfl
    · trivial
  · intro V W' hb hd K hK _
    clear hd
    go_wp2_with fail
    refine hK _ _ ?_ ?_ ?_ ?_
    · rfl
    · exact (Below.refl _ _).alloc (Nat.le_refl _) _
    · exact ⟨_, rfl, heap_alloc_new _ _, hb.size⟩
    · trivial
  · intro V W' hb hd hap
    have h8 : (V 22) = vBeat a := hd 8 (by decide)
    have h9 : ∃ q, (V 6) = .pointer (some ⟨q, 0, none⟩) ∧ W'.heap[q]? = some (.cells zB.toArray 45 (0, 0)) ∧ W.heap.size ≤ q := hd 9 (by decide)
    clear hd hap
    simp only [List.drop_succ_cons, List.drop_zero]
    obtain ⟨q, e9, hq, hqs⟩ := h9
    have HQ := Lib.hid hq
    have HBB := Lib.hid hb
    clear hq hb
    obtain ⟨W5, hW5⟩ : ∃ W5, W5 = W'.setRow q (enB a).toArray := ⟨_, rfl⟩
    have hm5 : MsgAt W5 q a := by unfold MsgAt; rw [hW5]; exact setRow_heap _ _ _ _ _ _ HQ.out
    have hb5 : Below W.heap.size W W5 := by rw [hW5]; exact below_row HBB.out q hqs _
    have HM5 := Lib.hid hm5
    have HB5 := Lib.hid hb5
    have p16 : W5.cell? ⟨q, 16, none⟩ = some (.iface a.T a.V) := hm5.cell 16
    have HKQ := Lib.hid (show k ≠ q from by omega)
    have HW5 := Lib.hid hW5
    clear hW5 hm5 hb5
    go_wp2_with (first | (refine wpList_store_row rfl 45 _ _ rfl q (enB a).toArray (by first | rfl | exact e9) (by first | rfl | exact h8) 45 zB.toArray HQ.out (size_B a) rfl (oneB a) ?_; rw [← HW5.out]))
    clear h8 e9
    refine (HOB.out _ (below_then HBW.out (Nat.le_refl _) HB5.out)).mono ?_
    rintro e w6 ⟨V', rfl, hq6, hb6⟩
    obtain ⟨y, hy⟩ : ∃ y : Ms, y = ⟨a.f, a.T, V'⟩ := ⟨_, rfl⟩
    have HY := Lib.hid hy
    have HQ6 := Lib.hid hq6
    have HM6 := Lib.hid (HM5.out.below hb6)
    have HB6 := Lib.hid (below_then HB5.out (Nat.le_refl _) hb6)
    have q16 : w6.frozen? ⟨q, 16, none⟩ = false := frozen_of_row w6 q 16 _ _ HM6.out
    have r16 : w6.cell? ⟨q, 16, none⟩ = some (.iface a.T a.V) := HM6.out.cell 16
    clear p16 hb6 hq6 hy
    go_upto_region 5 with fail
    obtain ⟨W7, hW7⟩ : ∃ W7, W7 = w6.setCell ⟨q, 16, none⟩ (.iface a.T V') := ⟨_, rfl⟩
    rw [← hW7]
    have hm7 : MsgAt W7 q y := by rw [hW7, HY.out]; exact HM6.out.body _
    have HK7 := Lib.hid (show KeepR w6 W7 from by rw [hW7]; exact KeepR.grown (grown_setCell (World.grownBy.refl _ _) (Or.inl rfl) _) HM6.out (Or.inl rfl))
    have hb7 : Below W.heap.size W W7 := by rw [hW7]; exact HB6.out.setCell (p := ⟨q, 16, none⟩) hqs _
    have HM7 := Lib.hid hm7
    have HB7 := Lib.hid hb7
    have HZ7 := Lib.hid (show W7.heap[k]? = some (.cells zB.toArray 45 (0, 0)) from (hb7.block k hkW).trans HM.out)
    clear hW7 hm7 hb7 q16 r16
    have hm8 : MsgAt (W7.setRow k (enB y).toArray) k y := by unfold MsgAt; exact setRow_heap _ _ _ _ _ _ HZ7.out
    have hB8 : Below w.heap.size w (W7.setRow k (enB y).toArray) := below_row (below_then HBW.out (Nat.le_refl _) HB7.out) k (by rw [HK.out]; exact Nat.le_refl _) _
    have hN8 := HFI.out _ (HA.out.below hB8)
    have HM8 := Lib.hid hm8
    have HF8 := Lib.hid (And.intro hN8 hB8)
    clear hm8 hB8 hN8
    go_wp2_with (first
      | (refine wpList_load_row rfl 45 _ rfl q rfl 45 (enB y).toArray (0, 0) _ HM7.out Tryz.underlying45 rfl (size_B y) ?_)
      | (refine wpList_store_row rfl 45 _ _ rfl k (enB y).toArray rfl rfl 45 zB.toArray HZ7.out (size_B y) rfl (oneB y) ?_))
    have u0 : (W7.setRow k (enB y).toArray).cell? ⟨k, 0, none⟩ = some (.int .i64 y.f) := HM8.out.cell 0
    have u1 : (W7.setRow k (enB y).toArray).cell? ⟨k, 1, none⟩ = some (.int .i64 0) := HM8.out.cell 1
    have u2 : (W7.setRow k (enB y).toArray).cell? ⟨k, 2, none⟩ = some (.int .i64 0) := HM8.out.cell 2
    have u3 : (W7.setRow k (enB y).toArray).cell? ⟨k, 3, none⟩ = some (.bool false) := HM8.out.cell 3
    have u4 : (W7.setRow k (enB y).toArray).cell? ⟨k, 4, none⟩ = some (.bool false) := HM8.out.cell 4
    have u5 : (W7.setRow k (enB y).toArray).cell? ⟨k, 5, none⟩ = some (.bool false) := HM8.out.cell 5
    have u6 : (W7.setRow k (enB y).toArray).cell? ⟨k, 6, none⟩ = some (.bool false) := HM8.out.cell 6
    have u7 : (W7.setRow k (enB y).toArray).cell? ⟨k, 7, none⟩ = some (.bool false) := HM8.out.cell 7
    have u8 : (W7.setRow k (enB y).toArray).cell? ⟨k, 8, none⟩ = some (.int .i64 0) := HM8.out.cell 8
    have u9 : (W7.setRow k (enB y).toArray).cell? ⟨k, 9, none⟩ = some (.int .i64 0) := HM8.out.cell 9
    have u10 : (W7.setRow k (enB y).toArray).cell? ⟨k, 10, none⟩ = some (.int .i64 0) := HM8.out.cell 10
    have u11 : (W7.setRow k (enB y).toArray).cell? ⟨k, 11, none⟩ = some (.int .i64 0) := HM8.out.cell 11
    have u12 : (W7.setRow k (enB y).toArray).cell? ⟨k, 12, none⟩ = some (.int .i64 0) := HM8.out.cell 12
    have u13 : (W7.setRow k (enB y).toArray).cell? ⟨k, 13, none⟩ = some (.int .i64 0) := HM8.out.cell 13
    have u14 : (W7.setRow k (enB y).toArray).cell? ⟨k, 14, none⟩ = some (.int .i64 0) := HM8.out.cell 14
    have u15 : (W7.setRow k (enB y).toArray).cell? ⟨k, 15, none⟩ = some (.int .i64 0) := HM8.out.cell 15
    have u16 : (W7.setRow k (enB y).toArray).cell? ⟨k, 16, none⟩ = some (.iface y.T y.V) := HM8.out.cell 16
    refine bodyPost_ret (v := .tuple #[vBeat y, .bool true]) (by simp [results, Tryz.f9, go_sem, u0, u1, u2, u3, u4, u5, u6, u7, u8, u9, u10, u11, u12, u13, u14, u15, u16]) rfl ⟨⟨V', w6, by rw [HY.out], HQ6.out, below_then HBW.out (Nat.le_refl _) HB6.out, HK7.out.trans (keep_setRow HZ7.out _)⟩, HF8.out⟩
end Go.Proofs.YtemckpmedjennaaGreatDoor.NetG
