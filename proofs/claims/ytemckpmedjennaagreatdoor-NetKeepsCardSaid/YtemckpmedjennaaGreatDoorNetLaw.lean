/- net.Net.Double at messages that say 'beat'; the law's alive; the walk of NetSays (layer 22). PRINTED by wip/gennetlaw.py. -/
import Derived.Test.YtemckpmedjennaaGreatDoorNetAlive
import Derived.Test.YtemckpmedjennaaGreatDoorArrEq
import Derived.Laws.Tables
import Derived.Deep.WholeRow
import Derived.Great.BuildSlice
import Derived.Laws.CopyOwn
import Derived.Great.Walk
set_option linter.unusedSimpArgs false
set_option linter.unusedVariables false
namespace Go.Proofs.YtemckpmedjennaaGreatDoor.NetW
open Go.RowKit Go.Proofs.YtemckpmedjennaaGreatDoor.Spare Go.Proofs.YtemckpmedjennaaGreatDoor.RegInv

set_option maxHeartbeats 4000000 in
set_option maxRecDepth 100000 in
theorem double_beat (a : Int) (g base : Nat) (v : Value) (L : List Int) (w : World) (h : NetAt w g base v L) (hL : L.length = 2) (hp : L[0]? = some a) :
    Calls Tryz.prog 44 #[.pointer (some ⟨g, 0, none⟩), .int .i64 0] w fun e w' => e = .returned (.bool true) ∧ (∃ v', NetAt w' g base v' (L ++ [a])) ∧ Below g w w' ∧ ∀ i, i < w.heap.size → i ≠ g → v.ownBlock ≠ some i → w'.heap[i]? = w.heap[i]? := by
  have HAT := Lib.hid (at_beat 0 0 a g base v L w h hp (by omega) (fun W hW => place_first g base v L W hW hL))
  have HSE := Lib.hid (fun W (hW : NetAt W g base v L) => send_beat a g base v L W hW (by omega))
  have hgl : g < w.heap.size := Nat.lt_of_lt_of_le h.lt h.low
  clear h hL hp
  go_enter Tryz.func44, Tryz.ntmps44
  go_wp2_with fail
  refine HAT.out.mono ?_
  rintro e w1 ⟨rfl, hA1, hb1⟩
  obtain ⟨W2, hW2⟩ : ∃ W2, W2 = (w1.alloc (.cells #[.int .i64 0, .int .i64 0, .int .i64 0, .bool false, .bool false, .bool false, .bool false, .bool false, .int .i64 0, .int .i64 0, .int .i64 0, .int .i64 0, .int .i64 0, .int .i64 0, .int .i64 0, .int .i64 0, .nilIface] 45)).setRow w1.heap.size (enB a).toArray := ⟨_, rfl⟩
  have hW3 : W2 = w1.alloc (.cells (enB a).toArray 45) := by rw [hW2, World.setRow_alloc_new]
  have hm2 : MsgAt W2 w1.heap.size a := by rw [hW3]; exact heap_alloc_new w1 _
  have hb2 : Below w1.heap.size w1 W2 := by rw [hW3]; exact (Below.refl _ _).alloc (Nat.le_refl _) _
  have HW2 := Lib.hid hW2
  have HM2 := Lib.hid hm2
  have HA2 := Lib.hid (hA1.below hb2)
  have HB2 := Lib.hid (below_then hb1 (Nat.le_refl _) hb2)
  clear hW2 hW3 hm2 hb2 hA1 hb1
  go_wp2_with (first
    | (refine wpList_store_row rfl 45 _ _ rfl w1.heap.size (enB a).toArray rfl rfl 45 zB.toArray (heap_alloc_new w1 _) (size_B a) rfl (oneB a) ?_; rw [← HW2.out])
    | (refine load_row_w rfl 45 _ rfl w1.heap.size rfl 45 (enB a).toArray (0, 0) _ HM2.out Tryz.underlying45 rfl (size_B a) ?_))
  refine (HSE.out _ HA2.out).mono ?_
  rintro e w3 ⟨rfl, hex, hb3, hfr⟩
  have HFR := Lib.hid (show ∀ i, i < w.heap.size → i ≠ g → v.ownBlock ≠ some i → w3.heap[i]? = w.heap[i]? from fun i hi h1 h2 => (hfr i (Nat.lt_of_lt_of_le hi HB2.out.size) h1 h2).trans (HB2.out.block i hi))
  have HEX := Lib.hid hex
  have HB3 := Lib.hid (show Below g w w3 from (HB2.out.mono (Nat.le_of_lt hgl)).trans hb3)
  clear hex hb3 hfr
  go_wp2_with fail
  go_ret
  exact ⟨rfl, HEX.out, HB3.out, HFR.out⟩

set_option maxHeartbeats 4000000 in
set_option maxRecDepth 100000 in
theorem alive_any (w : World) : Calls Tryz.prog 16 #[] w fun e w' => e = .returned (.bool true) ∧ Below w.heap.size w w' := by
  have HS := Lib.hid (fun (a : Int) (g base : Nat) (v : Value) (L : List Int) (W : World) (h : NetAt W g base v L) (hL : L.length < 100) => send_beat a g base v L W h hL)
  have HAT := Lib.hid (fun (g base : Nat) (v : Value) (W : World) (h : NetAt W g base v [1, 2]) => at_beat (-1) 1 2 g base v [1, 2] W h rfl (by decide) (fun W hW => place_last g base v [1, 2] W hW rfl))
  have HDB := Lib.hid (fun (g base : Nat) (v : Value) (W : World) (h : NetAt W g base v [1, 2]) => double_beat 1 g base v [1, 2] W h rfl rfl)
  have HLE := Lib.hid (fun (g base : Nat) (v : Value) (W : World) (h : NetAt W g base v [1, 2, 1]) => show Calls Tryz.prog 15 #[.pointer (some ⟨g, 0, none⟩)] W (fun e w' => e = .returned (.int .i64 3) ∧ W = w') from len_beat g base v [1, 2, 1] W h)
  have HSY := Lib.hid (fun (W : World) => show Calls Tryz.prog 13 #[vBeat 2] W (fun e w' => e = .returned (.string ⟨#[98, 101, 97, 116]⟩) ∧ Below W.heap.size W w') from says_Beat (fun i => (enB 2).getD i undef) #[] W)
  obtain ⟨W0, hW0⟩ : ∃ W0, W0 = w.alloc (.cells #[.slice none 0 0, .int .i64 0] 34) := ⟨_, rfl⟩
  obtain ⟨g, hg⟩ : ∃ g, g = w.heap.size := ⟨_, rfl⟩
  have hsz : W0.heap.size = w.heap.size + 1 := by rw [hW0]; simp
  have hN0 : NetAt W0 g (g + 1) (.slice none 0 0) [] := by
    rw [hg]
    refine ⟨by omega, by omega, ?_, ?_, ?_, ?_, World.ownsRow_nil _ _ _ _⟩ <;> (rw [hW0]; go_simp)
  have hB0 : Below w.heap.size w W0 := by rw [hW0]; exact (Below.refl _ _).alloc (Nat.le_refl _) _
  have HW0 := Lib.hid hW0
  have HG := Lib.hid hg
  have HN0 := Lib.hid hN0
  have HB0 := Lib.hid hB0
  clear hW0 hg hsz hN0 hB0
  go_enter Tryz.func16, Tryz.ntmps16
  go_upto_region 2 with fail
  rw [← HW0.out, ← HG.out]
  go_wp2_with fail
  refine (HS.out 1 g (g + 1) _ [] W0 HN0.out (by decide)).mono ?_
  rintro e w1 ⟨rfl, ⟨v1, hn1⟩, hb1, -⟩
  have HN1 := Lib.hid hn1
  have HB1 := Lib.hid (show Below w.heap.size w w1 from HB0.out.trans (by rw [← HG.out]; exact hb1))
  clear hn1 hb1
  go_wp2_with fail
  refine (HS.out 2 g (g + 1) _ [1] w1 HN1.out (by decide)).mono ?_
  rintro e w2 ⟨rfl, ⟨v2, hn2⟩, hb2, -⟩
  have HN2 := Lib.hid (show NetAt w2 g (g + 1) v2 [1, 2] from hn2)
  have HB2 := Lib.hid (show Below w.heap.size w w2 from HB1.out.trans (by rw [← HG.out]; exact hb2))
  clear hn2 hb2
  go_wp2_with fail
  refine (HAT.out g (g + 1) v2 w2 HN2.out).mono ?_
  rintro e w3 ⟨rfl, hn3, hb3⟩
  obtain ⟨W4, hW4⟩ : ∃ W4, W4 = (w3.alloc (.cells #[.int .i64 0, .int .i64 0, .int .i64 0, .bool false, .bool false, .bool false, .bool false, .bool false, .int .i64 0, .int .i64 0, .int .i64 0, .int .i64 0, .int .i64 0, .int .i64 0, .int .i64 0, .int .i64 0, .nilIface] 45)).setRow w3.heap.size (enB 2).toArray := ⟨_, rfl⟩
  have hW5 : W4 = w3.alloc (.cells (enB 2).toArray 45) := by rw [hW4, World.setRow_alloc_new]
  have hm4 : MsgAt W4 w3.heap.size 2 := by rw [hW5]; exact heap_alloc_new w3 _
  have hb4 : Below w3.heap.size w3 W4 := by rw [hW5]; exact (Below.refl _ _).alloc (Nat.le_refl _) _
  obtain ⟨k, hk⟩ : ∃ k, k = w3.heap.size := ⟨_, rfl⟩
  have hgk : g < k := by rw [hk]; exact Nat.lt_of_lt_of_le hn3.lt hn3.low
  have HVK := Lib.hid (show v2.ownBlock ≠ some k from fun e => by have := (hn3.own.lt k e).2; omega)
  rw [← hk] at hm4
  have HW4 := Lib.hid hW4
  have HK := Lib.hid hk
  have HM4 := Lib.hid hm4
  have HN4 := Lib.hid (hn3.below hb4)
  have HB4 := Lib.hid (show Below w.heap.size w W4 from below_then (below_then HB2.out (Nat.le_refl _) hb3) (Nat.le_refl _) hb4)
  clear hW4 hk hW5 hm4 hb4 hn3 hb3
  go_wp2_with (first
    | (refine wpList_store_row rfl 45 _ _ rfl w3.heap.size (enB 2).toArray rfl rfl 45 zB.toArray (heap_alloc_new w3 _) (size_B 2) rfl (oneB 2) ?_; rw [← HW4.out, ← HK.out]))
  refine (HDB.out g (g + 1) v2 W4 HN4.out).mono ?_
  rintro e w5 ⟨rfl, ⟨v5, hn5⟩, hb5, hfr5⟩
  have HN5 := Lib.hid (show NetAt w5 g (g + 1) v5 [1, 2, 1] from hn5)
  have HB5 := Lib.hid (show Below w.heap.size w w5 from HB4.out.trans (by rw [← HG.out]; exact hb5))
  have HM5 := Lib.hid (show MsgAt w5 k 2 from (hfr5 k HM4.out.lt (by omega) HVK.out).trans HM4.out)
  have u0 : w5.cell? ⟨k, 0, none⟩ = some (.int .i64 2) := HM5.out.cell 0
  clear hn5 hb5 hfr5
  go_wp2_with fail
  refine (HLE.out g (g + 1) v5 w5 HN5.out).mono ?_
  rintro e w6 ⟨rfl, rfl⟩
  go_wp2_with (first
    | (refine load_row_w rfl 45 _ rfl k rfl 45 (enB 2).toArray (0, 0) _ HM5.out Tryz.underlying45 rfl (size_B 2) ?_))
  refine (HSY.out _).mono ?_
  rintro e w7 ⟨rfl, hb7⟩
  have HB7 := Lib.hid (below_then HB5.out (Nat.le_refl _) hb7)
  clear hb7
  go_wp2_with fail
  go_ret
  exact ⟨rfl, HB7.out⟩

def words10 : Array Value := #[.string ⟨#[119, 114, 105, 116, 101]⟩, .string ⟨#[97, 99, 107]⟩, .string ⟨#[97, 115, 107]⟩, .string ⟨#[97, 110, 115, 119, 101, 114]⟩, .string ⟨#[112, 114, 101, 112, 97, 114, 101]⟩, .string ⟨#[114, 101, 112, 111, 114, 116]⟩, .string ⟨#[105, 110, 115, 116, 97, 108, 108]⟩, .string ⟨#[100, 111, 110, 101]⟩, .string ⟨#[102, 105, 110, 105, 115, 104]⟩, .string ⟨#[]⟩]
theorem one_ten : words10.all (·.oneCell') = true := by decide +kernel
def zN (n : Int) : List Value := [.int .i64 n, .int .i64 0, .int .i64 0, .bool false, .bool false, .bool false, .bool false, .bool false, .int .i64 0, .int .i64 0, .int .i64 0, .int .i64 0, .int .i64 0, .int .i64 0, .int .i64 0, .int .i64 0, .nilIface]
end Go.Proofs.YtemckpmedjennaaGreatDoor.NetW
