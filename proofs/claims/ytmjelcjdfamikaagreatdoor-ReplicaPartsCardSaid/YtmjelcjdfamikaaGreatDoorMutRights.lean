/- MutKeys, MutOver, MutRight, MutAsk: in one text. -/
import Derived.Test.YtmjelcjdfamikaaGreatDoorMutWords
import Derived.Laws.Closers25
import Derived.Test.YtmjelcjdfamikaaGreatDoorMutRows
import Derived.Test.YtmjelcjdfamikaaGreatDoorMutDel
set_option linter.unusedSimpArgs false
set_option linter.unusedVariables false
/- The walks of runes.bad, Val, Key (layer 1). -/
namespace Go.Proofs.YtmjelcjdfamikaaGreatDoor.Mut
open Go.RowKit Go.Sort Go.Proofs.YtmjelcjdfamikaaGreatDoor.Ord
set_option linter.unusedSectionVars false
variable [Inhabited Lim]

/-- Is a rune that was told at a place one of a byte that begins none? -/
def badF (s : ByteArray) (i : Nat) (r : Int) : Bool := decide (r = 65533) && decide (((Lib.decodeGo (s.extract i s.size)).2 : Int) < 2)
def valFrom (s : ByteArray) : Nat → Nat → Bool
  | 0, _ => true
  | f + 1, pos => if pos < s.size then (if badF s pos (Utf8.decode s pos).1 then false else valFrom s f (pos + (Utf8.decode s pos).2)) else true
def valF (s : ByteArray) : Bool := decide (s.size ≤ 64) && valFrom s s.size 0
def keyFrom (s : ByteArray) : Nat → Nat → Bool
  | 0, _ => true
  | f + 1, pos => if pos < s.size then (if badF s pos (Utf8.decode s pos).1 || !partF (Utf8.decode s pos).1 (decide ((pos : Int) = 0)) then false else keyFrom s f (pos + (Utf8.decode s pos).2)) else true
def keyF (s : ByteArray) : Bool := decide (0 < s.size) && decide (s.size ≤ 24) && keyFrom s s.size 0

set_option maxHeartbeats 2000000 in
set_option maxRecDepth 100000 in
theorem bad_any (s : ByteArray) (i : Nat) (r : Int) (w : World) (hT : Tabs w) (hi : i ≤ s.size) (hs : s.size ≤ 1000000) : Calls Tryz.prog 96 #[.string s, .int .i64 i, .int .i32 r] w fun e w' => e = .returned (.bool (badF s i r)) ∧ RowKit.Below w.heap.size w w' := by
  have hd := decode_any (s.extract i s.size) w hT
  unfold badF
  obtain ⟨a, ha⟩ : ∃ a, a = (Lib.decodeGo (s.extract i s.size)).1 := ⟨_, rfl⟩
  obtain ⟨b, hb⟩ : ∃ b, b = (Lib.decodeGo (s.extract i s.size)).2 := ⟨_, rfl⟩
  rw [← ha, ← hb] at hd
  rw [← hb]
  obtain ⟨t, ht⟩ : ∃ t, t = s.extract i s.size := ⟨_, rfl⟩
  rw [← ht] at hd
  have HT := Lib.hid ht
  have HD := Lib.hid hd
  clear ha hb hd ht hT
  by_cases h : r = 65533
  · subst h
    go_enter Tryz.func96, Tryz.ntmps96
    go_wp2_with fail
    rw [← HT.out]
    refine HD.out.mono ?_
    rintro e w1 ⟨rfl, hb⟩
    go_wp2_with fail
    go_ret
    exact ⟨ret_bool (by simp), hb⟩
  · go_enter Tryz.func96, Tryz.ntmps96
    go_wp2_with fail
    go_ret
    exact ⟨ret_bool (by simp [h]), Below.refl _ _⟩

theorem valFrom_step (s : ByteArray) (f : Nat) {pos : Nat} (h : pos < s.size) : valFrom s (f + 1) pos = (if badF s pos (Utf8.decode s pos).1 then false else valFrom s f (pos + (Utf8.decode s pos).2)) := by simp [valFrom, h]
theorem valFrom_end (s : ByteArray) (f : Nat) {pos : Nat} (h : ¬ pos < s.size) : valFrom s f pos = true := by
  cases f with
  | zero => rfl
  | succ f => simp [valFrom, h]
theorem keyFrom_step (s : ByteArray) (f : Nat) {pos : Nat} (h : pos < s.size) : keyFrom s (f + 1) pos = (if badF s pos (Utf8.decode s pos).1 || !partF (Utf8.decode s pos).1 (decide ((pos : Int) = 0)) then false else keyFrom s f (pos + (Utf8.decode s pos).2)) := by simp [keyFrom, h]
theorem keyFrom_end (s : ByteArray) (f : Nat) {pos : Nat} (h : ¬ pos < s.size) : keyFrom s f pos = true := by
  cases f with
  | zero => rfl
  | succ f => simp [keyFrom, h]

set_option maxHeartbeats 8000000 in
set_option maxRecDepth 100000 in
theorem val_any (s : ByteArray) (w : World) (hT : Tabs w) (hs : s.size ≤ 1000000) : Calls Tryz.prog 55 #[.string s] w fun e w' => e = .returned (.bool (valF s)) ∧ RowKit.Below w.heap.size w w' := by
  have HT := Lib.hid hT
  clear hT
  by_cases h64 : 64 < s.size
  · have hv : valF s = false := by unfold valF; rw [decide_eq_false (by omega)]; rfl
    rw [hv]
    clear hv
    go_enter Tryz.func55, Tryz.ntmps55
    go_wp2_with fail
    go_ret
    exact ⟨rfl, Below.refl _ _⟩
  have hv : valF s = valFrom s s.size 0 := by unfold valF; rw [decide_eq_true (by omega)]; rfl
  rw [hv]
  have HV := Lib.hid hv
  clear hv
  go_enter Tryz.func55, Tryz.ntmps55
  go_wp2_with fail
  go_loopw [] (fun wr => ∃ (pos fuel : Nat), wr.heap[w.heap.size]? = some (.stringIter s pos) ∧ Hid (Below w.heap.size w wr) ∧
    Hid (valFrom s fuel pos = valFrom s s.size 0) ∧ s.size ≤ pos + fuel) (fun wr => s.size - wr.iterPos w.heap.size)
  case atStart => exact ⟨0, s.size, World.iter_heap w s 0, Lib.hid ((Below.refl _ _).alloc (Nat.le_refl _) _), Lib.hid rfl, by omega⟩
  case round =>
    obtain ⟨pos, fuel, hit, hB, hL, hf⟩ := hrel
    have hpos0 := iter_pos hit
    by_cases hp : pos < s.size
    · have hnx : ∀ ty, (Instr.next (.pointer (some ⟨w.heap.size, 0, none⟩)) true ty).run Tryz.prog wr = _ := fun ty => Lib.run_next_any_at wr w.heap.size s pos ty hit hp
      have hwd := width_pos s pos hp
      obtain ⟨fuel, rfl⟩ : ∃ f', fuel = f' + 1 := ⟨fuel - 1, by omega⟩
      have hst := valFrom_step s fuel hp
      obtain ⟨W1, hW1⟩ : ∃ W1, W1 = wr.iterAt w.heap.size s (pos + (Utf8.decode s pos).2) := ⟨_, rfl⟩
      have hit2 : W1.heap[w.heap.size]? = some (.stringIter s (pos + (Utf8.decode s pos).2)) := by rw [hW1]; exact Lib.iterAt_heap wr w.heap.size s pos _ hit
      have hB1 : Below w.heap.size w W1 := by rw [hW1]; exact Lib.below_iterAt hB.out (Nat.le_refl _) s _
      rw [← hW1] at hnx
      rw [hst] at hL
      have hlt2 : pos < pos + (Utf8.decode s pos).2 := by omega
      generalize (Utf8.decode s pos).1 = r at *
      generalize pos + (Utf8.decode s pos).2 = pos2 at *
      have HI2 := Lib.hid hit2
      have HB1 := Lib.hid hB1
      have HP0 := Lib.hid hpos0
      have HL := Lib.hid hL.out
      have BC := Lib.hid (bad_any s pos r W1 (HT.out.below hB1) (by omega) hs)
      cases hb : badF s pos r
      · rw [hb] at BC
        have HL2 := Lib.hid (show valFrom s fuel pos2 = valFrom s s.size 0 by
          have h := HL.out
          rw [hb] at h
          simpa using h)
        clear hW1 hit hB hL hit2 hB1 hst hwd hpos0 hb
        go_wp2_with fail
        refine BC.out.mono ?_
        rintro en w2 ⟨rfl, hb2⟩
        have HI3 := Lib.hid (show w2.heap[w.heap.size]? = some (.stringIter s pos2) from by
          rw [← HI2.out]; exact hb2.block _ (Array.getElem?_eq_some_iff.1 HI2.out).1)
        have HB3 := Lib.hid (below_then HB1.out (Nat.le_refl _) hb2)
        clear hb2
        go_wp2_with fail
        go_roundw
        case rel => exact ⟨pos2, fuel, HI3.out, HB3, HL2, by omega⟩
        case measure => rw [iter_pos HI3.out, HP0.out]; omega
      · rw [hb] at BC
        have HL2 := Lib.hid (show false = valFrom s s.size 0 by
          have h := HL.out
          rw [hb] at h
          simpa using h)
        clear hW1 hit hB hL hit2 hB1 hst hwd hpos0 hb
        go_wp2_with fail
        refine BC.out.mono ?_
        rintro en w2 ⟨rfl, hb2⟩
        have HB3 := Lib.hid (below_then HB1.out (Nat.le_refl _) hb2)
        clear hb2
        go_wp2_with fail
        go_ret
        exact ⟨by rw [← HL2.out]; rfl, HB3.out⟩
    · have hnx : ∀ ty, (Instr.next (.pointer (some ⟨w.heap.size, 0, none⟩)) true ty).run Tryz.prog wr = _ := fun ty => Lib.run_next_end_at wr w.heap.size s pos ty hit hp
      rw [valFrom_end s fuel hp] at hL
      have HL2 := Lib.hid (show true = valFrom s s.size 0 from hL.out)
      clear hit hL hpos0
      go_wp2_with fail
      go_ret
      exact ⟨by rw [← HL2.out]; rfl, hB.out⟩

set_option maxHeartbeats 8000000 in
set_option maxRecDepth 100000 in
theorem key_any (s : ByteArray) (w : World) (hT : Tabs w) (hs : s.size ≤ 1000000) : Calls Tryz.prog 53 #[.string s] w fun e w' => e = .returned (.bool (keyF s)) ∧ RowKit.Below w.heap.size w w' := by
  have HT := Lib.hid hT
  clear hT
  by_cases h0 : s.size = 0
  · have hv : keyF s = false := by unfold keyF; rw [decide_eq_false (by omega)]; rfl
    rw [hv]
    have he : s = ByteArray.empty := ByteArray.ext (Array.eq_empty_of_size_eq_zero (by simpa using h0))
    subst he
    clear hv
    go_enter Tryz.func53, Tryz.ntmps53
    go_wp2_with fail
    go_ret
    exact ⟨rfl, Below.refl _ _⟩
  have hne : s.toList.isEmpty = false := by
    rw [← decide_eq_emptyBytes]
    exact decide_eq_false (fun h => h0 (by rw [h]; rfl))
  by_cases h24 : 24 < s.size
  · have hv : keyF s = false := by unfold keyF; rw [decide_eq_false (p := s.size ≤ 24) (by omega)]; simp
    rw [hv]
    clear hv
    go_enter Tryz.func53, Tryz.ntmps53
    go_wp2_with fail
    go_ret
    exact ⟨rfl, Below.refl _ _⟩
  have hv : keyF s = keyFrom s s.size 0 := by unfold keyF; rw [decide_eq_true (p := s.size ≤ 24) (by omega), decide_eq_true (p := 0 < s.size) (by omega)]; simp
  rw [hv]
  have HV := Lib.hid hv
  clear hv
  go_enter Tryz.func53, Tryz.ntmps53
  go_wp2_with fail
  go_loopw [] (fun wr => ∃ (pos fuel : Nat), wr.heap[w.heap.size]? = some (.stringIter s pos) ∧ Hid (Below w.heap.size w wr) ∧
    Hid (keyFrom s fuel pos = keyFrom s s.size 0) ∧ s.size ≤ pos + fuel) (fun wr => s.size - wr.iterPos w.heap.size)
  case atStart => exact ⟨0, s.size, World.iter_heap w s 0, Lib.hid ((Below.refl _ _).alloc (Nat.le_refl _) _), Lib.hid rfl, by omega⟩
  case round =>
    obtain ⟨pos, fuel, hit, hB, hL, hf⟩ := hrel
    have hpos0 := iter_pos hit
    by_cases hp : pos < s.size
    · have hnx : ∀ ty, (Instr.next (.pointer (some ⟨w.heap.size, 0, none⟩)) true ty).run Tryz.prog wr = _ := fun ty => Lib.run_next_any_at wr w.heap.size s pos ty hit hp
      have hwd := width_pos s pos hp
      obtain ⟨fuel, rfl⟩ : ∃ f', fuel = f' + 1 := ⟨fuel - 1, by omega⟩
      have hst := keyFrom_step s fuel hp
      obtain ⟨W1, hW1⟩ : ∃ W1, W1 = wr.iterAt w.heap.size s (pos + (Utf8.decode s pos).2) := ⟨_, rfl⟩
      have hit2 : W1.heap[w.heap.size]? = some (.stringIter s (pos + (Utf8.decode s pos).2)) := by rw [hW1]; exact Lib.iterAt_heap wr w.heap.size s pos _ hit
      have hB1 : Below w.heap.size w W1 := by rw [hW1]; exact Lib.below_iterAt hB.out (Nat.le_refl _) s _
      rw [← hW1] at hnx
      rw [hst] at hL
      have hlt2 : pos < pos + (Utf8.decode s pos).2 := by omega
      generalize (Utf8.decode s pos).1 = r at *
      generalize pos + (Utf8.decode s pos).2 = pos2 at *
      have HI2 := Lib.hid hit2
      have HB1 := Lib.hid hB1
      have HP0 := Lib.hid hpos0
      have HL := Lib.hid hL.out
      have BC := Lib.hid (bad_any s pos r W1 (HT.out.below hB1) (by omega) hs)
      cases hb : badF s pos r
      · rw [hb] at BC
        have PC := fun (W : World) => Lib.hid (part_any r (decide ((pos : Int) = 0)) W)
        cases hq : partF r (decide ((pos : Int) = 0))
        · have HL2 := Lib.hid (show false = keyFrom s s.size 0 by
            have h := HL.out
            rw [hb, hq] at h
            simpa using h)
          rw [hq] at PC
          clear hW1 hit hB hL hit2 hB1 hst hwd hpos0 hb hq
          go_wp2_with fail
          refine BC.out.mono ?_
          rintro en w2 ⟨rfl, hb2⟩
          have HB3 := Lib.hid (below_then HB1.out (Nat.le_refl _) hb2)
          clear hb2
          go_wp2_with fail
          refine (PC _).out.mono ?_
          rintro en w3 ⟨rfl, rfl⟩
          go_wp2_with fail
          go_ret
          exact ⟨by rw [← HL2.out]; rfl, HB3.out⟩
        · have HL2 := Lib.hid (show keyFrom s fuel pos2 = keyFrom s s.size 0 by
            have h := HL.out
            rw [hb, hq] at h
            simpa using h)
          rw [hq] at PC
          clear hW1 hit hB hL hit2 hB1 hst hwd hpos0 hb hq
          go_wp2_with fail
          refine BC.out.mono ?_
          rintro en w2 ⟨rfl, hb2⟩
          have HI3 := Lib.hid (show w2.heap[w.heap.size]? = some (.stringIter s pos2) from by
            rw [← HI2.out]; exact hb2.block _ (Array.getElem?_eq_some_iff.1 HI2.out).1)
          have HB3 := Lib.hid (below_then HB1.out (Nat.le_refl _) hb2)
          clear hb2
          go_wp2_with fail
          refine (PC _).out.mono ?_
          rintro en w3 ⟨rfl, rfl⟩
          go_wp2_with fail
          go_roundw
          case rel => exact ⟨pos2, fuel, HI3.out, HB3, HL2, by omega⟩
          case measure => rw [iter_pos HI3.out, HP0.out]; omega
      · rw [hb] at BC
        have HL2 := Lib.hid (show false = keyFrom s s.size 0 by
          have h := HL.out
          rw [hb] at h
          simpa using h)
        clear hW1 hit hB hL hit2 hB1 hst hwd hpos0 hb
        go_wp2_with fail
        refine BC.out.mono ?_
        rintro en w2 ⟨rfl, hb2⟩
        have HB3 := Lib.hid (below_then HB1.out (Nat.le_refl _) hb2)
        clear hb2
        go_wp2_with fail
        go_ret
        exact ⟨by rw [← HL2.out]; rfl, HB3.out⟩
    · have hnx : ∀ ty, (Instr.next (.pointer (some ⟨w.heap.size, 0, none⟩)) true ty).run Tryz.prog wr = _ := fun ty => Lib.run_next_end_at wr w.heap.size s pos ty hit hp
      rw [keyFrom_end s fuel hp] at hL
      have HL2 := Lib.hid (show true = keyFrom s s.size 0 from hL.out)
      clear hit hL hpos0
      go_wp2_with fail
      go_ret
      exact ⟨by rw [← HL2.out]; rfl, hB.out⟩
end Go.Proofs.YtmjelcjdfamikaaGreatDoor.Mut

/- The walk of mut.over (layer 7): rising stamps, each ahead of the mutation's. -/
namespace Go.Proofs.YtmjelcjdfamikaaGreatDoor.Mut
open Go.RowKit Go.Sort Go.Proofs.YtmjelcjdfamikaaGreatDoor.Ord
set_option linter.unusedSectionVars false
variable [Inhabited Lim]

def aheadB : Option Stp → Stp → Bool
  | none, _ => true
  | some p, s => decide (stC p s < 0)
def overFrom (t : Stp) : Option Stp → List Stp → Bool
  | _, [] => true
  | prev, s :: l => stR s && (decide (stC s t < 0) && (aheadB prev s && overFrom t (some s) l))
def overF (l : List Stp) (t : Stp) : Bool := overFrom t none l && decide (l.length ≤ 24)

set_option maxHeartbeats 8000000 in
set_option maxRecDepth 100000 in
theorem over_any (v : Value) (l : List Stp) (t : Stp) (w : World) (hv : SRow w v l) (hn : l.length ≤ 1000000) :
    Calls Tryz.prog 54 #[v, vS t] w fun e w' => e = .returned (.bool (overF l t)) ∧ Lays w w' := by
  obtain ⟨ao, ac, rfl, -, -⟩ := Lst.form hv
  have hR : overF l t = (overFrom t none l && decide (l.length ≤ 24)) := rfl
  obtain ⟨R, hRe⟩ : ∃ R, R = overF l t := ⟨_, rfl⟩
  rw [← hRe] at hR ⊢
  obtain ⟨n, hne⟩ : ∃ n, n = l.length := ⟨_, rfl⟩
  rw [← hne] at hv hn hR ⊢
  have HV := Lib.hid hv
  have HN := Lib.hid hne
  have HR := Lib.hid hR
  have HS := Lib.hid (fun (s : Stp) (W : World) => stright_any s W)
  have HL := Lib.hid (fun (a b : Stp) (W : World) => stless_any a b W)
  obtain ⟨tp, tl, tw⟩ := t
  clear hv hne hR hRe
  go_enter Tryz.func54, Tryz.ntmps54
  go_wp2_with fail
  have hl0 : Lays w (w.alloc (.cells #[.int .i64 tp, .int .i64 tl, .int .i64 tw] 37)) := (Lays.refl _).alloc _
  have hb0 := new_cells w [.int .i64 tp, .int .i64 tl, .int .i64 tw] 37
  have q0 := hb0 0 _ rfl
  have q1 := hb0 1 _ rfl
  have q2 := hb0 2 _ rfl
  have hsz : w.heap.size < (w.alloc (.cells #[.int .i64 tp, .int .i64 tl, .int .i64 tw] 37)).heap.size := by simp
  generalize (w.alloc (.cells #[.int .i64 tp, .int .i64 tl, .int .i64 tw] 37)) = w0 at *
  obtain ⟨g, hg⟩ : ∃ g, g = w.heap.size := ⟨_, rfl⟩
  rw [← hg] at q0 q1 q2 hsz ⊢
  have c0 : w0.cell? ⟨g, 0, none⟩ = some (.int .i64 tp) := q0
  have c1 : w0.cell? ⟨g, 1, none⟩ = some (.int .i64 tl) := q1
  have c2 : w0.cell? ⟨g, 2, none⟩ = some (.int .i64 tw) := q2
  have HC := Lib.hid (And.intro c0 (And.intro c1 c2))
  clear hb0 q0 q1 q2 hg c0 c1 c2
  go_loopw [9] (fun iv wr => ∃ k : Nat, k ≤ n ∧ iv = .int .i64 k ∧ (∃ prev, Hid ((overFrom ⟨tp, tl, tw⟩ prev (l.drop k) && decide (n ≤ 24)) = R) ∧ (k = 0 ∧ prev = none ∨ ∃ p, 0 < k ∧ l[k - 1]? = some p ∧ prev = some p)) ∧ Lays w0 wr) (fun iv _ => n - (intOf iv).toNat)
  case atStart => exact ⟨0, by omega, rfl, ⟨none, Lib.hid HR.out.symm, Or.inl ⟨rfl, rfl⟩⟩, Lays.refl _⟩
  case round =>
    obtain ⟨k, hk, rfl, ⟨prev, hrow, hprev⟩, hl⟩ := hrel
    by_cases hlt : k < n
    · have hka : k < l.length := by have := HN.out; omega
      obtain ⟨x, hx⟩ : ∃ x, l[k]? = some x := ⟨_, List.getElem?_eq_getElem hka⟩
      have hxe : l[k] = x := (List.getElem?_eq_some_iff.1 hx).2
      have hvr := HV.out.below (hl0.trans hl).below
      obtain ⟨xb, xoff, rfl, hxb, x0, x1, x2⟩ := stamp_at hvr hx
      have hda : l.drop k = x :: l.drop (k + 1) := by rw [List.drop_eq_getElem_cons hka, hxe]
      have hrw : ((stR x && (decide (stC x ⟨tp, tl, tw⟩ < 0) && (aheadB prev x && overFrom ⟨tp, tl, tw⟩ (some x) (l.drop (k + 1))))) && decide (n ≤ 24)) = R := by
        have := hrow.out; rw [hda] at this; exact this
      have HRW := Lib.hid hrw
      have e0 : wr.cell? ⟨g, 0, none⟩ = some (.int .i64 tp) := (hl.below.cell (p := ⟨g, 0, none⟩) hsz).trans HC.out.1
      have e1 : wr.cell? ⟨g, 1, none⟩ = some (.int .i64 tl) := (hl.below.cell (p := ⟨g, 1, none⟩) hsz).trans HC.out.2.1
      have e2 : wr.cell? ⟨g, 2, none⟩ = some (.int .i64 tw) := (hl.below.cell (p := ⟨g, 2, none⟩) hsz).trans HC.out.2.2
      have hgr : g < wr.heap.size := Nat.lt_of_lt_of_le hsz hl.below.size
      have HX := Lib.hid hx
      have hl2 := Lib.hid hl
      obtain ⟨xp, xl, xw⟩ := x
      simp only [] at x0 x1 x2
      have HSX := Lib.hid (fun W => HS.out ⟨xp, xl, xw⟩ W)
      have HLX := Lib.hid (fun W => HL.out ⟨xp, xl, xw⟩ ⟨tp, tl, tw⟩ W)
      have HPX := HLX
      clear hrow hda hrw hvr hxe hx
      cases h1 : stR ⟨xp, xl, xw⟩
      · have HRZ := Lib.hid (show false = R by rw [← HRW.out, h1]; rfl)
        rw [h1] at HSX
        clear h1 HRW hprev
        go_wp2_with fail
        have hW := new_cells wr [.int .i64 xp, .int .i64 xl, .int .i64 xw] 37
        have n0 := hW 0 _ rfl
        have n1 := hW 1 _ rfl
        have n2 := hW 2 _ rfl
        have hlW : Lays wr (wr.alloc (.cells #[.int .i64 xp, .int .i64 xl, .int .i64 xw] 37)) := (Lays.refl _).alloc _
        have hsW : wr.heap.size < (wr.alloc (.cells #[.int .i64 xp, .int .i64 xl, .int .i64 xw] 37)).heap.size := by simp
        generalize (wr.alloc (.cells #[.int .i64 xp, .int .i64 xl, .int .i64 xw] 37)) = W at *
        have f0 : W.cell? ⟨g, 0, none⟩ = some (.int .i64 tp) := (hlW.below.cell (p := ⟨g, 0, none⟩) hgr).trans e0
        have f1 : W.cell? ⟨g, 1, none⟩ = some (.int .i64 tl) := (hlW.below.cell (p := ⟨g, 1, none⟩) hgr).trans e1
        have f2 : W.cell? ⟨g, 2, none⟩ = some (.int .i64 tw) := (hlW.below.cell (p := ⟨g, 2, none⟩) hgr).trans e2
        have hgW : g < W.heap.size := Nat.lt_of_lt_of_le hgr hlW.below.size
        obtain ⟨gs, hgs⟩ : ∃ q, q = wr.heap.size := ⟨_, rfl⟩
        rw [← hgs] at n0 n1 n2 hsW ⊢
        have m0 : W.cell? ⟨gs, 0, none⟩ = some (.int .i64 xp) := n0
        have m1 : W.cell? ⟨gs, 1, none⟩ = some (.int .i64 xl) := n1
        have m2 : W.cell? ⟨gs, 2, none⟩ = some (.int .i64 xw) := n2
        have HLW := Lib.hid (hl2.out.trans hlW)
        clear hW n0 n1 n2 hgs e0 e1 e2 hl hlW x0 x1 x2
        refine wp_region_lays (by kernel_rfl) (by kernel_rfl) ?_
        repeat (go_big_quiet_step (first
          | (go_at_call 52; exact laid (HSX.out _))
          | (go_at_call 42; exact laid (HLX.out _))
          | (go_at_call 42; exact laid (HPX.out _))))
        refine wpQuiet_nil ?_
        rintro _ ⟨y, rfl⟩
        go_wp2_with fail
        go_ret
        exact ⟨ret_bool (by rw [← HRZ.out]), hl0.trans (HLW.out.trans y.lays)⟩
      rw [h1] at HSX
      cases h2 : decide (stC ⟨xp, xl, xw⟩ ⟨tp, tl, tw⟩ < 0)
      · have HRZ := Lib.hid (show false = R by rw [← HRW.out, h1, h2]; rfl)
        rw [h2] at HLX
        clear h1 h2 HRW hprev
        go_wp2_with fail
        have hW := new_cells wr [.int .i64 xp, .int .i64 xl, .int .i64 xw] 37
        have n0 := hW 0 _ rfl
        have n1 := hW 1 _ rfl
        have n2 := hW 2 _ rfl
        have hlW : Lays wr (wr.alloc (.cells #[.int .i64 xp, .int .i64 xl, .int .i64 xw] 37)) := (Lays.refl _).alloc _
        have hsW : wr.heap.size < (wr.alloc (.cells #[.int .i64 xp, .int .i64 xl, .int .i64 xw] 37)).heap.size := by simp
        generalize (wr.alloc (.cells #[.int .i64 xp, .int .i64 xl, .int .i64 xw] 37)) = W at *
        have f0 : W.cell? ⟨g, 0, none⟩ = some (.int .i64 tp) := (hlW.below.cell (p := ⟨g, 0, none⟩) hgr).trans e0
        have f1 : W.cell? ⟨g, 1, none⟩ = some (.int .i64 tl) := (hlW.below.cell (p := ⟨g, 1, none⟩) hgr).trans e1
        have f2 : W.cell? ⟨g, 2, none⟩ = some (.int .i64 tw) := (hlW.below.cell (p := ⟨g, 2, none⟩) hgr).trans e2
        have hgW : g < W.heap.size := Nat.lt_of_lt_of_le hgr hlW.below.size
        obtain ⟨gs, hgs⟩ : ∃ q, q = wr.heap.size := ⟨_, rfl⟩
        rw [← hgs] at n0 n1 n2 hsW ⊢
        have m0 : W.cell? ⟨gs, 0, none⟩ = some (.int .i64 xp) := n0
        have m1 : W.cell? ⟨gs, 1, none⟩ = some (.int .i64 xl) := n1
        have m2 : W.cell? ⟨gs, 2, none⟩ = some (.int .i64 xw) := n2
        have HLW := Lib.hid (hl2.out.trans hlW)
        clear hW n0 n1 n2 hgs e0 e1 e2 hl hlW x0 x1 x2
        refine wp_region_lays (by kernel_rfl) (by kernel_rfl) ?_
        repeat (go_big_quiet_step (first
          | (go_at_call 52; exact laid (HSX.out _))
          | (go_at_call 42; exact laid (HLX.out _))
          | (go_at_call 42; exact laid (HPX.out _))))
        refine wpQuiet_nil ?_
        rintro _ ⟨y, rfl⟩
        go_wp2_with fail
        go_ret
        exact ⟨ret_bool (by rw [← HRZ.out]), hl0.trans (HLW.out.trans y.lays)⟩
      rw [h2] at HLX
      have HRW2 := Lib.hid (show (aheadB prev ⟨xp, xl, xw⟩ && overFrom ⟨tp, tl, tw⟩ (some ⟨xp, xl, xw⟩) (l.drop (k + 1)) && decide (n ≤ 24)) = R by rw [← HRW.out, h1, h2]; rfl)
      clear h1 h2 HRW
      rcases hprev with ⟨rfl, rfl⟩ | ⟨⟨pp, pl, pw⟩, hk0, hpx, rfl⟩
      · have HRZ := Lib.hid (show (overFrom ⟨tp, tl, tw⟩ (some ⟨xp, xl, xw⟩) (l.drop (0 + 1)) && decide (n ≤ 24)) = R by rw [← HRW2.out]; rfl)
        simp only [Nat.zero_mul, Nat.add_zero] at x0 x1 x2
        clear HRW2
        go_wp2_with fail
        have hW := new_cells wr [.int .i64 xp, .int .i64 xl, .int .i64 xw] 37
        have n0 := hW 0 _ rfl
        have n1 := hW 1 _ rfl
        have n2 := hW 2 _ rfl
        have hlW : Lays wr (wr.alloc (.cells #[.int .i64 xp, .int .i64 xl, .int .i64 xw] 37)) := (Lays.refl _).alloc _
        have hsW : wr.heap.size < (wr.alloc (.cells #[.int .i64 xp, .int .i64 xl, .int .i64 xw] 37)).heap.size := by simp
        generalize (wr.alloc (.cells #[.int .i64 xp, .int .i64 xl, .int .i64 xw] 37)) = W at *
        have f0 : W.cell? ⟨g, 0, none⟩ = some (.int .i64 tp) := (hlW.below.cell (p := ⟨g, 0, none⟩) hgr).trans e0
        have f1 : W.cell? ⟨g, 1, none⟩ = some (.int .i64 tl) := (hlW.below.cell (p := ⟨g, 1, none⟩) hgr).trans e1
        have f2 : W.cell? ⟨g, 2, none⟩ = some (.int .i64 tw) := (hlW.below.cell (p := ⟨g, 2, none⟩) hgr).trans e2
        have hgW : g < W.heap.size := Nat.lt_of_lt_of_le hgr hlW.below.size
        obtain ⟨gs, hgs⟩ : ∃ q, q = wr.heap.size := ⟨_, rfl⟩
        rw [← hgs] at n0 n1 n2 hsW ⊢
        have m0 : W.cell? ⟨gs, 0, none⟩ = some (.int .i64 xp) := n0
        have m1 : W.cell? ⟨gs, 1, none⟩ = some (.int .i64 xl) := n1
        have m2 : W.cell? ⟨gs, 2, none⟩ = some (.int .i64 xw) := n2
        have HLW := Lib.hid (hl2.out.trans hlW)
        clear hW n0 n1 n2 hgs e0 e1 e2 hl hlW x0 x1 x2
        refine wp_region_lays (by kernel_rfl) (by kernel_rfl) ?_
        repeat (go_big_quiet_step (first
          | (go_at_call 52; exact laid (HSX.out _))
          | (go_at_call 42; exact laid (HLX.out _))
          | (go_at_call 42; exact laid (HPX.out _))))
        refine wpQuiet_nil ?_
        rintro _ ⟨y, rfl⟩
        go_wp2_with fail
        go_roundw
        case rel => exact ⟨0 + 1, by omega, by go_num, ⟨some ⟨xp, xl, xw⟩, HRZ, Or.inr ⟨_, by omega, HX.out, rfl⟩⟩, HLW.out.trans y.lays⟩
        case measure => simp [intOf]; omega
      obtain ⟨qb, qoff, hq, -, p0, p1, p2⟩ := stamp_at (HV.out.below (hl0.trans hl).below) hpx
      simp only [Option.some.injEq, Addr.mk.injEq] at hq
      obtain ⟨rfl, rfl, -⟩ := hq
      simp only [] at p0 p1 p2
      replace HPX := Lib.hid (fun W => HL.out ⟨pp, pl, pw⟩ ⟨xp, xl, xw⟩ W)
      clear hpx
      cases h3 : decide (stC ⟨pp, pl, pw⟩ ⟨xp, xl, xw⟩ < 0)
      · have HRZ := Lib.hid (show false = R by rw [← HRW2.out]; unfold aheadB; simp only [h3]; rfl)
        rw [h3] at HPX
        clear h3 HRW2
        go_wp2_with fail
        have hW := new_cells wr [.int .i64 xp, .int .i64 xl, .int .i64 xw] 37
        have n0 := hW 0 _ rfl
        have n1 := hW 1 _ rfl
        have n2 := hW 2 _ rfl
        have hlW : Lays wr (wr.alloc (.cells #[.int .i64 xp, .int .i64 xl, .int .i64 xw] 37)) := (Lays.refl _).alloc _
        have hsW : wr.heap.size < (wr.alloc (.cells #[.int .i64 xp, .int .i64 xl, .int .i64 xw] 37)).heap.size := by simp
        generalize (wr.alloc (.cells #[.int .i64 xp, .int .i64 xl, .int .i64 xw] 37)) = W at *
        have f0 : W.cell? ⟨g, 0, none⟩ = some (.int .i64 tp) := (hlW.below.cell (p := ⟨g, 0, none⟩) hgr).trans e0
        have f1 : W.cell? ⟨g, 1, none⟩ = some (.int .i64 tl) := (hlW.below.cell (p := ⟨g, 1, none⟩) hgr).trans e1
        have f2 : W.cell? ⟨g, 2, none⟩ = some (.int .i64 tw) := (hlW.below.cell (p := ⟨g, 2, none⟩) hgr).trans e2
        have hgW : g < W.heap.size := Nat.lt_of_lt_of_le hgr hlW.below.size
        obtain ⟨gs, hgs⟩ : ∃ q, q = wr.heap.size := ⟨_, rfl⟩
        rw [← hgs] at n0 n1 n2 hsW ⊢
        have m0 : W.cell? ⟨gs, 0, none⟩ = some (.int .i64 xp) := n0
        have m1 : W.cell? ⟨gs, 1, none⟩ = some (.int .i64 xl) := n1
        have m2 : W.cell? ⟨gs, 2, none⟩ = some (.int .i64 xw) := n2
        have HLW := Lib.hid (hl2.out.trans hlW)
        have d0 : W.cell? ⟨xb, xoff + (k - 1) * 3, none⟩ = some (.int .i64 pp) := (hlW.below.cell (p := ⟨xb, xoff + (k - 1) * 3, none⟩) hxb).trans p0
        have d1 : W.cell? ⟨xb, xoff + (k - 1) * 3 + 1, none⟩ = some (.int .i64 pl) := (hlW.below.cell (p := ⟨xb, xoff + (k - 1) * 3 + 1, none⟩) hxb).trans p1
        have d2 : W.cell? ⟨xb, xoff + (k - 1) * 3 + 2, none⟩ = some (.int .i64 pw) := (hlW.below.cell (p := ⟨xb, xoff + (k - 1) * 3 + 2, none⟩) hxb).trans p2
        have hxW : xb < W.heap.size := Nat.lt_of_lt_of_le hxb hlW.below.size
        clear p0 p1 p2 hW n0 n1 n2 hgs e0 e1 e2 hl hlW x0 x1 x2
        refine wp_region_lays (by kernel_rfl) (by kernel_rfl) ?_
        repeat (go_big_quiet_step (first
          | (go_at_call 52; exact laid (HSX.out _))
          | (go_at_call 42; exact laid (HLX.out _))
          | (go_at_call 42; exact laid (HPX.out _))))
        refine wpQuiet_nil ?_
        rintro _ ⟨y, rfl⟩
        go_wp2_with fail
        go_ret
        exact ⟨ret_bool (by rw [← HRZ.out]), hl0.trans (HLW.out.trans y.lays)⟩
      · have HRZ := Lib.hid (show (overFrom ⟨tp, tl, tw⟩ (some ⟨xp, xl, xw⟩) (l.drop (k + 1)) && decide (n ≤ 24)) = R by rw [← HRW2.out]; unfold aheadB; simp only [h3]; rfl)
        rw [h3] at HPX
        clear h3 HRW2
        go_wp2_with fail
        have hW := new_cells wr [.int .i64 xp, .int .i64 xl, .int .i64 xw] 37
        have n0 := hW 0 _ rfl
        have n1 := hW 1 _ rfl
        have n2 := hW 2 _ rfl
        have hlW : Lays wr (wr.alloc (.cells #[.int .i64 xp, .int .i64 xl, .int .i64 xw] 37)) := (Lays.refl _).alloc _
        have hsW : wr.heap.size < (wr.alloc (.cells #[.int .i64 xp, .int .i64 xl, .int .i64 xw] 37)).heap.size := by simp
        generalize (wr.alloc (.cells #[.int .i64 xp, .int .i64 xl, .int .i64 xw] 37)) = W at *
        have f0 : W.cell? ⟨g, 0, none⟩ = some (.int .i64 tp) := (hlW.below.cell (p := ⟨g, 0, none⟩) hgr).trans e0
        have f1 : W.cell? ⟨g, 1, none⟩ = some (.int .i64 tl) := (hlW.below.cell (p := ⟨g, 1, none⟩) hgr).trans e1
        have f2 : W.cell? ⟨g, 2, none⟩ = some (.int .i64 tw) := (hlW.below.cell (p := ⟨g, 2, none⟩) hgr).trans e2
        have hgW : g < W.heap.size := Nat.lt_of_lt_of_le hgr hlW.below.size
        obtain ⟨gs, hgs⟩ : ∃ q, q = wr.heap.size := ⟨_, rfl⟩
        rw [← hgs] at n0 n1 n2 hsW ⊢
        have m0 : W.cell? ⟨gs, 0, none⟩ = some (.int .i64 xp) := n0
        have m1 : W.cell? ⟨gs, 1, none⟩ = some (.int .i64 xl) := n1
        have m2 : W.cell? ⟨gs, 2, none⟩ = some (.int .i64 xw) := n2
        have HLW := Lib.hid (hl2.out.trans hlW)
        have d0 : W.cell? ⟨xb, xoff + (k - 1) * 3, none⟩ = some (.int .i64 pp) := (hlW.below.cell (p := ⟨xb, xoff + (k - 1) * 3, none⟩) hxb).trans p0
        have d1 : W.cell? ⟨xb, xoff + (k - 1) * 3 + 1, none⟩ = some (.int .i64 pl) := (hlW.below.cell (p := ⟨xb, xoff + (k - 1) * 3 + 1, none⟩) hxb).trans p1
        have d2 : W.cell? ⟨xb, xoff + (k - 1) * 3 + 2, none⟩ = some (.int .i64 pw) := (hlW.below.cell (p := ⟨xb, xoff + (k - 1) * 3 + 2, none⟩) hxb).trans p2
        have hxW : xb < W.heap.size := Nat.lt_of_lt_of_le hxb hlW.below.size
        clear p0 p1 p2 hW n0 n1 n2 hgs e0 e1 e2 hl hlW x0 x1 x2
        refine wp_region_lays (by kernel_rfl) (by kernel_rfl) ?_
        repeat (go_big_quiet_step (first
          | (go_at_call 52; exact laid (HSX.out _))
          | (go_at_call 42; exact laid (HLX.out _))
          | (go_at_call 42; exact laid (HPX.out _))))
        refine wpQuiet_nil ?_
        rintro _ ⟨y, rfl⟩
        go_wp2_with fail
        go_roundw
        case rel => exact ⟨k + 1, by omega, by go_num, ⟨some ⟨xp, xl, xw⟩, HRZ, Or.inr ⟨_, by omega, HX.out, rfl⟩⟩, HLW.out.trans y.lays⟩
        case measure => simp [intOf]; omega
    · obtain rfl : k = n := by omega
      have HRZ := Lib.hid (show decide (k ≤ 24) = R by
        rw [← hrow.out, List.drop_of_length_le (by have := HN.out; omega)]
        cases prev <;> rfl)
      clear hrow hprev
      go_wp2_with fail
      go_ret
      exact ⟨ret_bool (by rw [← HRZ.out]; exact decide_eq_decide.2 (by omega)), hl0.trans hl⟩
end Go.Proofs.YtmjelcjdfamikaaGreatDoor.Mut

/- The walk of mut.Right (layer 7). PRINTED by wip/genmutright.py. -/
namespace Go.Proofs.YtmjelcjdfamikaaGreatDoor.Mut
open Go.RowKit Go.Sort Go.Proofs.YtmjelcjdfamikaaGreatDoor.Ord
set_option linter.unusedSectionVars false
variable [Inhabited Lim]

/-- May there be such a mutation? Of what its parts are. -/
def rightG (a b c d ve f fe q : Bool) (ex k t : Int) (n : Nat) : Bool :=
  a && (b && (c && (!(decide (ex < 0) || (decide (1099511627776 < ex) || (decide (0 < ex) && (!decide (k = 1) || !decide (t = 1))))) && (!((!decide (k = 1) && !ve) || !d) && (!((!decide (k = 3) && !fe) || (decide (k = 3) && (!f || !q))) &&
    (if t = 1 then decide (n = 0) && (decide (1 ≤ k) && decide (k ≤ 3)) else if t = 2 then decide (k = 1) || decide (k = 2) else false))))))
def rightF (m : Mu) : Bool := rightG (stR m.at_) (keyF m.key) (overF m.over m.at_) (valF m.val) m.val.toList.isEmpty (keyF m.fin) m.fin.toList.isEmpty (lessS m.key m.fin) m.expiry m.kind m.table m.over.length
theorem fit_of {m : Mu} (h : rightF m = true) : Fit m := by
  unfold rightF rightG at h
  simp only [Bool.and_eq_true, Bool.not_eq_true', Bool.or_eq_false_iff, Bool.and_eq_false_iff, decide_eq_false_iff_not, decide_eq_true_eq, Bool.not_eq_false'] at h
  obtain ⟨-, -, -, ⟨h1, h2, h3⟩, ⟨h4, -⟩, -, h6⟩ := h
  constructor
  · by_cases t1 : m.table = 1
    · exact Or.inl t1
    · rw [if_neg t1] at h6
      by_cases t2 : m.table = 2
      · exact Or.inr t2
      · rw [if_neg t2] at h6; cases h6
  · intro hk
    have t1 : m.table = 1 := by
      by_cases t1 : m.table = 1
      · exact t1
      · rw [if_neg t1] at h6
        by_cases t2 : m.table = 2
        · rw [if_pos t2, hk] at h6; simp at h6
        · rw [if_neg t2] at h6; cases h6
    rw [if_pos t1] at h6
    simp only [Bool.and_eq_true, decide_eq_true_eq] at h6
    refine ⟨t1, ?_, ?_, List.length_eq_zero_iff.1 h6.1⟩
    · rcases h4 with h4 | h4
      · rw [hk] at h4; omega
      · rw [← decide_eq_emptyBytes] at h4
        exact of_decide_eq_true h4
    · rcases h3 with h3 | h3
      · omega
      · rw [hk] at h3; simp at h3

structure A0 (w : World) (b : Nat) (x : Ro) : Prop where
  lt : b < w.heap.size
  c0 : w.cell? ⟨b, 0, none⟩ = some (.int .i64 x.1.table)
  c1 : w.cell? ⟨b, 1, none⟩ = some (.int .i64 x.1.kind)
  c2 : w.cell? ⟨b, 2, none⟩ = some (.string x.1.key)
  c3 : w.cell? ⟨b, 3, none⟩ = some (.string x.1.fin)
  c4 : w.cell? ⟨b, 4, none⟩ = some (.string x.1.val)
  c5 : w.cell? ⟨b, 5, none⟩ = some (.int .i64 x.1.expiry)
  c6 : w.cell? ⟨b, 6, none⟩ = some (.int .i64 x.1.at_.p)
  c7 : w.cell? ⟨b, 7, none⟩ = some (.int .i64 x.1.at_.l)
  c8 : w.cell? ⟨b, 8, none⟩ = some (.int .i64 x.1.at_.w)
  c9 : w.cell? ⟨b, 9, none⟩ = some x.2
theorem A0.of {w : World} {b : Nat} {x : Ro} (h : At w b 0 x) : A0 w b x := by
  obtain ⟨h0, h1, h2, h3, h4, h5, h6, h7, h8, h9, h10⟩ := h
  simp only [Nat.zero_add] at *
  exact ⟨h0, h1, h2, h3, h4, h5, h6, h7, h8, h9, h10⟩
theorem A0.below {w w' : World} {b : Nat} {x : Ro} (h : A0 w b x) (hb : RowKit.Below w.heap.size w w') : A0 w' b x := by
  have e : ∀ k, w'.cell? ⟨b, k, none⟩ = w.cell? ⟨b, k, none⟩ := fun k => hb.cell (p := ⟨b, k, none⟩) h.lt
  obtain ⟨h0, h1, h2, h3, h4, h5, h6, h7, h8, h9, h10⟩ := h
  exact ⟨Nat.lt_of_lt_of_le h0 hb.size, (e _).trans h1, (e _).trans h2, (e _).trans h3, (e _).trans h4, (e _).trans h5, (e _).trans h6, (e _).trans h7, (e _).trans h8, (e _).trans h9, (e _).trans h10⟩

set_option maxHeartbeats 16000000 in
set_option maxRecDepth 100000 in
theorem right_any (x : Ro) (w : World) (hT : Tabs w) (hx : Over w x) (h1 : x.1.over.length ≤ 1000000) (hk : x.1.key.size ≤ 1000000) (hf : x.1.fin.size ≤ 1000000) (hv : x.1.val.size ≤ 1000000) :
    Calls Tryz.prog 31 #[vM x] w fun e w' => e = .returned (.bool (rightF x.1)) ∧ RowKit.Below w.heap.size w w' := by
  have HS := Lib.hid (fun (W : World) => stright_any x.1.at_ W)
  have HK := Lib.hid (fun (W : World) (h : RowKit.Below w.heap.size w W) => key_any x.1.key W (hT.below h) hk)
  have HF := Lib.hid (fun (W : World) (h : RowKit.Below w.heap.size w W) => key_any x.1.fin W (hT.below h) hf)
  have HV := Lib.hid (fun (W : World) (h : RowKit.Below w.heap.size w W) => val_any x.1.val W (hT.below h) hv)
  have HO := Lib.hid (fun (W : World) (h : RowKit.Below w.heap.size w W) => over_any x.2 x.1.over x.1.at_ W (hx.below h).lst h1)
  have hA0 := A0.of (At.new w 40 x)
  have hB0 : RowKit.Below w.heap.size w (w.alloc (.cells (enM x).toArray 40)) := (Below.refl _ _).alloc (Nat.le_refl _) _
  have hLE : (Op.bytesLess x.1.fin.toList x.1.key.toList || x.1.fin.toList == x.1.key.toList) = !lessS x.1.key x.1.fin := le_or _ _
  have hR : rightF x.1 = rightG (stR x.1.at_) (keyF x.1.key) (overF x.1.over x.1.at_) (valF x.1.val) x.1.val.toList.isEmpty (keyF x.1.fin) x.1.fin.toList.isEmpty (lessS x.1.key x.1.fin) x.1.expiry x.1.kind x.1.table x.1.over.length := rfl
  rw [hR]
  clear hR
  obtain ⟨ao, cap, e1, -, -⟩ := Over.form hx
  obtain ⟨⟨tb, k, key, fin, val, ex, ⟨p, l, h⟩, ov⟩, av⟩ := x
  simp only [] at *
  subst e1
  obtain ⟨a, ha⟩ : ∃ a, a = stR ⟨p, l, h⟩ := ⟨_, rfl⟩
  obtain ⟨b, hb⟩ : ∃ a, a = keyF key := ⟨_, rfl⟩
  obtain ⟨c, hc⟩ : ∃ a, a = overF ov ⟨p, l, h⟩ := ⟨_, rfl⟩
  obtain ⟨d, hd⟩ : ∃ a, a = valF val := ⟨_, rfl⟩
  obtain ⟨f, hff⟩ : ∃ a, a = keyF fin := ⟨_, rfl⟩
  obtain ⟨q, hq⟩ : ∃ a, a = lessS key fin := ⟨_, rfl⟩
  obtain ⟨ve, hve⟩ : ∃ a, a = val.toList.isEmpty := ⟨_, rfl⟩
  obtain ⟨fe, hfe⟩ : ∃ a, a = fin.toList.isEmpty := ⟨_, rfl⟩
  rw [← ha] at HS; rw [← hb] at HK; rw [← hc] at HO; rw [← hd] at HV; rw [← hff] at HF; rw [← hq] at hLE
  rw [← ha, ← hb, ← hc, ← hd, ← hff, ← hq, ← hve, ← hfe]
  unfold vM
  simp only []
  generalize ov.length = n at *
  have HA0 := Lib.hid hA0
  have HB0 := Lib.hid hB0
  have HLE := Lib.hid hLE
  have HVE := Lib.hid hve
  have HFE := Lib.hid hfe
  clear ha hb hc hd hff hq hve hfe hA0 hB0 hLE hT hx h1 hk hf hv
  go_enter Tryz.func31, Tryz.ntmps31
  go_wp2_with fail
  refine (HS.out _).mono ?_
  rintro e w1 ⟨rfl, hb⟩
  have HA1 := Lib.hid (HA0.out.below hb.below)
  have HB1 := Lib.hid (below_then HB0.out (Nat.le_refl _) hb.below)
  clear hb
  obtain ⟨-, z0, z1, z2, z3, z4, z5, z6, z7, z8, z9⟩ := HA1.out
  simp only [] at z0 z1 z2 z3 z4 z5 z6 z7 z8 z9
  cases a
  · skip
    go_wp2_with fail
    go_ret
    exact ⟨ret_bool (by simp [rightG] <;> omega), HB1.out⟩
  go_wp2_with fail
  clear z0 z1 z2 z3 z4 z5 z6 z7 z8 z9
  refine (HK.out _ HB1.out).mono ?_
  rintro e w2 ⟨rfl, hb⟩
  have HA2 := Lib.hid (HA1.out.below hb)
  have HB2 := Lib.hid (below_then HB1.out (Nat.le_refl _) hb)
  clear hb
  obtain ⟨-, z0, z1, z2, z3, z4, z5, z6, z7, z8, z9⟩ := HA2.out
  simp only [] at z0 z1 z2 z3 z4 z5 z6 z7 z8 z9
  cases b
  · skip
    go_wp2_with fail
    go_ret
    exact ⟨ret_bool (by simp [rightG] <;> omega), HB2.out⟩
  go_wp2_with fail
  clear z0 z1 z2 z3 z4 z5 z6 z7 z8 z9
  refine (HO.out _ HB2.out).mono ?_
  rintro e w3 ⟨rfl, hb⟩
  have HA3 := Lib.hid (HA2.out.below hb.below)
  have HB3 := Lib.hid (below_then HB2.out (Nat.le_refl _) hb.below)
  clear hb
  obtain ⟨-, z0, z1, z2, z3, z4, z5, z6, z7, z8, z9⟩ := HA3.out
  simp only [] at z0 z1 z2 z3 z4 z5 z6 z7 z8 z9
  cases c
  · skip
    go_wp2_with fail
    go_ret
    exact ⟨ret_bool (by simp [rightG] <;> omega), HB3.out⟩
  by_cases x1 : ex < 0
  · skip
    go_wp2_with fail
    go_ret
    exact ⟨ret_bool (by simp [rightG, x1] <;> omega), HB3.out⟩
  by_cases x2 : 1099511627776 < ex
  · skip
    go_wp2_with fail
    go_ret
    exact ⟨ret_bool (by simp [rightG, x1, x2] <;> omega), HB3.out⟩
  by_cases x3 : 0 < ex
  · by_cases k1 : k = 1
    · subst k1
      by_cases t1 : tb = 1
      · subst t1
        go_wp2_with fail
        clear z0 z1 z2 z3 z4 z5 z6 z7 z8 z9
        refine (HV.out _ HB3.out).mono ?_
        rintro e w4 ⟨rfl, hb⟩
        have HA4 := Lib.hid (HA3.out.below hb)
        have HB4 := Lib.hid (below_then HB3.out (Nat.le_refl _) hb)
        clear hb
        obtain ⟨-, z0, z1, z2, z3, z4, z5, z6, z7, z8, z9⟩ := HA4.out
        simp only [] at z0 z1 z2 z3 z4 z5 z6 z7 z8 z9
        cases d
        · skip
          go_wp2_with fail
          go_ret
          exact ⟨ret_bool (by simp [rightG, x1, x2, x3] <;> omega), HB4.out⟩
        cases fe
        · have hfe := HFE.out.symm
          go_wp2_with fail
          go_ret
          exact ⟨ret_bool (by simp [rightG, x1, x2, x3] <;> omega), HB4.out⟩
        have hfe := HFE.out.symm
        by_cases n0 : n = 0
        · subst n0
          go_wp2_with fail
          go_ret
          exact ⟨ret_bool (by simp [rightG, x1, x2, x3] <;> omega), HB4.out⟩
        · skip
          go_wp2_with fail
          go_ret
          exact ⟨ret_bool (by simp [rightG, x1, x2, x3, n0] <;> omega), HB4.out⟩
      · have t1n : (tb == 1) = false := by simp [t1]
        have t1m : (tb != 1) = true := by simp [t1]
        have t1d : decide (tb = 1) = false := by simp [t1]
        go_wp2_with fail
        go_ret
        exact ⟨ret_bool (by simp [rightG, x1, x2, x3, t1] <;> omega), HB3.out⟩
    · skip
      go_wp2_with fail
      go_ret
      exact ⟨ret_bool (by simp [rightG, x1, x2, x3, k1] <;> omega), HB3.out⟩
  · by_cases k1 : k = 1
    · subst k1
      go_wp2_with fail
      clear z0 z1 z2 z3 z4 z5 z6 z7 z8 z9
      refine (HV.out _ HB3.out).mono ?_
      rintro e w4 ⟨rfl, hb⟩
      have HA4 := Lib.hid (HA3.out.below hb)
      have HB4 := Lib.hid (below_then HB3.out (Nat.le_refl _) hb)
      clear hb
      obtain ⟨-, z0, z1, z2, z3, z4, z5, z6, z7, z8, z9⟩ := HA4.out
      simp only [] at z0 z1 z2 z3 z4 z5 z6 z7 z8 z9
      cases d
      · skip
        go_wp2_with fail
        go_ret
        exact ⟨ret_bool (by simp [rightG, x1, x2, x3] <;> omega), HB4.out⟩
      cases fe
      · have hfe := HFE.out.symm
        go_wp2_with fail
        go_ret
        exact ⟨ret_bool (by simp [rightG, x1, x2, x3] <;> omega), HB4.out⟩
      have hfe := HFE.out.symm
      by_cases t1 : tb = 1
      · subst t1
        by_cases n0 : n = 0
        · subst n0
          go_wp2_with fail
          go_ret
          exact ⟨ret_bool (by simp [rightG, x1, x2, x3] <;> omega), HB4.out⟩
        · skip
          go_wp2_with fail
          go_ret
          exact ⟨ret_bool (by simp [rightG, x1, x2, x3, n0] <;> omega), HB4.out⟩
      by_cases t2 : tb = 2
      · subst t2
        go_wp2_with fail
        go_ret
        exact ⟨ret_bool (by simp [rightG, x1, x2, x3] <;> omega), HB4.out⟩
      · skip
        go_wp2_with fail
        go_ret
        exact ⟨ret_bool (by simp [rightG, x1, x2, x3, t1, t2] <;> omega), HB4.out⟩
    · by_cases k3 : k = 3
      · subst k3
        cases ve
        · have hve := HVE.out.symm
          go_wp2_with fail
          go_ret
          exact ⟨ret_bool (by simp [rightG, x1, x2, x3] <;> omega), HB3.out⟩
        have hve := HVE.out.symm
        go_wp2_with fail
        clear z0 z1 z2 z3 z4 z5 z6 z7 z8 z9
        refine (HV.out _ HB3.out).mono ?_
        rintro e w4 ⟨rfl, hb⟩
        have HA4 := Lib.hid (HA3.out.below hb)
        have HB4 := Lib.hid (below_then HB3.out (Nat.le_refl _) hb)
        clear hb
        obtain ⟨-, z0, z1, z2, z3, z4, z5, z6, z7, z8, z9⟩ := HA4.out
        simp only [] at z0 z1 z2 z3 z4 z5 z6 z7 z8 z9
        cases d
        · skip
          go_wp2_with fail
          go_ret
          exact ⟨ret_bool (by simp [rightG, x1, x2, x3] <;> omega), HB4.out⟩
        go_wp2_with fail
        clear z0 z1 z2 z3 z4 z5 z6 z7 z8 z9
        refine (HF.out _ HB4.out).mono ?_
        rintro e w5 ⟨rfl, hb⟩
        have HA5 := Lib.hid (HA4.out.below hb)
        have HB5 := Lib.hid (below_then HB4.out (Nat.le_refl _) hb)
        clear hb
        obtain ⟨-, z0, z1, z2, z3, z4, z5, z6, z7, z8, z9⟩ := HA5.out
        simp only [] at z0 z1 z2 z3 z4 z5 z6 z7 z8 z9
        cases f
        · skip
          go_wp2_with fail
          go_ret
          exact ⟨ret_bool (by simp [rightG, x1, x2, x3] <;> omega), HB5.out⟩
        cases q
        · have hle : (Op.bytesLess fin.toList key.toList || fin.toList == key.toList) = true := HLE.out
          go_wp2_with fail
          go_ret
          exact ⟨ret_bool (by simp [rightG, x1, x2, x3] <;> omega), HB5.out⟩
        have hle : (Op.bytesLess fin.toList key.toList || fin.toList == key.toList) = false := HLE.out
        by_cases t1 : tb = 1
        · subst t1
          by_cases n0 : n = 0
          · subst n0
            go_wp2_with fail
            go_ret
            exact ⟨ret_bool (by simp [rightG, x1, x2, x3] <;> omega), HB5.out⟩
          · skip
            go_wp2_with fail
            go_ret
            exact ⟨ret_bool (by simp [rightG, x1, x2, x3, n0] <;> omega), HB5.out⟩
        by_cases t2 : tb = 2
        · subst t2
          go_wp2_with fail
          go_ret
          exact ⟨ret_bool (by simp [rightG, x1, x2, x3] <;> omega), HB5.out⟩
        · skip
          go_wp2_with fail
          go_ret
          exact ⟨ret_bool (by simp [rightG, x1, x2, x3, t1, t2] <;> omega), HB5.out⟩
      · skip
        cases ve
        · have hve := HVE.out.symm
          go_wp2_with fail
          go_ret
          exact ⟨ret_bool (by simp [rightG, x1, x2, x3, k1, k3] <;> omega), HB3.out⟩
        have hve := HVE.out.symm
        go_wp2_with fail
        clear z0 z1 z2 z3 z4 z5 z6 z7 z8 z9
        refine (HV.out _ HB3.out).mono ?_
        rintro e w4 ⟨rfl, hb⟩
        have HA4 := Lib.hid (HA3.out.below hb)
        have HB4 := Lib.hid (below_then HB3.out (Nat.le_refl _) hb)
        clear hb
        obtain ⟨-, z0, z1, z2, z3, z4, z5, z6, z7, z8, z9⟩ := HA4.out
        simp only [] at z0 z1 z2 z3 z4 z5 z6 z7 z8 z9
        cases d
        · skip
          go_wp2_with fail
          go_ret
          exact ⟨ret_bool (by simp [rightG, x1, x2, x3, k1, k3] <;> omega), HB4.out⟩
        cases fe
        · have hfe := HFE.out.symm
          go_wp2_with fail
          go_ret
          exact ⟨ret_bool (by simp [rightG, x1, x2, x3, k1, k3] <;> omega), HB4.out⟩
        have hfe := HFE.out.symm
        by_cases t1 : tb = 1
        · subst t1
          by_cases n0 : n = 0
          · subst n0
            by_cases g1 : 1 ≤ k
            · by_cases g3 : k ≤ 3
              · skip
                go_wp2_with fail
                go_ret
                exact ⟨ret_bool (by simp [rightG, x1, x2, x3, k1, k3, g1, g3] <;> omega), HB4.out⟩
              · skip
                go_wp2_with fail
                go_ret
                exact ⟨ret_bool (by simp [rightG, x1, x2, x3, k1, k3, g1, g3] <;> omega), HB4.out⟩
            · skip
              go_wp2_with fail
              go_ret
              exact ⟨ret_bool (by simp [rightG, x1, x2, x3, k1, k3, g1] <;> omega), HB4.out⟩
          · skip
            go_wp2_with fail
            go_ret
            exact ⟨ret_bool (by simp [rightG, x1, x2, x3, k1, k3, n0] <;> omega), HB4.out⟩
        by_cases t2 : tb = 2
        · subst t2
          by_cases k2 : k = 2
          · skip
            go_wp2_with fail
            go_ret
            exact ⟨ret_bool (by simp [rightG, x1, x2, x3, k1, k3, k2] <;> omega), HB4.out⟩
          · skip
            go_wp2_with fail
            go_ret
            exact ⟨ret_bool (by simp [rightG, x1, x2, x3, k1, k3, k2] <;> omega), HB4.out⟩
        · skip
          go_wp2_with fail
          go_ret
          exact ⟨ret_bool (by simp [rightG, x1, x2, x3, k1, k3, t1, t2] <;> omega), HB4.out⟩
end Go.Proofs.YtmjelcjdfamikaaGreatDoor.Mut

/- The closures of state.Covered and state.wipe (layer 8), as questions. -/
namespace Go.Proofs.YtmjelcjdfamikaaGreatDoor.Mut
open Go.RowKit Go.Sort Go.Proofs.YtmjelcjdfamikaaGreatDoor.Ord
set_option linter.unusedSectionVars false
variable [Inhabited Lim]

theorem A0.grown {w w' : World} {b : Nat} {x : Ro} {row : Option Nat} (h : A0 w b x) (hg : w.grownBy w' row) (hr : row ≠ some b) : A0 w' b x := by
  have hb : w'.heap[b]? = w.heap[b]? := hg.block b h.lt (fun e => hr e.symm)
  have e : ∀ k, w'.cell? ⟨b, k, none⟩ = w.cell? ⟨b, k, none⟩ := fun k => World.cell?_of_block hb
  obtain ⟨h0, h1, h2, h3, h4, h5, h6, h7, h8, h9, h10⟩ := h
  exact ⟨Nat.lt_of_lt_of_le h0 hg.size, (e _).trans h1, (e _).trans h2, (e _).trans h3, (e _).trans h4, (e _).trans h5, (e _).trans h6, (e _).trans h7, (e _).trans h8, (e _).trans h9, (e _).trans h10⟩
def hitsB (w : Mu) (key : ByteArray) (s : Stp) : Bool := coversB w key && decide (stC s w.at_ < 0)
theorem hits_iff (w : Mu) (key : ByteArray) (s : Stp) : hits w key s ↔ hitsB w key s = true := by
  unfold hits hitsB
  rw [covers_iff]
  simp

set_option maxHeartbeats 1000000 in
set_option maxRecDepth 100000 in
theorem ask_wipe1 (m : Ro) (b : Nat) (row : Option Nat) (w : World) (hA : A0 w b m) (hm : ∃ ao n cap, m.2 = .slice ao n cap) (hr : row ≠ some b) :
    Asks w row 61 #[.pointer (some ⟨b, 0, none⟩)] (fun x => withinB x m.1) := by
  intro x w1 hg hx
  obtain ⟨hlt, z0, z1, z2, z3, z4, z5, z6, z7, z8, z9⟩ := hA.grown hg hr
  have HW := Lib.hid (fun W => within_any x m W hx hm)
  simp only []
  obtain ⟨Q, hQ⟩ : ∃ Q, Q = withinB x.1 m.1 := ⟨_, rfl⟩
  rw [← hQ] at HW ⊢
  clear hQ hA hr hg
  obtain ⟨ao, n, cap, e1⟩ := hx
  obtain ⟨bo, bn, bcap, e2⟩ := hm
  obtain ⟨⟨at1, ak1, akey1, afin1, aval1, aex1, ⟨ap1, al1, aw1⟩, aov1⟩, av1⟩ := x
  obtain ⟨⟨at2, ak2, akey2, afin2, aval2, aex2, ⟨ap2, al2, aw2⟩, aov2⟩, av2⟩ := m
  simp only [] at e1 e2 z0 z1 z2 z3 z4 z5 z6 z7 z8 z9
  subst e1 e2
  unfold vM at HW ⊢
  simp only [] at HW ⊢
  go_enter Tryz.func61, Tryz.ntmps61
  go_wp2_with fail
  refine (HW.out _).mono ?_
  rintro e w2 ⟨rfl, hb⟩
  go_wp2_with fail
  go_ret
  exact ⟨rfl, ((Lays.refl _).alloc _ |>.trans hb).below⟩

set_option maxHeartbeats 1000000 in
set_option maxRecDepth 100000 in
theorem ask_wipe2 (m : Ro) (b : Nat) (row : Option Nat) (w : World) (hA : A0 w b m) (hm : ∃ ao n cap, m.2 = .slice ao n cap) (hr : row ≠ some b) :
    Asks w row 63 #[.pointer (some ⟨b, 0, none⟩)] (fun x => withinB m.1 x) := by
  intro x w1 hg hx
  obtain ⟨hlt, z0, z1, z2, z3, z4, z5, z6, z7, z8, z9⟩ := hA.grown hg hr
  have HW := Lib.hid (fun W => within_any m x W hm hx)
  simp only []
  obtain ⟨Q, hQ⟩ : ∃ Q, Q = withinB m.1 x.1 := ⟨_, rfl⟩
  rw [← hQ] at HW ⊢
  clear hQ hA hr hg
  obtain ⟨ao, n, cap, e1⟩ := hx
  obtain ⟨bo, bn, bcap, e2⟩ := hm
  obtain ⟨⟨at1, ak1, akey1, afin1, aval1, aex1, ⟨ap1, al1, aw1⟩, aov1⟩, av1⟩ := x
  obtain ⟨⟨at2, ak2, akey2, afin2, aval2, aex2, ⟨ap2, al2, aw2⟩, aov2⟩, av2⟩ := m
  simp only [] at e1 e2 z0 z1 z2 z3 z4 z5 z6 z7 z8 z9
  subst e1 e2
  unfold vM at HW ⊢
  simp only [] at HW ⊢
  go_enter Tryz.func63, Tryz.ntmps63
  go_wp2_with fail
  refine (HW.out _).mono ?_
  rintro e w2 ⟨rfl, hb⟩
  go_wp2_with fail
  go_ret
  exact ⟨rfl, ((Lays.refl _).alloc _ |>.trans hb).below⟩

set_option maxHeartbeats 2000000 in
set_option maxRecDepth 100000 in
theorem ask_wipe3 (m : Ro) (b : Nat) (row : Option Nat) (w : World) (hA : A0 w b m) (hm : ∃ ao n cap, m.2 = .slice ao n cap) (hr : row ≠ some b) :
    Asks w row 66 #[.pointer (some ⟨b, 0, none⟩)] (fun x => hitsB m.1 x.key x.at_) := by
  intro x w1 hg hx
  have hA1 := Lib.hid (hA.grown hg hr)
  obtain ⟨hlt, z0, z1, z2, z3, z4, z5, z6, z7, z8, z9⟩ := hA1.out
  have HC := Lib.hid (fun W => covers_any m x.1.key W hm)
  have HL := Lib.hid (fun W => stless_any x.1.at_ m.1.at_ W)
  have hfin : hitsB m.1 x.1.key x.1.at_ = (coversB m.1 x.1.key && decide (stC x.1.at_ m.1.at_ < 0)) := rfl
  simp only []
  rw [hfin]
  obtain ⟨Q, hQ⟩ : ∃ Q, Q = coversB m.1 x.1.key := ⟨_, rfl⟩
  obtain ⟨U, hU⟩ : ∃ U, U = decide (stC x.1.at_ m.1.at_ < 0) := ⟨_, rfl⟩
  rw [← hQ] at HC ⊢
  rw [← hU] at HL ⊢
  clear hQ hU hA hr hg hfin
  obtain ⟨ao, n, cap, e1⟩ := hx
  obtain ⟨bo, bn, bcap, e2⟩ := hm
  obtain ⟨⟨at1, ak1, akey1, afin1, aval1, aex1, ⟨ap1, al1, aw1⟩, aov1⟩, av1⟩ := x
  obtain ⟨⟨at2, ak2, akey2, afin2, aval2, aex2, ⟨ap2, al2, aw2⟩, aov2⟩, av2⟩ := m
  simp only [] at e1 e2 z0 z1 z2 z3 z4 z5 z6 z7 z8 z9
  subst e1 e2
  unfold vM at HC ⊢
  simp only [] at HC HL ⊢
  go_enter Tryz.func66, Tryz.ntmps66
  go_wp2_with fail
  have hB := Lib.hid (((Below.refl _ w1).alloc (Nat.le_refl _) (.cells #[.int .i64 at1, .int .i64 ak1, .string akey1, .string afin1, .string aval1, .int .i64 aex1, .int .i64 ap1, .int .i64 al1, .int .i64 aw1, .slice ao n cap] 40)))
  have hN := A0.of (At.new w1 40 (⟨⟨at1, ak1, akey1, afin1, aval1, aex1, ⟨ap1, al1, aw1⟩, aov1⟩, .slice ao n cap⟩ : Ro))
  unfold enM at hN
  simp only [] at hN
  have HM := Lib.hid (hA1.out.below hB.out)
  have HN := Lib.hid hN
  clear hN z0 z1 z2 z3 z4 z5 z6 z7 z8 z9
  refine (HC.out _).mono ?_
  rintro e w2 ⟨rfl, hb⟩
  have HB2 := Lib.hid (below_then hB.out (Nat.le_refl _) hb.below)
  obtain ⟨-, z0, z1, z2, z3, z4, z5, z6, z7, z8, z9⟩ := HM.out.below hb.below
  obtain ⟨-, y0, y1, y2, y3, y4, y5, y6, y7, y8, y9⟩ := HN.out.below hb.below
  simp only [] at z0 z1 z2 z3 z4 z5 z6 z7 z8 z9 y0 y1 y2 y3 y4 y5 y6 y7 y8 y9
  clear hb
  cases Q
  · go_wp2_with fail
    go_ret
    exact ⟨rfl, HB2.out⟩
  · go_wp2_with fail
    refine (HL.out _).mono ?_
    rintro e w3 ⟨rfl, hb⟩
    have HB3 := Lib.hid (below_then HB2.out (Nat.le_refl _) hb.below)
    clear hb
    go_wp2_with fail
    go_ret
    exact ⟨rfl, HB3.out⟩

set_option maxHeartbeats 2000000 in
set_option maxRecDepth 100000 in
theorem ask_cov (key : ByteArray) (s : Stp) (b c : Nat) (row : Option Nat) (w : World) (hb : b < w.heap.size) (hc : c < w.heap.size) (hk : w.cell? ⟨b, 0, none⟩ = some (.string key)) (h0 : w.cell? ⟨c, 0, none⟩ = some (.int .i64 s.p)) (h1 : w.cell? ⟨c, 1, none⟩ = some (.int .i64 s.l)) (h2 : w.cell? ⟨c, 2, none⟩ = some (.int .i64 s.w)) (hr : row ≠ some b) (hrc : row ≠ some c) :
    Asks w row 108 #[.pointer (some ⟨b, 0, none⟩), .pointer (some ⟨c, 0, none⟩)] (fun x => hitsB x key s) := by
  intro x w1 hg hx
  have eb : ∀ k, w1.cell? ⟨b, k, none⟩ = w.cell? ⟨b, k, none⟩ := fun k => World.cell?_of_block (hg.block b hb (fun e => hr e.symm))
  have ec : ∀ k, w1.cell? ⟨c, k, none⟩ = w.cell? ⟨c, k, none⟩ := fun k => World.cell?_of_block (hg.block c hc (fun e => hrc e.symm))
  have hb1 : b < w1.heap.size := Nat.lt_of_lt_of_le hb hg.size
  have hc1 : c < w1.heap.size := Nat.lt_of_lt_of_le hc hg.size
  have k0 := (eb 0).trans hk
  have s0 := (ec 0).trans h0
  have s1 := (ec 1).trans h1
  have s2 := (ec 2).trans h2
  have HC := Lib.hid (fun W => covers_any x key W hx)
  have HL := Lib.hid (fun W => stless_any s x.1.at_ W)
  have hfin : hitsB x.1 key s = (coversB x.1 key && decide (stC s x.1.at_ < 0)) := rfl
  simp only []
  rw [hfin]
  obtain ⟨Q, hQ⟩ : ∃ Q, Q = coversB x.1 key := ⟨_, rfl⟩
  obtain ⟨U, hU⟩ : ∃ U, U = decide (stC s x.1.at_ < 0) := ⟨_, rfl⟩
  rw [← hQ] at HC ⊢
  rw [← hU] at HL ⊢
  clear hQ hU hr hrc hg hfin eb ec hk h0 h1 h2
  obtain ⟨ao, n, cap, e1⟩ := hx
  obtain ⟨⟨at1, ak1, akey1, afin1, aval1, aex1, ⟨ap1, al1, aw1⟩, aov1⟩, av1⟩ := x
  obtain ⟨sp, sl, sw⟩ := s
  simp only [] at e1 s0 s1 s2
  subst e1
  unfold vM at HC ⊢
  simp only [] at HC HL ⊢
  go_enter Tryz.func108, Tryz.ntmps108
  go_wp2_with fail
  have hB := Lib.hid (((Below.refl _ w1).alloc (Nat.le_refl _) (.cells #[.int .i64 at1, .int .i64 ak1, .string akey1, .string afin1, .string aval1, .int .i64 aex1, .int .i64 ap1, .int .i64 al1, .int .i64 aw1, .slice ao n cap] 40)))
  have hN := A0.of (At.new w1 40 (⟨⟨at1, ak1, akey1, afin1, aval1, aex1, ⟨ap1, al1, aw1⟩, aov1⟩, .slice ao n cap⟩ : Ro))
  unfold enM at hN
  simp only [] at hN
  have HN := Lib.hid hN
  clear hN
  refine (HC.out _).mono ?_
  rintro e w2 ⟨rfl, hb⟩
  have hbb := below_then hB.out (Nat.le_refl _) hb.below
  have HB2 := Lib.hid hbb
  have t0 := (hbb.cell (p := ⟨c, 0, none⟩) hc1).trans s0
  have t1 := (hbb.cell (p := ⟨c, 1, none⟩) hc1).trans s1
  have t2 := (hbb.cell (p := ⟨c, 2, none⟩) hc1).trans s2
  obtain ⟨-, y0, y1, y2, y3, y4, y5, y6, y7, y8, y9⟩ := HN.out.below hb.below
  simp only [] at y0 y1 y2 y3 y4 y5 y6 y7 y8 y9
  clear hb hbb s0 s1 s2 k0
  cases Q
  · go_wp2_with fail
    go_ret
    exact ⟨rfl, HB2.out⟩
  · go_wp2_with fail
    refine (HL.out _).mono ?_
    rintro e w3 ⟨rfl, hb⟩
    have HB3 := Lib.hid (below_then HB2.out (Nat.le_refl _) hb.below)
    clear hb
    go_wp2_with fail
    go_ret
    exact ⟨rfl, HB3.out⟩
end Go.Proofs.YtmjelcjdfamikaaGreatDoor.Mut
