/- MutKeys, MutOver, MutRight, MutAsk: in one text. -/
import Derived.Test.YtihfcohebgemdaaDoorMutWords
import Derived.Laws.Closers25
import Derived.Test.YtihfcohebgemdaaDoorMutRows
import Derived.Test.YtihfcohebgemdaaDoorMutDel
set_option linter.unusedSimpArgs false
set_option linter.unusedVariables false
/- The walks of runes.bad, Val, Key (layer 1). -/
namespace Go.Proofs.YtihfcohebgemdaaDoor.Mut
open Go.RowKit Go.Sort Go.Proofs.YtihfcohebgemdaaDoor.Ord
set_option linter.unusedSectionVars false
variable [Inhabited Lim]

/-- Is a rune that was told at a place one of a byte that begins none? -/
def badF (s : ByteArray) (i : Nat) (r : Int) : Bool := decide (r = 65533) && decide (((Lib.decodeGo (s.extract i s.size)).2 : Int) < 2)
def valFrom (s : ByteArray) : Nat → Nat → Bool
  | 0, _ => true
  | f + 1, pos => if pos < s.size then (if badF s pos (Utf8.decode s pos).1 then false else valFrom s f (pos + (Utf8.decode s pos).2)) else true
def valF (s : ByteArray) : Bool := decide (s.size ≤ 64) && valFrom s s.size 0
def keyFrom (s : ByteArray) : Nat → Nat → Bool
  | 0, _ => true
  | f + 1, pos => if pos < s.size then (if badF s pos (Utf8.decode s pos).1 || !partF (Utf8.decode s pos).1 (decide ((pos : Int) = 0)) then false else keyFrom s f (pos + (Utf8.decode s pos).2)) else true
def keyF (s : ByteArray) : Bool := decide (0 < s.size) && decide (s.size ≤ 24) && keyFrom s s.size 0

set_option maxHeartbeats 2000000 in
set_option maxRecDepth 100000 in
theorem bad_any (s : ByteArray) (i : Nat) (r : Int) (w : World) (hT : Tabs w) (hi : i ≤ s.size) (hs : s.size ≤ 1000000) : Calls Tryd.prog 20 #[.string s, .int .i64 i, .int .i32 r] w fun e w' => e = .returned (.bool (badF s i r)) ∧ RowKit.Below w.heap.size w w' := by
  have hd := decode_any (s.extract i s.size) w hT
  unfold badF
  obtain ⟨a, ha⟩ : ∃ a, a = (Lib.decodeGo (s.extract i s.size)).1 := ⟨_, rfl⟩
  obtain ⟨b, hb⟩ : ∃ b, b = (Lib.decodeGo (s.extract i s.size)).2 := ⟨_, rfl⟩
  rw [← ha, ← hb] at hd
  rw [← hb]
  obtain ⟨t, ht⟩ : ∃ t, t = s.extract i s.size := ⟨_, rfl⟩
  rw [← ht] at hd
  have HT := Lib.hid ht
  have HD := Lib.hid hd
  clear ha hb hd ht hT
  by_cases h : r = 65533
  · subst h
    go_enter Tryd.func20, Tryd.ntmps20
    go_wp2_with fail
    rw [← HT.out]
    refine HD.out.mono ?_
    rintro e w1 ⟨rfl, hb⟩
    go_wp2_with fail
    go_ret
    exact ⟨ret_bool (by simp), hb⟩
  · go_enter Tryd.func20, Tryd.ntmps20
    go_wp2_with fail
    go_ret
    exact ⟨ret_bool (by simp [h]), Below.refl _ _⟩

theorem valFrom_step (s : ByteArray) (f : Nat) {pos : Nat} (h : pos < s.size) : valFrom s (f + 1) pos = (if badF s pos (Utf8.decode s pos).1 then false else valFrom s f (pos + (Utf8.decode s pos).2)) := by simp [valFrom, h]
theorem valFrom_end (s : ByteArray) (f : Nat) {pos : Nat} (h : ¬ pos < s.size) : valFrom s f pos = true := by
  cases f with
  | zero => rfl
  | succ f => simp [valFrom, h]
theorem keyFrom_step (s : ByteArray) (f : Nat) {pos : Nat} (h : pos < s.size) : keyFrom s (f + 1) pos = (if badF s pos (Utf8.decode s pos).1 || !partF (Utf8.decode s pos).1 (decide ((pos : Int) = 0)) then false else keyFrom s f (pos + (Utf8.decode s pos).2)) := by simp [keyFrom, h]
theorem keyFrom_end (s : ByteArray) (f : Nat) {pos : Nat} (h : ¬ pos < s.size) : keyFrom s f pos = true := by
  cases f with
  | zero => rfl
  | succ f => simp [keyFrom, h]

set_option maxHeartbeats 8000000 in
set_option maxRecDepth 100000 in
theorem key_any (s : ByteArray) (w : World) (hT : Tabs w) (hs : s.size ≤ 1000000) : Calls Tryd.prog 14 #[.string s] w fun e w' => e = .returned (.bool (keyF s)) ∧ RowKit.Below w.heap.size w w' := by
  have HT := Lib.hid hT
  clear hT
  by_cases h0 : s.size = 0
  · have hv : keyF s = false := by unfold keyF; rw [decide_eq_false (by omega)]; rfl
    rw [hv]
    have he : s = ByteArray.empty := ByteArray.ext (Array.eq_empty_of_size_eq_zero (by simpa using h0))
    subst he
    clear hv
    go_enter Tryd.func14, Tryd.ntmps14
    go_wp2_with fail
    go_ret
    exact ⟨rfl, Below.refl _ _⟩
  have hne : s.toList.isEmpty = false := by
    rw [← decide_eq_emptyBytes]
    exact decide_eq_false (fun h => h0 (by rw [h]; rfl))
  by_cases h24 : 24 < s.size
  · have hv : keyF s = false := by unfold keyF; rw [decide_eq_false (p := s.size ≤ 24) (by omega)]; simp
    rw [hv]
    clear hv
    go_enter Tryd.func14, Tryd.ntmps14
    go_wp2_with fail
    go_ret
    exact ⟨rfl, Below.refl _ _⟩
  have hv : keyF s = keyFrom s s.size 0 := by unfold keyF; rw [decide_eq_true (p := s.size ≤ 24) (by omega), decide_eq_true (p := 0 < s.size) (by omega)]; simp
  rw [hv]
  have HV := Lib.hid hv
  clear hv
  go_enter Tryd.func14, Tryd.ntmps14
  go_wp2_with fail
  go_loopw [] (fun wr => ∃ (pos fuel : Nat), wr.heap[w.heap.size]? = some (.stringIter s pos) ∧ Hid (Below w.heap.size w wr) ∧
    Hid (keyFrom s fuel pos = keyFrom s s.size 0) ∧ s.size ≤ pos + fuel) (fun wr => s.size - wr.iterPos w.heap.size)
  case atStart => exact ⟨0, s.size, World.iter_heap w s 0, Lib.hid ((Below.refl _ _).alloc (Nat.le_refl _) _), Lib.hid rfl, by omega⟩
  case round =>
    obtain ⟨pos, fuel, hit, hB, hL, hf⟩ := hrel
    have hpos0 := iter_pos hit
    by_cases hp : pos < s.size
    · have hnx : ∀ ty, (Instr.next (.pointer (some ⟨w.heap.size, 0, none⟩)) true ty).run Tryd.prog wr = _ := fun ty => Lib.run_next_any_at wr w.heap.size s pos ty hit hp
      have hwd := width_pos s pos hp
      obtain ⟨fuel, rfl⟩ : ∃ f', fuel = f' + 1 := ⟨fuel - 1, by omega⟩
      have hst := keyFrom_step s fuel hp
      obtain ⟨W1, hW1⟩ : ∃ W1, W1 = wr.iterAt w.heap.size s (pos + (Utf8.decode s pos).2) := ⟨_, rfl⟩
      have hit2 : W1.heap[w.heap.size]? = some (.stringIter s (pos + (Utf8.decode s pos).2)) := by rw [hW1]; exact Lib.iterAt_heap wr w.heap.size s pos _ hit
      have hB1 : Below w.heap.size w W1 := by rw [hW1]; exact Lib.below_iterAt hB.out (Nat.le_refl _) s _
      rw [← hW1] at hnx
      rw [hst] at hL
      have hlt2 : pos < pos + (Utf8.decode s pos).2 := by omega
      generalize (Utf8.decode s pos).1 = r at *
      generalize pos + (Utf8.decode s pos).2 = pos2 at *
      have HI2 := Lib.hid hit2
      have HB1 := Lib.hid hB1
      have HP0 := Lib.hid hpos0
      have HL := Lib.hid hL.out
      have BC := Lib.hid (bad_any s pos r W1 (HT.out.below hB1) (by omega) hs)
      cases hb : badF s pos r
      · rw [hb] at BC
        have PC := fun (W : World) => Lib.hid (part_any r (decide ((pos : Int) = 0)) W)
        cases hq : partF r (decide ((pos : Int) = 0))
        · have HL2 := Lib.hid (show false = keyFrom s s.size 0 by
            have h := HL.out
            rw [hb, hq] at h
            simpa using h)
          rw [hq] at PC
          clear hW1 hit hB hL hit2 hB1 hst hwd hpos0 hb hq
          go_wp2_with fail
          refine BC.out.mono ?_
          rintro en w2 ⟨rfl, hb2⟩
          have HB3 := Lib.hid (below_then HB1.out (Nat.le_refl _) hb2)
          clear hb2
          go_wp2_with fail
          refine (PC _).out.mono ?_
          rintro en w3 ⟨rfl, rfl⟩
          go_wp2_with fail
          go_ret
          exact ⟨by rw [← HL2.out]; rfl, HB3.out⟩
        · have HL2 := Lib.hid (show keyFrom s fuel pos2 = keyFrom s s.size 0 by
            have h := HL.out
            rw [hb, hq] at h
            simpa using h)
          rw [hq] at PC
          clear hW1 hit hB hL hit2 hB1 hst hwd hpos0 hb hq
          go_wp2_with fail
          refine BC.out.mono ?_
          rintro en w2 ⟨rfl, hb2⟩
          have HI3 := Lib.hid (show w2.heap[w.heap.size]? = some (.stringIter s pos2) from by
            rw [← HI2.out]; exact hb2.block _ (Array.getElem?_eq_some_iff.1 HI2.out).1)
          have HB3 := Lib.hid (below_then HB1.out (Nat.le_refl _) hb2)
          clear hb2
          go_wp2_with fail
          refine (PC _).out.mono ?_
          rintro en w3 ⟨rfl, rfl⟩
          go_wp2_with fail
          go_roundw
          case rel => exact ⟨pos2, fuel, HI3.out, HB3, HL2, by omega⟩
          case measure => rw [iter_pos HI3.out, HP0.out]; omega
      · rw [hb] at BC
        have HL2 := Lib.hid (show false = keyFrom s s.size 0 by
          have h := HL.out
          rw [hb] at h
          simpa using h)
        clear hW1 hit hB hL hit2 hB1 hst hwd hpos0 hb
        go_wp2_with fail
        refine BC.out.mono ?_
        rintro en w2 ⟨rfl, hb2⟩
        have HB3 := Lib.hid (below_then HB1.out (Nat.le_refl _) hb2)
        clear hb2
        go_wp2_with fail
        go_ret
        exact ⟨by rw [← HL2.out]; rfl, HB3.out⟩
    · have hnx : ∀ ty, (Instr.next (.pointer (some ⟨w.heap.size, 0, none⟩)) true ty).run Tryd.prog wr = _ := fun ty => Lib.run_next_end_at wr w.heap.size s pos ty hit hp
      rw [keyFrom_end s fuel hp] at hL
      have HL2 := Lib.hid (show true = keyFrom s s.size 0 from hL.out)
      clear hit hL hpos0
      go_wp2_with fail
      go_ret
      exact ⟨by rw [← HL2.out]; rfl, hB.out⟩
end Go.Proofs.YtihfcohebgemdaaDoor.Mut

/- The walk of mut.over (layer 7): rising stamps, each ahead of the mutation's. -/
namespace Go.Proofs.YtihfcohebgemdaaDoor.Mut
open Go.RowKit Go.Sort Go.Proofs.YtihfcohebgemdaaDoor.Ord
set_option linter.unusedSectionVars false
variable [Inhabited Lim]

def aheadB : Option Stp → Stp → Bool
  | none, _ => true
  | some p, s => decide (stC p s < 0)
def overFrom (t : Stp) : Option Stp → List Stp → Bool
  | _, [] => true
  | prev, s :: l => stR s && (decide (stC s t < 0) && (aheadB prev s && overFrom t (some s) l))
def overF (l : List Stp) (t : Stp) : Bool := overFrom t none l && decide (l.length ≤ 24)

end Go.Proofs.YtihfcohebgemdaaDoor.Mut

/- The walk of mut.Right (layer 7). PRINTED by wip/genmutright.py. -/
namespace Go.Proofs.YtihfcohebgemdaaDoor.Mut
open Go.RowKit Go.Sort Go.Proofs.YtihfcohebgemdaaDoor.Ord
set_option linter.unusedSectionVars false
variable [Inhabited Lim]

/-- May there be such a mutation? Of what its parts are. -/
def rightG (a b c d ve f fe q : Bool) (ex k t : Int) (n : Nat) : Bool :=
  a && (b && (c && (!(decide (ex < 0) || (decide (1099511627776 < ex) || (decide (0 < ex) && (!decide (k = 1) || !decide (t = 1))))) && (!((!decide (k = 1) && !ve) || !d) && (!((!decide (k = 3) && !fe) || (decide (k = 3) && (!f || !q))) &&
    (if t = 1 then decide (n = 0) && (decide (1 ≤ k) && decide (k ≤ 3)) else if t = 2 then decide (k = 1) || decide (k = 2) else false))))))
def rightF (m : Mu) : Bool := rightG (stR m.at_) (keyF m.key) (overF m.over m.at_) (valF m.val) m.val.toList.isEmpty (keyF m.fin) m.fin.toList.isEmpty (lessS m.key m.fin) m.expiry m.kind m.table m.over.length
theorem fit_of {m : Mu} (h : rightF m = true) : Fit m := by
  unfold rightF rightG at h
  simp only [Bool.and_eq_true, Bool.not_eq_true', Bool.or_eq_false_iff, Bool.and_eq_false_iff, decide_eq_false_iff_not, decide_eq_true_eq, Bool.not_eq_false'] at h
  obtain ⟨-, -, -, ⟨h1, h2, h3⟩, ⟨h4, -⟩, -, h6⟩ := h
  constructor
  · by_cases t1 : m.table = 1
    · exact Or.inl t1
    · rw [if_neg t1] at h6
      by_cases t2 : m.table = 2
      · exact Or.inr t2
      · rw [if_neg t2] at h6; cases h6
  · intro hk
    have t1 : m.table = 1 := by
      by_cases t1 : m.table = 1
      · exact t1
      · rw [if_neg t1] at h6
        by_cases t2 : m.table = 2
        · rw [if_pos t2, hk] at h6; simp at h6
        · rw [if_neg t2] at h6; cases h6
    rw [if_pos t1] at h6
    simp only [Bool.and_eq_true, decide_eq_true_eq] at h6
    refine ⟨t1, ?_, ?_, List.length_eq_zero_iff.1 h6.1⟩
    · rcases h4 with h4 | h4
      · rw [hk] at h4; omega
      · rw [← decide_eq_emptyBytes] at h4
        exact of_decide_eq_true h4
    · rcases h3 with h3 | h3
      · omega
      · rw [hk] at h3; simp at h3

structure A0 (w : World) (b : Nat) (x : Ro) : Prop where
  lt : b < w.heap.size
  c0 : w.cell? ⟨b, 0, none⟩ = some (.int .i64 x.1.table)
  c1 : w.cell? ⟨b, 1, none⟩ = some (.int .i64 x.1.kind)
  c2 : w.cell? ⟨b, 2, none⟩ = some (.string x.1.key)
  c3 : w.cell? ⟨b, 3, none⟩ = some (.string x.1.fin)
  c4 : w.cell? ⟨b, 4, none⟩ = some (.string x.1.val)
  c5 : w.cell? ⟨b, 5, none⟩ = some (.int .i64 x.1.expiry)
  c6 : w.cell? ⟨b, 6, none⟩ = some (.int .i64 x.1.at_.p)
  c7 : w.cell? ⟨b, 7, none⟩ = some (.int .i64 x.1.at_.l)
  c8 : w.cell? ⟨b, 8, none⟩ = some (.int .i64 x.1.at_.w)
  c9 : w.cell? ⟨b, 9, none⟩ = some x.2
theorem A0.of {w : World} {b : Nat} {x : Ro} (h : At w b 0 x) : A0 w b x := by
  obtain ⟨h0, h1, h2, h3, h4, h5, h6, h7, h8, h9, h10⟩ := h
  simp only [Nat.zero_add] at *
  exact ⟨h0, h1, h2, h3, h4, h5, h6, h7, h8, h9, h10⟩
theorem A0.below {w w' : World} {b : Nat} {x : Ro} (h : A0 w b x) (hb : RowKit.Below w.heap.size w w') : A0 w' b x := by
  have e : ∀ k, w'.cell? ⟨b, k, none⟩ = w.cell? ⟨b, k, none⟩ := fun k => hb.cell (p := ⟨b, k, none⟩) h.lt
  obtain ⟨h0, h1, h2, h3, h4, h5, h6, h7, h8, h9, h10⟩ := h
  exact ⟨Nat.lt_of_lt_of_le h0 hb.size, (e _).trans h1, (e _).trans h2, (e _).trans h3, (e _).trans h4, (e _).trans h5, (e _).trans h6, (e _).trans h7, (e _).trans h8, (e _).trans h9, (e _).trans h10⟩

end Go.Proofs.YtihfcohebgemdaaDoor.Mut

/- The closures of state.Covered and state.wipe (layer 8), as questions. -/
namespace Go.Proofs.YtihfcohebgemdaaDoor.Mut
open Go.RowKit Go.Sort Go.Proofs.YtihfcohebgemdaaDoor.Ord
set_option linter.unusedSectionVars false
variable [Inhabited Lim]

theorem A0.grown {w w' : World} {b : Nat} {x : Ro} {row : Option Nat} (h : A0 w b x) (hg : w.grownBy w' row) (hr : row ≠ some b) : A0 w' b x := by
  have hb : w'.heap[b]? = w.heap[b]? := hg.block b h.lt (fun e => hr e.symm)
  have e : ∀ k, w'.cell? ⟨b, k, none⟩ = w.cell? ⟨b, k, none⟩ := fun k => World.cell?_of_block hb
  obtain ⟨h0, h1, h2, h3, h4, h5, h6, h7, h8, h9, h10⟩ := h
  exact ⟨Nat.lt_of_lt_of_le h0 hg.size, (e _).trans h1, (e _).trans h2, (e _).trans h3, (e _).trans h4, (e _).trans h5, (e _).trans h6, (e _).trans h7, (e _).trans h8, (e _).trans h9, (e _).trans h10⟩
def hitsB (w : Mu) (key : ByteArray) (s : Stp) : Bool := coversB w key && decide (stC s w.at_ < 0)
theorem hits_iff (w : Mu) (key : ByteArray) (s : Stp) : hits w key s ↔ hitsB w key s = true := by
  unfold hits hitsB
  rw [covers_iff]
  simp

end Go.Proofs.YtihfcohebgemdaaDoor.Mut
