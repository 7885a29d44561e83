/- The values of a key are those from it up to ahead of the key with a zero byte behind it (layer 9), in plain Lean. · A right key lies ahead of "\xff\xff" (layer 9), in plain Lean. · A loop over an iterator that itself ranges over an iterator, and keeps variables of its own between two rounds (any program): what the caller's invariant abides, the contract, the law of the loop (a body that always goes on). · view.Keys (layer 9): the iterator over the keys is made. · The walks of view.Keys's iterator (layer 9): it ranges over view.rows's, and keeps the last key. PRINTED by wip/genkeys1.py. · Rows of texts: slices.Equal (turned from TriEq); law09.keys: the keys that are gone through. -/
import Derived.Test.YtmfhmcegmeinnaaGreatDoorGet
import Derived.Test.YtmfhmcegmeinnaaGreatDoorViewSee
import Derived.Test.YtmfhmcegmeinnaaGreatDoorIterKeep
import Derived.Test.YtmfhmcegmeinnaaGreatDoorTold09
set_option linter.unusedSimpArgs false
set_option linter.unusedVariables false
namespace Go.Proofs.YtmfhmcegmeinnaaGreatDoor.Mut
open Go.RowKit Go.Sort Go.Proofs.YtmfhmcegmeinnaaGreatDoor.Ord
set_option linter.unusedSectionVars false
variable [Inhabited Lim]

theorem between_one : ∀ (k l : List UInt8), (!Op.bytesLess l k && Op.bytesLess l (k ++ [0])) = (l == k)
  | [], [] => by decide
  | [], y :: l => by simp [Op.bytesLess]
  | x :: k, [] => by simp [Op.bytesLess]
  | x :: k, y :: l => by
    have ih := between_one k l
    simp only [List.cons_append, Op.bytesLess]
    by_cases h1 : y < x
    · have h2 : ¬ y = x := fun e => by rw [e] at h1; exact absurd h1 (by simp)
      simp [h1, h2]
    · by_cases h2 : y = x
      · subst h2
        simpa using ih
      · have hb : (y == x) = false := beq_false_of_ne h2
        simp [h1, hb]
theorem append_zero (k : ByteArray) : (k ++ ⟨#[0]⟩).toList = k.toList ++ [0] := by
  rw [ByteArray.toList_eq, ByteArray.toList_eq, ByteArray.data_append]
  simp
theorem get_see (c : Con) (t : Int) (key : ByteArray) (phys : Int) : getF c t key phys = ((shownF c t phys).filter (inB key (key ++ ⟨#[0]⟩))).map rwOf := by
  unfold getF
  rw [List.filter_map]
  congr 1
  refine List.filter_congr fun m _ => ?_
  show (m.key.toList == key.toList) = inB key (key ++ ⟨#[0]⟩) m
  unfold inB lessS
  rw [append_zero, between_one]
end Go.Proofs.YtmfhmcegmeinnaaGreatDoor.Mut

namespace Go.Proofs.YtmfhmcegmeinnaaGreatDoor.Mut
open Go.RowKit Go.Sort Go.Proofs.YtmfhmcegmeinnaaGreatDoor.Ord
set_option linter.unusedSectionVars false
variable [Inhabited Lim]

theorem decode_ff (l : List UInt8) : Utf8.decode ⟨⟨255 :: l⟩⟩ 0 = (65533, 1) := by
  have h0 : (ByteArray.get! ⟨⟨255 :: l⟩⟩ (0 + 0)).toNat = 255 := by simp [ByteArray.get!]
  unfold Utf8.decode
  simp only [h0]
  simp [Utf8.runeError]
theorem key_ahead {s : ByteArray} (h : keyF s = true) : lessS s ⟨#[255, 255]⟩ = true := by
  obtain ⟨⟨ls⟩⟩ := s
  unfold keyF at h
  simp only [Bool.and_eq_true, decide_eq_true_eq] at h
  obtain ⟨⟨h1, -⟩, h2⟩ := h
  cases ls with
  | nil => simp [ByteArray.size] at h1
  | cons b l =>
    unfold lessS
    rw [ByteArray.toList_eq, ByteArray.toList_eq]
    by_cases hb : b = 255
    · exfalso
      subst hb
      obtain ⟨f, hf⟩ : ∃ f, ByteArray.size ⟨⟨255 :: l⟩⟩ = f + 1 := ⟨l.length, by simp [ByteArray.size]⟩
      have hbad : badF ⟨⟨255 :: l⟩⟩ 0 (Utf8.decode ⟨⟨255 :: l⟩⟩ 0).1 = true := by
        unfold badF Lib.decodeGo
        rw [show ByteArray.extract ⟨⟨255 :: l⟩⟩ 0 (ByteArray.size ⟨⟨255 :: l⟩⟩) = ⟨⟨255 :: l⟩⟩ from ByteArray.extract_zero_size, if_neg (by omega), decode_ff]
        rfl
      rw [hf] at h2
      unfold keyFrom at h2
      rw [if_pos (by omega), hbad] at h2
      simp at h2
    · have hlt : b < 255 := by
        have h3 : b.toNat ≠ 255 := fun e => hb (UInt8.toNat_inj.1 e)
        have h4 := UInt8.toNat_lt b
        exact UInt8.lt_iff_toNat_lt.2 (by show b.toNat < 255; omega)
      show Op.bytesLess (b :: l) [255, 255] = true
      simp [Op.bytesLess, hlt]
/-- All that is shown lies between the empty key and "\xff\xff". -/
theorem shown_every {c : Con} {n : Nat} (hG : Good c n) (t phys : Int) : (shownF c t phys).filter (inB ByteArray.empty ⟨#[255, 255]⟩) = shownF c t phys := by
  refine List.filter_eq_self.2 fun m hm => ?_
  have hr : rightF m = true := by
    refine hG.okc.right m ?_
    unfold shownF liveF at hm
    have h1 := (List.mem_filter.1 hm).1
    split at h1
    · exact Con.mem_all.2 (Or.inr (Or.inr (List.mem_filter.1 h1).1))
    · exact Con.mem_all.2 (Or.inl (List.mem_filter.1 h1).1)
  have hk : keyF m.key = true := by
    unfold rightF rightG at hr
    simp only [Bool.and_eq_true] at hr
    exact hr.2.1
  unfold inB
  rw [key_ahead hk, Bool.and_true]
  unfold lessS
  rw [show ByteArray.empty.toList = [] from by rw [ByteArray.toList_eq]; rfl]
  cases m.key.toList <;> rfl
end Go.Proofs.YtmfhmcegmeinnaaGreatDoor.Mut

namespace Go.Proofs.YtmfhmcegmeinnaaGreatDoor
open Go.RowKit Go.Shelf

/-- What abides a turn of one block from B on: one that holds no cells, or one that no round may write. -/
def AbidesK {β : Type} (Bs : List Nat) (B : Nat) (J : β → World → Prop) : Prop :=
  ∀ s X Y row, J s X → X.grownBy Y row → (∀ r, row = some r → B ≤ r ∧ ((∃ o : Obj, X.heap[r]? = some o ∧ o.isCells = false) ∨ ¬ Mine Bs X r)) → J s Y
theorem AbidesK.ownFrom {β : Type} {Bs : List Nat} {B B' : Nat} {J : β → World → Prop} (h : AbidesK Bs B J) (hB : B ≤ B') : OwnFrom B' J :=
  fun s X Y row hs hg hr => h s X Y row hs hg fun r e => ⟨Nat.le_trans hB (hr r e).1, Or.inl (hr r e).2⟩
theorem AbidesK.up {β : Type} {Bs : List Nat} {B B' : Nat} {J : β → World → Prop} (h : AbidesK Bs B J) (hB : B ≤ B') : AbidesK Bs B' J :=
  fun s X Y row hs hg hr => h s X Y row hs hg fun r e => ⟨Nat.le_trans hB (hr r e).1, (hr r e).2⟩
theorem AbidesK.below {β : Type} {Bs : List Nat} {B : Nat} {J : β → World → Prop} (h : AbidesK Bs B J) {s : β} {A C : World} (hs : J s A) (hb : Below A.heap.size A C) : J s C :=
  h s A C none hs ⟨hb.os, hb.tape, hb.output, hb.size, fun i hi _ => hb.block i hi⟩ (fun r e => by cases e)
theorem AbidesK.box {β : Type} {Bs : List Nat} {B r : Nat} {J : β → World → Prop} (h : AbidesK Bs B J) {s : β} {A : World} (hs : J s A) (hB : B ≤ r) (hm : ¬ Mine Bs A r) (v : Value) : J s (A.setCell ⟨r, 0, none⟩ v) :=
  h s A _ (some r) hs (grownBy_setCell' A r v) (fun r' e => by cases e; exact ⟨hB, Or.inr hm⟩)
theorem AbidesK.put {β : Type} {Bs : List Nat} {B l : Nat} {J : β → World → Prop} (h : AbidesK Bs B J) {s : β} {A : World} {o : Obj} (o' : Obj) (hs : J s A) (hB : B ≤ l) (hl : A.heap[l]? = some o) (ho : o.isCells = false) : J s (A.putObj l o') :=
  h s A _ (some l) hs (grownBy_putObj' A l o') (fun r' e => by cases e; exact ⟨hB, Or.inl ⟨o, hl, ho⟩⟩)

theorem roundIn_any {P : Program} {n m l l' : Nat} {f : FuncId} {tmps : Array Value} {assign body : Code} {w : World} {R : Ending → World → Prop} (h : RoundIn Fence.wide n P l f tmps assign body w R) : RoundIn (Fence.wide.inRound l') m P l f tmps assign body w R :=
  ⟨trivial, fun c cs _ => h.2 c cs (room_wide _)⟩
theorem roundIn_to {P : Program} {n m l : Nat} {f : FuncId} {tmps : Array Value} {assign body : Code} {w : World} {R : Ending → World → Prop} (h : RoundIn Fence.wide n P l f tmps assign body w R) : RoundIn Fence.wide m P l f tmps assign body w R :=
  ⟨trivial, fun c cs _ => h.2 c cs (room_wide _)⟩
theorem KV.to0 {base : Nat} {Bs : List Nat} {A C : World} (h : KV base Bs A C) : KV 0 Bs A C :=
  ⟨h.1, fun i o hi hm hc => h.2 i o hi hm (hc.elim (fun h => absurd h (Nat.not_lt_zero i)) Or.inr)⟩

/-- The contract of such an iterator: each round goes on. -/
def SeqC {α : Type} (P : Program) (g : Nat) (lb : Array Value) (encs : α → Array Value) (Bs : List Nat) (S : List α → Prop) (N : Nat) (w : World) : Prop :=
  ∀ (l : Nat) (J : List α → World → Prop) (W : World), Below w.heap.size w W → AbidesK Bs W.heap.size J →
    (∀ pre x W1, J pre W1 → pre.length < N → YieldAt Fence.wide 0 P l (encs x) W1 fun e W' =>
      e = .returned (.bool true) ∧ J (pre ++ [x]) W' ∧ KV 0 Bs W1 W' ∧ KeepsFrom W.heap.size W1 W') →
    J [] W →
    CallsIn Fence.wide 0 P g (#[.func (.yield l) #[] #[]] ++ lb) W fun e W' => (∃ v, e = .returned v) ∧ ∃ xs, S xs ∧ J xs W'

theorem wpIn_rangeFunc_over {α : Type} {P : Program} {n n' : Nat} {g : Operand} {ps : Array Tmp} {assign body : Code} {Q : Exit → Act → World → Prop} {a : Act} {w : World}
    {gf : Nat} {lb : Array Value} (hg : a.eval g = .func (.func gf) #[] lb) (eg : ∀ args w, (callFunc gf args).run P w = .ok (.enter gf args) w)
    {encs : α → Array Value} {Bs : List Nat} {S : List α → Prop} {N : Nat} {w0 : World} (hseq : SeqC P gf lb encs Bs S N w0) (hb0 : Below w0.heap.size w0 w) (hps : ∀ x, (encs x).size = ps.size) (hBs : ∀ B ∈ Bs, B < w.heap.size)
    (I : List α → World → Prop) (hI : AbidesK Bs w.heap.size I) (h0 : I [] w) (a₁ : α → Act)
    (hassign : ∀ (l : Nat) (x : α) (W : World) (K : Act → World → Prop), K (a₁ x) W →
      assign.wpIn (Fence.wide.inRound l) n' P (Exit.then K (fun _ _ _ => False)) { tmps := (ps.zip (encs x)).foldl (fun t (p, v) => t.setIfInBounds p v) a.tmps, defers := [] } W)
    (hbody : ∀ (l : Nat) (pre : List α) (x : α) (W : World), I pre W → pre.length < N →
      body.wpIn (Fence.wide.inRound l) n' P (fun e _ W' => e = .normal ∧ KeepsFrom w.heap.size W W' ∧ KV 0 Bs W W' ∧ I (pre ++ [x]) W') (a₁ x) W)
    (hdone : ∀ (D : Nat) (xs : List α) (W : World), w.heap.size ≤ D → S xs → I xs W → W.heap[D]? = some (.deferred (some [])) → Q .normal { a with defers := { target := .collected D, args := #[] } :: a.defers } W) :
    (Code.rangeFunc g ps assign body).wpIn Fence.wide n P Q a w := by
  refine wpIn_rangeFunc ?_
  intro fn _
  obtain ⟨R, hR⟩ : ∃ R : LoopState → Loop, R = fun st => { state := st, pending := none, fn, tmps := a.tmps, params := ps, assign, body, defers := w.heap.size } := ⟨_, rfl⟩
  obtain ⟨W1, hW1⟩ : ∃ W1, (w.alloc (.deferred (some []))).alloc (.loop (R .ready)) = W1 := ⟨_, rfl⟩
  have hs1 : W1.heap.size = w.heap.size + 2 := by rw [← hW1]; simp
  have hl1 : W1.heap[w.heap.size + 1]? = some (.loop (R .ready)) := by
    rw [← hW1]
    have := World.alloc_heap_new (w.alloc (.deferred (some []))) (.loop (R .ready))
    rwa [World.size_alloc] at this
  have hk1 : W1.heap[w.heap.size]? = some (.deferred (some [])) := by
    rw [← hW1]
    exact (Below.heap_alloc _ _ _ (by simp)).trans (World.alloc_heap_new w _)
  have hbw : Below w.heap.size w W1 := by
    rw [← hW1]
    exact ((Below.refl _ w).alloc (Nat.le_refl _) _).alloc (by simp) _
  have hi1 : I [] W1 := hI.below h0 hbw
  have hc := hseq (w.heap.size + 1) (fun pre W => I pre W ∧ W.heap[w.heap.size + 1]? = some (.loop (R .ready)) ∧ W.heap[w.heap.size]? = some (.deferred (some []))) W1 (hb0.trans (hbw.mono hb0.size))
    (fun s A C row hs hgr hr => by
      obtain ⟨q1, q2, q3⟩ := hs
      have hn : ∀ j, j < w.heap.size + 2 → some j ≠ row := fun j hj e => by have := (hr j e.symm).1; omega
      exact ⟨hI.up (by omega) s A C row q1 hgr hr, (hgr.block _ (Array.getElem?_eq_some_iff.1 q2).1 (hn _ (by omega))).trans q2, (hgr.block _ (Array.getElem?_eq_some_iff.1 q3).1 (hn _ (by omega))).trans q3⟩)
    (fun pre x W hJ hlt => by
      obtain ⟨q1, q2, q3⟩ := hJ
      have hlW : w.heap.size + 1 < W.heap.size := (Array.getElem?_eq_some_iff.1 q2).1
      have hy := run_yield (P := P) (args := encs x) q2 (by rw [hR]; exact hps x)
      rw [hR] at hy
      refine ⟨fn, _, assign, body, hy, roundIn_to (roundIn_of_wpIn (n := n') trivial ?_)⟩
      refine hassign _ x W _ ?_
      refine ⟨_, run_beginRound q2 (by rw [hR]), ?_⟩
      obtain ⟨W2, hW2⟩ : ∃ W2, W.putObj (w.heap.size + 1) (.loop { R .ready with state := .busy }) = W2 := ⟨_, rfl⟩
      have hl2 : W2.heap[w.heap.size + 1]? = some (.loop { R .ready with state := .busy }) := by rw [← hW2]; exact World.putObj_heap_same hlW
      have hk2 : W2.heap[w.heap.size]? = some (.deferred (some [])) := by rw [← hW2]; exact (World.putObj_heap_other (by omega)).trans q3
      have hi2 : I pre W2 := by rw [← hW2]; exact hI.put _ q1 (by omega) q2 rfl
      have hv2 : KV 0 Bs W W2 := by rw [← hW2]; exact (KV.put hBs W _ _ _ (by omega) q2 rfl).to0
      have hf2 : KeepsFrom W1.heap.size W W2 := by rw [← hW2]; exact KeepsFrom.of_grownBy (grownBy_putObj' _ _ _) (fun j e => by cases e; omega)
      rw [hW2]
      refine wpIn_mono (hbody _ pre x W2 hi2 hlt) ?_
      rintro e a3 W3 ⟨rfl, p1, p2, p3⟩
      have hl3 := p1.same _ _ (by omega) hl2 rfl
      have hk3 := p1.same _ _ (Nat.le_refl _) hk2 rfl
      have hr3 := run_endRound (P := P) none hl3
      have hlW3 : w.heap.size + 1 < W3.heap.size := (Array.getElem?_eq_some_iff.1 hl3).1
      refine ⟨_, _, hr3, rfl, ⟨hI.put _ p3 (by omega) hl3 rfl, ?_, (World.putObj_heap_other (by omega)).trans hk3⟩, (hv2.trans p2).trans (KV.put hBs W3 _ _ _ (by omega) hl3 rfl).to0, ?_⟩
      · rw [World.putObj_heap_same hlW3, hR]
        rfl
      · exact (hf2.trans ⟨p1.size, fun k o hB => p1.same k o (by omega)⟩).trans (KeepsFrom.of_grownBy (grownBy_putObj' _ _ _) (fun j e => by cases e; omega)))
    ⟨hi1, hl1, hk1⟩
  refine ⟨w.heap.size + 1, [{ target := .collected w.heap.size, args := #[] }], W1, { target := .fn (.func gf) lb, args := #[.func (.yield (w.heap.size + 1)) #[] #[]] }, W1, gf,
    #[.func (.yield (w.heap.size + 1)) #[] #[]] ++ lb, W1, ?_, ?_, fun _ _ => trivial, ?_, fun h => by simp [Fence.wide] at h, ?_⟩
  · rw [← hW1, hR]; exact run_enterLoop_outer _ _ _ _ _
  · simp only [resolve, hg]
    simp [go_sem]
  · simp [invoke, go_sem, eg]
  · refine (callsIn_wide.2 (callsIn_wide.1 hc)).mono ?_
    rintro e W2 ⟨⟨v, rfl⟩, xs, hS, q1, q2, q3⟩
    have hlW : w.heap.size + 1 < W2.heap.size := (Array.getElem?_eq_some_iff.1 q2).1
    have he := run_endLoop (P := P) q2 (by rw [hR]; simp)
    refine ⟨_, _, he, ?_⟩
    rw [hR]
    exact hdone _ xs _ (Nat.le_refl _) hS (hI.put _ q1 (by omega) q2 rfl) ((World.putObj_heap_other (by omega)).trans q3)
end Go.Proofs.YtmfhmcegmeinnaaGreatDoor

namespace Go.Proofs.YtmfhmcegmeinnaaGreatDoor.Mut
open Go.RowKit Go.Sort Go.Shelf Go.Proofs.YtmfhmcegmeinnaaGreatDoor.Ord
set_option linter.unusedSectionVars false
variable [Inhabited Lim]

set_option maxRecDepth 100000 in
theorem keys_in (n : Nat) (o1 o2 o3 : Option Addr) (n1 k1 n2 k2 n3 k3 : Nat) (t phys : Int) (w : World) :
    CallsIn Fence.wide n Tryz.prog 56 #[.agg #[.slice o1 n1 k1, .slice o2 n2 k2, .slice o3 n3 k3], .int .i64 t, .int .i64 phys] w fun e w' =>
      e = .returned (.func (.func 106) #[] #[.pointer (some ⟨w.heap.size, 0, none⟩), .pointer (some ⟨w.heap.size + 1, 0, none⟩), .pointer (some ⟨w.heap.size + 2, 0, none⟩)]) ∧
      w' = ((w.alloc (.cells #[.slice o1 n1 k1, .slice o2 n2 k2, .slice o3 n3 k3] 28)).alloc (.cells #[.int .i64 t] 23)).alloc (.cells #[.int .i64 phys] 3) := by
  refine callsIn_of_wp Tryz.func56 rfl trivial ?_ rfl
  simp only [Tryz.ntmps56, List.size_toArray, List.length_cons, List.length_nil, Nat.reduceAdd, Nat.reduceSub, Array.replicate_succ, Array.replicate_zero, List.push_toArray, List.append_toArray, List.nil_append, List.cons_append]
  gi_wp2
  go_ret
  exact ⟨rfl, rfl⟩

/-- The keys that are gone through, one behind the other: the last one, and whether there was one. -/
def lastK (pre : List Rw) : ByteArray := match pre.getLast? with | some x => x.key | none => ByteArray.empty
theorem toldG_snoc (x : Rw) : ∀ (l : List Rw) (p : Option ByteArray), toldG p (l ++ [x]) = toldG p l ++ if (match l.getLast? with | some y => some y.key | none => p) = some x.key then [] else [x.key]
  | [], p => by
    by_cases h : p = some x.key <;> simp [toldG, h]
  | y :: l, p => by
    have ih := toldG_snoc x l (some y.key)
    have e : (match (y :: l).getLast? with | some z => some z.key | none => p) = match l.getLast? with | some z => some z.key | none => some y.key := by
      cases l with
      | nil => rfl
      | cons z l => rw [List.getLast?_cons_cons]; cases h : (z :: l).getLast? with
        | none => simp at h
        | some u => rfl
    rw [List.cons_append, toldG, toldG, ih, e]
    split <;> simp
end Go.Proofs.YtmfhmcegmeinnaaGreatDoor.Mut

namespace Go.Proofs.YtmfhmcegmeinnaaGreatDoor.Mut
open Go.RowKit Go.Sort Go.Shelf Go.Proofs.YtmfhmcegmeinnaaGreatDoor.Ord
set_option linter.unusedSectionVars false
variable [Inhabited Lim]

attribute [local go_sem] Oper.semAt_some

theorem _root_.Go.Proofs.YtmfhmcegmeinnaaGreatDoor.SafeBox.keepc {base : Nat} {Bs : List Nat} {B : Nat} {t : TypeId} {v : Value} {A C : World} (h : SafeBox Bs B t v A) (k : KV base Bs A C) : SafeBox Bs B t v C := k.2 B _ h.1 h.2 (Or.inr rfl)
set_option maxRecDepth 100000 in
set_option maxHeartbeats 4000000 in
theorem rows1z_in (n : Nat) (hn : 3 ≤ n) (lp base Bc Bt Bp : Nat) (Bs : List Nat) (c : Con) (m : Nat) (o1 o2 o3 : Option Addr) (n1 k1 n2 k2 n3 k3 : Nat) (t phys : Int) (L : List Rw) (hL : L = (shownF c t phys).map rwOf) (hG : Good c m) (hm : m ≤ 100000) (hBp : Bp < base) (J Jx : List Rw → World → Prop)
    (hY : ∀ pre (x : Rw) W, J pre W → pre.length < L.length → YieldAt Fence.wide (n - 1) Tryz.prog lp #[vRw x] W fun e W' =>
      (e = .returned (.bool true) ∧ J (pre ++ [x]) W' ∧ KV 0 Bs W W') ∨ (e = .returned (.bool false) ∧ Jx (pre ++ [x]) W'))
    (W : World) (hJab : AbidesFrom W.heap.size J) (hbs : base ≤ W.heap.size) (hBs : ∀ B ∈ Bs, B < base) (hc : C3 W Bc (.slice o1 n1 k1) (.slice o2 n2 k2) (.slice o3 n3 k3)) (ht : Boxed W Bt 23 (.int .i64 t)) (hp : Boxed W Bp 3 (.int .i64 phys)) (hv : IsC c (.agg #[.slice o1 n1 k1, .slice o2 n2 k2, .slice o3 n3 k3]) W)
    (hfree : ∀ i W', Below W.heap.size W W' → (i = Bp ∨ W.heap.size ≤ i) → ¬ Mine Bs W' i) (hJ0 : J [] W) :
    CallsIn Fence.wide n Tryz.prog 103 #[.func (.yield lp) #[] #[], .pointer (some ⟨Bc, 0, none⟩), .pointer (some ⟨Bt, 0, none⟩), .pointer (some ⟨Bp, 0, none⟩)] W fun e W' => (∃ v, e = .returned v) ∧
      ((∃ ys, ys = L ∧ J ys W') ∨ (∃ pre, (∃ k, k ≤ L.length ∧ pre = L.take k) ∧ Jx pre W')) := by
  have hn1 : 1 ≤ n := by omega
  have cL := live_any (.agg #[.slice o1 n1 k1, .slice o2 n2 k2, .slice o3 n3 k3]) c m t W hv hG hm
  have hct := ht.cell
  obtain ⟨-, s0, s1, s2, -⟩ := hc
  have hlv : ∀ l ∈ [liveF c t], l.length ≤ 200000 := by
    intro l hl
    have h1 := hG.okc.lens
    obtain rfl : l = liveF c t := by simpa using hl
    unfold liveF
    split
    · have := List.length_filter_le (fun m => !supF c m.key m.at_) c.sibs; omega
    · have := List.length_filter_le (fun m => decide (m.table = t)) c.cells; omega
  have hll := hlv _ (List.mem_singleton.2 rfl)
  clear hlv
  refine callsIn_of_wp Tryz.func103 rfl trivial ?_ rfl
  simp only [Tryz.ntmps103, List.size_toArray, List.length_cons, List.length_nil, Nat.reduceAdd, Nat.reduceSub, Array.replicate_succ, Array.replicate_zero, List.push_toArray, List.append_toArray, List.nil_append, List.cons_append]
  gi_wp2_with (refine ⟨trivial, ?_⟩; gi_at_call 104; refine (callsIn_wide.2 cL).mono ?_; rintro e W2 ⟨u, R, rfl, hrow, hR, hfm, hb2⟩; obtain ⟨ao, cap, rfl⟩ := row_form hrow)
  have hLF : L = firstK phys R R.length := by
    rw [hL]
    unfold firstK shownF
    rw [List.take_length, ← hR, List.filter_map, List.map_map]
    rfl
  have hRl : R.length ≤ 200000 := by rw [← hR, List.length_map] at hll; exact hll
  have HD : Hid (SafeBox Bs Bp 3 (.int .i64 phys) W2 ∧ Safe Bs 51 10 (.slice ao R.length cap) R.length (R.flatMap enM) W2) := Lib.hid ⟨⟨box_below hp hb2, hfree Bp W2 hb2 (Or.inl rfl)⟩, own_base hrow (Nat.zero_le _), fun g hgb => hfree g W2 hb2 (Or.inr ((World.ownsRow.lt hrow g hgb).1))⟩
  have hJ2 : J [] W2 := abides_below hJab hJ0 hb2
  have HF := Lib.hid hfm
  have HLF := Lib.hid hLF
  have hbs2 : base ≤ W2.heap.size := Nat.le_trans hbs hb2.size
  obtain ⟨N, hN⟩ : ∃ N, N = R.length := ⟨_, rfl⟩
  rw [← hN] at HD hRl ⊢
  have HN := Lib.hid hN
  have hJab2 := hJab
  have hsz2 := hb2.size
  clear hv ht hp hct cL hfree hrow hfm hLF hR hll hL s0 s1 s2 hN hJ0 hb2
  gi_loopw [11] (fun iv wr => ∃ k : Nat, k ≤ N ∧ iv = .int .i64 k ∧ J (firstK phys R k) wr ∧ Hid (SafeBox Bs Bp 3 (.int .i64 phys) wr ∧ Safe Bs 51 10 (.slice ao N cap) N (R.flatMap enM) wr) ∧ base ≤ wr.heap.size) (fun iv _ => N - (intOf iv).toNat)
  case atStart => exact ⟨0, Nat.zero_le _, rfl, hJ2, HD, hbs2⟩
  case round =>
    obtain ⟨k, hk, rfl, hJk, hh, hbr⟩ := hrel
    by_cases hlt : k < N
    · have hkr : k < R.length := by have := HN.out; omega
      obtain ⟨x, hx⟩ : ∃ x, R[k]? = some x := ⟨_, List.getElem?_eq_getElem hkr⟩
      have hrow : Lst 10 enM wr (.slice ao N cap) R := Lst.owned enM_len (by decide) HN.out hh.out.2.1
      obtain ⟨xb, xoff, hao, hb, hcx⟩ := Lst.get hrow hkr
      rw [(List.getElem?_eq_some_iff.1 hx).2] at hcx
      have hat := At.of hb hcx
      cases hao
      have hxf := HF.out x (List.mem_of_getElem? hx)
      have hst := firstK_step (phys := phys) hx
      have hln := firstK_len (phys := phys) hx
      rw [← HLF.out] at hln
      have hpc := hh.out.1.1.cell
      have hpl := hh.out.1.1.lt
      obtain ⟨Q, hQ⟩ : ∃ Q, Q = seenB x.1 phys := ⟨_, rfl⟩
      have HS := Lib.hid (fun W => seen_any x phys W hxf)
      rw [← hQ] at hst hln HS
      have HST := Lib.hid hst
      have HLN := Lib.hid hln
      obtain ⟨rw_, hrw⟩ : ∃ r, r = rwOf x.1 := ⟨_, rfl⟩
      rw [← hrw] at HST
      have HKV : ∀ Wn, Below wr.heap.size wr Wn → KV 0 Bs wr Wn := fun Wn h => kv_below (fun B hB => Nat.lt_of_lt_of_le (hBs B hB) hbr) h
      have HKV2 := Lib.hid HKV
      clear HKV hst hln hrow hcx hx hQ
      obtain ⟨xo, xn, xc, ex⟩ := hxf
      obtain ⟨⟨at1, ak1, akey1, afin1, aval1, aex1, ⟨ap1, al1, aw1⟩, aov1⟩, av1⟩ := x
      simp only [] at ex
      subst ex
      have HRW := Lib.hid (show vRw rw_ = .agg #[.string akey1, .string aval1, .int .i64 ap1, .int .i64 al1, .int .i64 aw1] by rw [hrw]; rfl)
      clear hrw
      obtain ⟨hbl, a0, a1, a2, a3, a4, a5, a6, a7, a8, a9⟩ := hat
      simp only [] at a0 a1 a2 a3 a4 a5 a6 a7 a8 a9
      unfold vM RetB at HS
      simp only [] at HS
      cases Q
      · gi_wp2_with (refine ⟨trivial, ?_⟩; gi_at_call 105; refine (callsIn_wide.2 (HS.out _)).mono ?_; rintro e w1 ⟨rfl, hb1⟩; have hbm : Below wr.heap.size wr w1 := below_then ((Below.refl _ wr).alloc (Nat.le_refl _) (.cells #[.int .i64 at1, .int .i64 ak1, .string akey1, .string afin1, .string aval1, .int .i64 aex1, .int .i64 ap1, .int .i64 al1, .int .i64 aw1, .slice xo xn xc] 51)) (Nat.le_refl _) hb1; have hJ1 : J (firstK phys R k) w1 := abides_below hJab2 hJk hbm; have hk1 := HKV2.out w1 hbm; have HH1 := Lib.hid (And.intro (hh.out.1.keepc hk1) (hh.out.2.keep hk1)); have hbr1 : base ≤ w1.heap.size := Nat.le_trans hbr hbm.size; have HJ := Lib.hid (show J (firstK phys R (k + 1)) w1 by rw [HST.out]; simpa using hJ1); clear hJ1 hk1 hbm hb1)
        refine ⟨fun f h => (by cases h), ?_⟩
        gi_wp2
        go_roundw
        case rel => exact ⟨k + 1, by omega, by go_num, HJ.out, HH1, hbr1⟩
        case measure => simp [intOf]; omega
      · have hlen := HLN.out rfl
        have HST2 := Lib.hid (show firstK phys R (k + 1) = firstK phys R k ++ [rw_] by rw [HST.out]; rfl)
        gi_wp2_with (refine ⟨trivial, ?_⟩; gi_at_call 105; refine (callsIn_wide.2 (HS.out _)).mono ?_; rintro e w1 ⟨rfl, hb1⟩; have hbm : Below wr.heap.size wr w1 := below_then ((Below.refl _ wr).alloc (Nat.le_refl _) (.cells #[.int .i64 at1, .int .i64 ak1, .string akey1, .string afin1, .string aval1, .int .i64 aex1, .int .i64 ap1, .int .i64 al1, .int .i64 aw1, .slice xo xn xc] 51)) (Nat.le_refl _) hb1; have q2 : w1.cell? ⟨wr.heap.size, 2, none⟩ = some (.string akey1) := (hb1.cell (p := ⟨wr.heap.size, 2, none⟩) (by simp)).trans (by go_simp); have q4 : w1.cell? ⟨wr.heap.size, 4, none⟩ = some (.string aval1) := (hb1.cell (p := ⟨wr.heap.size, 4, none⟩) (by simp)).trans (by go_simp); have q6 : w1.cell? ⟨wr.heap.size, 6, none⟩ = some (.int .i64 ap1) := (hb1.cell (p := ⟨wr.heap.size, 6, none⟩) (by simp)).trans (by go_simp); have q7 : w1.cell? ⟨wr.heap.size, 7, none⟩ = some (.int .i64 al1) := (hb1.cell (p := ⟨wr.heap.size, 7, none⟩) (by simp)).trans (by go_simp); have q8 : w1.cell? ⟨wr.heap.size, 8, none⟩ = some (.int .i64 aw1) := (hb1.cell (p := ⟨wr.heap.size, 8, none⟩) (by simp)).trans (by go_simp); have hJ1 : J (firstK phys R k) w1 := abides_below hJab2 hJk hbm; have hk1 := HKV2.out w1 hbm; have HH1 := Lib.hid (And.intro (hh.out.1.keepc hk1) (hh.out.2.keep hk1)); have hbr1 : base ≤ w1.heap.size := Nat.le_trans hbr hbm.size; obtain ⟨fn, tmps, assign, body, hy, hR⟩ := hY _ rw_ w1 hJ1 hlen; rw [HRW.out] at hy; clear hJ1 hk1 hbm hlen hb1)
        refine hR.mono ?_
        rintro e W3 (⟨rfl, hJ3, hk3⟩ | ⟨rfl, hJx3⟩)
        · have HK := Lib.hid (And.intro (HH1.out.1.keepc hk3) (HH1.out.2.keep hk3))
          have hbr3 : base ≤ W3.heap.size := Nat.le_trans hbr1 hk3.1
          gi_wp2
          go_roundw
          case rel => exact ⟨k + 1, by omega, by go_num, by rw [HST2.out]; exact hJ3, HK, hbr3⟩
          case measure => simp [intOf]; omega
        · gi_wp2
          refine bodyPost_ret (results_none rfl _ _ _) rfl ?_
          refine ⟨⟨_, rfl⟩, .inr ⟨_, ?_, hJx3⟩⟩
          rw [← HST2.out, HLF.out]
          exact firstK_pre
    · obtain rfl : k = N := by omega
      have HE := Lib.hid (show J L wr by rw [HLF.out, ← HN.out]; exact hJk)
      clear hJk
      gi_wp2
      go_end0
      exact ⟨⟨_, rfl⟩, .inl ⟨_, rfl, HE.out⟩⟩

theorem rows_stopsz (n : Nat) (hn : 3 ≤ n) (Bc Bt Bp : Nat) (Bs : List Nat) (c : Con) (m : Nat) (o1 o2 o3 : Option Addr) (n1 k1 n2 k2 n3 k3 : Nat) (t phys : Int) (L : List Rw) (hL : L = (shownF c t phys).map rwOf) (hG : Good c m) (hm : m ≤ 100000) (w : World) (hc : C3 w Bc (.slice o1 n1 k1) (.slice o2 n2 k2) (.slice o3 n3 k3)) (ht : Boxed w Bt 23 (.int .i64 t)) (hp : Boxed w Bp 3 (.int .i64 phys)) (hv : IsC c (.agg #[.slice o1 n1 k1, .slice o2 n2 k2, .slice o3 n3 k3]) w)
    (hBs : ∀ B ∈ Bs, B < w.heap.size ∧ B ≠ Bp ∧ ∀ i, blk w B = some i → i < w.heap.size ∧ i ≠ Bp) :
    SeqStopsK Fence.wide n Tryz.prog 103 #[.pointer (some ⟨Bc, 0, none⟩), .pointer (some ⟨Bt, 0, none⟩), .pointer (some ⟨Bp, 0, none⟩)] (fun x : Rw => #[vRw x]) (KV 0 Bs) (fun ys => ys = L) (fun pre => ∃ k, k ≤ L.length ∧ pre = L.take k) L.length w := fun lp J Jx W hW hJ _ hY hJ0 =>
  rows1z_in n hn lp w.heap.size Bc Bt Bp Bs c m o1 o2 o3 n1 k1 n2 k2 n3 k3 t phys L hL hG hm hp.lt J Jx hY W hJ hW.size (fun B hB => (hBs B hB).1) (hc.below hW) (box_below ht hW) (box_below hp hW) (hv.below hW) (fun i W' hW' hi hm => by
    have hs := hW.size
    have hpl := hp.lt
    have hsame : ∀ B ∈ Bs, blk W' B = blk w B := fun B hB => by
      have := (hBs B hB).1
      unfold blk
      rw [hW'.block B (by omega), hW.block B (by omega)]
    rcases hm with h | ⟨B, h1, h2⟩
    · obtain ⟨q1, q2, _⟩ := hBs i h
      rcases hi with rfl | hi
      · exact q2 rfl
      · omega
    · obtain ⟨_, _, q⟩ := hBs B h1
      rw [hsame B h1] at h2
      obtain ⟨q1, q2⟩ := q i h2
      rcases hi with rfl | hi
      · exact q2 rfl
      · omega) hJ0

theorem kv_two {Bs : List Nat} {W W1 W3 : World} {a b : Nat} (hz : W.heap.size ≤ W1.heap.size) (hs : ∀ i, i < W.heap.size → i ≠ a → i ≠ b → W1.heap[i]? = W.heap[i]?) (hBs : ∀ B ∈ Bs, B < a ∧ B < b ∧ B < W.heap.size) (h : KV 0 Bs W1 W3) (ha : blk W3 a = none) (hb : blk W3 b = none) : KV 0 (a :: b :: Bs) W W3 := by
  refine ⟨Nat.le_trans hz h.1, fun i o hi hm hc => ?_⟩
  have hlt : i < W.heap.size := (Array.getElem?_eq_some_iff.1 hi).1
  have h1 : i ≠ a := fun e => hm (Or.inl (by simp [e]))
  have h2 : i ≠ b := fun e => hm (Or.inl (by simp [e]))
  have hm1 : ¬ Mine Bs W1 i := by
    rintro (g | ⟨B, g1, g2⟩)
    · exact hm (Or.inl (by simp [g]))
    · obtain ⟨q1, q2, q3⟩ := hBs B g1
      refine hm (Or.inr ⟨B, by simp [g1], ?_⟩)
      unfold blk at g2 ⊢
      rwa [hs B q3 (by omega) (by omega)] at g2
  obtain ⟨r1, r2⟩ := h.2 i o ((hs i hlt h1 h2).trans hi) hm1 hc
  refine ⟨r1, ?_⟩
  rintro (g | ⟨B, g1, g2⟩)
  · simp only [List.mem_cons] at g
    rcases g with g | g | g
    · exact h1 g
    · exact h2 g
    · exact r2 (Or.inl g)
  · simp only [List.mem_cons] at g1
    rcases g1 with rfl | rfl | g1
    · rw [ha] at g2; cases g2
    · rw [hb] at g2; cases g2
    · exact r2 (Or.inr ⟨B, g1, g2⟩)
theorem mine_set {Bs : List Nat} {W : World} {a i : Nat} (v : Value) (ha : a < W.heap.size) (hBs : ∀ B ∈ Bs, B < a) (h : ¬ Mine Bs W i) : ¬ Mine Bs (W.setCell ⟨a, 0, none⟩ v) i := by
  intro g
  refine h (mine_same (fun B hB => ?_) i g)
  have := hBs B hB
  exact (grownBy_setCell' W a v).block B (by omega) (by simp; omega)

/-- What holds between two rounds of the inner loop. -/
def KeyI (J : List ByteArray → World → Prop) (Bs : List Nat) (lp k : Nat) (pre : List Rw) (W : World) : Prop :=
  J (toldG none pre) W ∧ Boxed W k 140 (.func (.yield lp) #[] #[]) ∧ Boxed W (k + 1) 9 (.string (lastK pre)) ∧ Boxed W (k + 2) 4 (.bool (!pre.isEmpty)) ∧ (¬ Mine Bs W k ∧ ¬ Mine Bs W (k + 1) ∧ ¬ Mine Bs W (k + 2))
theorem keyI_own {J : List ByteArray → World → Prop} {Bs : List Nat} {lp k B : Nat} (hJ : AbidesK Bs k J) (hk : k + 2 < B) (hBs : ∀ B ∈ Bs, B < k) : OwnFrom B (KeyI J Bs lp k) := by
  rintro s X Y row ⟨h1, h2, h3, h4, h5, h6, h7⟩ hg hr
  have hr2 : ∀ r, row = some r → ∃ o : Obj, X.heap[r]? = some o ∧ o.isCells = false := fun r e => (hr r e).2
  have hm : ∀ i, ¬ Mine Bs X i → ¬ Mine Bs Y i := fun i h g => h (mine_same (fun C hC => by
    have h0 := hBs C hC
    have h8 := h2.lt
    exact hg.block C (by omega) (fun e => by have := (hr C e.symm).1; omega)) i g)
  exact ⟨hJ.ownFrom (B' := B) (by omega) (toldG none s) X Y row h1 hg hr, own_box h2 hg hr2, own_box h3 hg hr2, own_box h4 hg hr2, hm _ h5, hm _ h6, hm _ h7⟩

theorem lastK_snoc (pre : List Rw) (x : Rw) : lastK (pre ++ [x]) = x.key := by
  unfold lastK
  rw [List.getLast?_append]
  rfl
theorem told_new (pre : List Rw) (x : Rw) (h : pre = [] ∨ lastK pre ≠ x.key) : toldG none (pre ++ [x]) = toldG none pre ++ [x.key] := by
  rw [toldG_snoc]
  congr 1
  refine if_neg ?_
  rcases h with rfl | h
  · simp
  · unfold lastK at h
    cases e : pre.getLast? with
    | none => simp
    | some y =>
      rw [e] at h
      simp only [Option.some.injEq]
      exact h
theorem told_old (pre : List Rw) (x : Rw) (h1 : pre ≠ []) (h : lastK pre = x.key) : toldG none (pre ++ [x]) = toldG none pre := by
  rw [toldG_snoc]
  unfold lastK at h
  cases e : pre.getLast? with
  | none => exact absurd (List.getLast?_eq_none_iff.1 e) h1
  | some y =>
    rw [e] at h
    simp only [] at h
    simp [h]
theorem toldG_len : ∀ (l : List Rw) (p : Option ByteArray), (toldG p l).length ≤ l.length
  | [], p => by simp [toldG]
  | x :: t, p => by
    have ih := toldG_len t (some x.key)
    rw [toldG]
    split
    · rw [List.length_cons]; omega
    · rw [List.length_cons, List.length_cons]; omega
theorem keyI_step {J : List ByteArray → World → Prop} {Bs : List Nat} {lp k B : Nat} {pre : List Rw} {x : Rw} {W W3 : World} (h : KeyI J Bs lp k pre W) (hBs : ∀ B ∈ Bs, B < k) (hJ3 : J (toldG none (pre ++ [x])) W3)
    (hkv : KV 0 Bs ((W.setCell ⟨k + 1, 0, none⟩ (.string x.key)).setCell ⟨k + 2, 0, none⟩ (.bool true)) W3) (hkf : KeepsFrom k ((W.setCell ⟨k + 1, 0, none⟩ (.string x.key)).setCell ⟨k + 2, 0, none⟩ (.bool true)) W3) (hb : k ≤ B) :
    KeepsFrom B W W3 ∧ KV 0 ((k + 1) :: (k + 2) :: Bs) W W3 ∧ KeyI J Bs lp k (pre ++ [x]) W3 := by
  obtain ⟨h1, b4, b5, b6, m4, m5, m6⟩ := h
  have l6 := b6.lt
  have c4 := (b4.other (B' := k + 1) (by omega) (.string x.key)).other (B' := k + 2) (by omega) (.bool true)
  have c5 := (b5.set (.string x.key)).other (B' := k + 2) (by omega) (.bool true)
  have c6 := (b6.other (B' := k + 1) (by omega) (.string x.key)).set (.bool true)
  have mk : ∀ i, ¬ Mine Bs W i → ¬ Mine Bs ((W.setCell ⟨k + 1, 0, none⟩ (.string x.key)).setCell ⟨k + 2, 0, none⟩ (.bool true)) i := fun i hi =>
    mine_set _ (by simp; omega) (fun B hB => by have := hBs B hB; omega) (mine_set _ (by omega) (fun B hB => by have := hBs B hB; omega) hi)
  obtain ⟨d4, n4⟩ := hkv.2 k _ c4 (mk _ m4) (Or.inr rfl)
  obtain ⟨d5, n5⟩ := hkv.2 (k + 1) _ c5 (mk _ m5) (Or.inr rfl)
  obtain ⟨d6, n6⟩ := hkv.2 (k + 2) _ c6 (mk _ m6) (Or.inr rfl)
  have D5 : Boxed W3 (k + 1) 9 (.string x.key) := d5
  have D6 : Boxed W3 (k + 2) 4 (.bool true) := d6
  refine ⟨?_, kv_two (by simp) (fun i hi h1 h2 => ?_) (fun B hB => by have := hBs B hB; omega) hkv (by rw [blk_box D5]; rfl) (by rw [blk_box D6]; rfl), hJ3, d4, by rw [lastK_snoc]; exact D5, ?_, n4, n5, n6⟩
  · have e : KeepsFrom B W ((W.setCell ⟨k + 1, 0, none⟩ (.string x.key)).setCell ⟨k + 2, 0, none⟩ (.bool true)) := ((KeepsOthers.setCell _ _ _).trans (KeepsOthers.setCell _ _ _)).from B
    exact e.trans ⟨hkf.size, fun i o hi => hkf.same i o (by omega)⟩
  · rw [(grownBy_setCell' (W.setCell ⟨k + 1, 0, none⟩ (.string x.key)) (k + 2) (.bool true)).block i (by simp; omega) (by simp; omega), (grownBy_setCell' W (k + 1) (.string x.key)).block i hi (by simp; omega)]
  · have e : (!(pre ++ [x]).isEmpty) = true := by cases pre <;> rfl
    rw [e]
    exact D6

set_option maxRecDepth 100000 in
set_option maxHeartbeats 4000000 in
theorem keys_stops (Bc Bt Bp : Nat) (Bs : List Nat) (c : Con) (m : Nat) (o1 o2 o3 : Option Addr) (n1 k1 n2 k2 n3 k3 : Nat) (t phys : Int) (L : List Rw) (hL : L = (shownF c t phys).map rwOf) (hG : Good c m) (hm : m ≤ 100000) (w : World) (hc : C3 w Bc (.slice o1 n1 k1) (.slice o2 n2 k2) (.slice o3 n3 k3)) (ht : Boxed w Bt 23 (.int .i64 t)) (hp : Boxed w Bp 3 (.int .i64 phys)) (hv : IsC c (.agg #[.slice o1 n1 k1, .slice o2 n2 k2, .slice o3 n3 k3]) w)
    (hBs : ∀ B ∈ Bs, B < w.heap.size ∧ ∀ i, blk w B = some i → i < w.heap.size) :
    SeqC Tryz.prog 106 #[.pointer (some ⟨Bc, 0, none⟩), .pointer (some ⟨Bt, 0, none⟩), .pointer (some ⟨Bp, 0, none⟩)] (fun x : ByteArray => #[.string x]) Bs (fun ys => ys = toldG none L) L.length w := by
  intro lp J W hW hJ hY hJ0
  have hws := hW.size
  have HBS := Lib.hid (show ∀ B ∈ Bs, B < W.heap.size ∧ ∀ i, blk W B = some i → i < W.heap.size from fun B hB => by
    obtain ⟨q1, q2⟩ := hBs B hB
    refine ⟨by omega, fun i hi => ?_⟩
    have e : blk W B = blk w B := by unfold blk; rw [hW.block B q1]
    rw [e] at hi
    have := q2 i hi
    omega)
  have hc' := hc.below hW
  have ht' := box_below ht hW
  have hp' := box_below hp hW
  have hv' := Lib.hid (hv.below hW)
  obtain ⟨k, hk⟩ : ∃ k, k = W.heap.size := ⟨_, rfl⟩
  have HJ := Lib.hid hJ
  rw [← hk] at HJ HBS hY
  have hb3 : RowKit.Below W.heap.size W (((W.alloc (.cells #[.func (.yield lp) #[] #[]] 140)).alloc (.cells #[.string ⟨#[]⟩] 9)).alloc (.cells #[.bool false] 4)) :=
    (((Below.refl _ W).alloc (Nat.le_refl _) _).alloc (by simp) _).alloc (by simp; omega) _
  have hct := (box_below ht' hb3).cell
  have hcp := (box_below hp' hb3).cell
  obtain ⟨-, s0, s1, s2, -⟩ := hc'.below hb3
  have HY := Lib.hid hY
  have HJ0 := Lib.hid hJ0
  have HL := Lib.hid hL
  have cR := fun W => rows_in 5 (.slice o1 n1 k1) (.slice o2 n2 k2) (.slice o3 n3 k3) o1 o2 o3 n1 k1 n2 k2 n3 k3 t phys W
  have HK := Lib.hid hk
  clear hc hp ht hv hBs hW hws hJ hY hJ0 hL ht' hp' hk
  refine callsIn_wide.2 ((callsIn_wide (n := 6)).1 ?_)
  refine callsIn_of_wp_marks Tryz.func106 rfl trivial ?_ rfl
  simp only [Tryz.ntmps106, List.size_toArray, List.length_cons, List.length_nil, Nat.reduceAdd, Nat.reduceSub, Array.replicate_succ, Array.replicate_zero, List.push_toArray, List.append_toArray, List.nil_append, List.cons_append]
  gi_wp2_with (refine ⟨trivial, ?_⟩; gi_at_call 55; refine (cR _).mono ?_; rintro e w' ⟨rfl, rfl⟩)
  obtain ⟨W0, hW0⟩ : ∃ W0, W0 = (((((W.alloc (.cells #[.func (.yield lp) #[] #[]] 140)).alloc (.cells #[.string ⟨#[]⟩] 9)).alloc (.cells #[.bool false] 4)).alloc (.cells #[.slice o1 n1 k1, .slice o2 n2 k2, .slice o3 n3 k3] 28)).alloc (.cells #[.int .i64 t] 23)).alloc (.cells #[.int .i64 phys] 3) := ⟨_, rfl⟩
  rw [← hW0]
  obtain ⟨Wc, hWc⟩ : ∃ Wc, Wc = (((W.alloc (.cells #[.func (.yield lp) #[] #[]] 140)).alloc (.cells #[.string ⟨#[]⟩] 9)).alloc (.cells #[.bool false] 4)) := ⟨_, rfl⟩
  have hsc : Wc.heap.size = k + 3 := by rw [hWc, HK.out]; simp
  have y4 : Boxed Wc k 140 (.func (.yield lp) #[] #[]) := by
    rw [hWc, HK.out]
    exact ((Boxed.new W _ _).alloc _).alloc _
  have y5 : Boxed Wc (k + 1) 9 (.string ⟨#[]⟩) := by
    rw [hWc, HK.out]
    have := Boxed.new (W.alloc (.cells #[.func (.yield lp) #[] #[]] 140)) 9 (.string ⟨#[]⟩)
    rw [World.size_alloc] at this
    exact this.alloc _
  have y6 : Boxed Wc (k + 2) 4 (.bool false) := by
    rw [hWc, HK.out]
    have := Boxed.new ((W.alloc (.cells #[.func (.yield lp) #[] #[]] 140)).alloc (.cells #[.string ⟨#[]⟩] 9)) 4 (.bool false)
    rw [World.size_alloc, World.size_alloc] at this
    exact this
  have hbc : RowKit.Below k W Wc := by rw [hWc, HK.out]; exact hb3
  rw [← hWc] at hW0
  clear hWc
  have hs0 : W0.heap.size = k + 6 := by rw [hW0]; simp; omega
  have hb0 : RowKit.Below Wc.heap.size Wc W0 := by
    rw [hW0]
    exact (((Below.refl _ Wc).alloc (Nat.le_refl _) _).alloc (by simp) _).alloc (by simp; omega) _
  have b4 := box_below y4 hb0
  have b5 := box_below y5 hb0
  have b6 := box_below y6 hb0
  have bc : C3 W0 (k + 3) (.slice o1 n1 k1) (.slice o2 n2 k2) (.slice o3 n3 k3) := by
    rw [hW0, ← hsc]
    exact ((C3.new Wc _ _ _).below ((Below.refl _ _).alloc (Nat.le_refl _) _)).below ((Below.refl _ _).alloc (Nat.le_refl _) _)
  have bT : Boxed W0 (k + 4) 23 (.int .i64 t) := by
    rw [hW0]
    have := Boxed.new (Wc.alloc (.cells #[.slice o1 n1 k1, .slice o2 n2 k2, .slice o3 n3 k3] 28)) 23 (.int .i64 t)
    rw [World.size_alloc, hsc] at this
    exact this.alloc _
  have bp : Boxed W0 (k + 5) 3 (.int .i64 phys) := by
    rw [hW0]
    have := Boxed.new ((Wc.alloc (.cells #[.slice o1 n1 k1, .slice o2 n2 k2, .slice o3 n3 k3] 28)).alloc (.cells #[.int .i64 t] 23)) 3 (.int .i64 phys)
    rw [World.size_alloc, World.size_alloc, hsc] at this
    exact this
  have hbW : RowKit.Below W.heap.size W W0 := by rw [← HK.out]; exact hbc.trans (hb0.mono (by rw [hsc]; omega))
  have hIs : IsC c (.agg #[.slice o1 n1 k1, .slice o2 n2 k2, .slice o3 n3 k3]) W0 := hv'.out.below hbW
  have hblk : ∀ B ∈ Bs, blk W0 B = blk W B := fun B hB => by
    have h1 := (HBS.out B hB).1
    unfold blk
    rw [hbW.block B (by have := HK.out; omega)]
  have hmine : ∀ i, k ≤ i → ¬ Mine Bs W0 i := by
    rintro i hi (g | ⟨B, g1, g2⟩)
    · have := (HBS.out i g).1; omega
    · rw [hblk B g1] at g2
      have := (HBS.out B g1).2 i g2
      omega
  have hBk : ∀ B ∈ Bs, B < k := fun B hB => (HBS.out B hB).1
  have hBs2 : ∀ B ∈ ((k + 1) :: (k + 2) :: Bs), B < W0.heap.size := by
    intro B hB
    simp only [List.mem_cons] at hB
    rcases hB with rfl | rfl | hB
    · omega
    · omega
    · have := hBk B hB; omega
  have hBs3 : ∀ B ∈ ((k + 1) :: (k + 2) :: Bs), B < W0.heap.size ∧ B ≠ k + 5 ∧ ∀ i, blk W0 B = some i → i < W0.heap.size ∧ i ≠ k + 5 := by
    intro B hB
    refine ⟨hBs2 B hB, ?_⟩
    simp only [List.mem_cons] at hB
    rcases hB with rfl | rfl | hB
    · exact ⟨by omega, fun i hi => by rw [blk_box b5] at hi; cases hi⟩
    · exact ⟨by omega, fun i hi => by rw [blk_box b6] at hi; cases hi⟩
    · obtain ⟨q1, q2⟩ := HBS.out B hB
      refine ⟨by omega, fun i hi => ?_⟩
      rw [hblk B hB] at hi
      have := q2 i hi
      omega
  have h0 : KeyI J Bs lp k [] W0 := ⟨HJ.out.below HJ0.out hbW, b4, b5, b6, hmine _ (by omega), hmine _ (by omega), hmine _ (by omega)⟩
  have HBK := Lib.hid hBk
  clear hW0 hsc cR hb0 y4 y5 y6 hbc b4 b5 b6 hmine hblk hbW HJ0 hv' hBk s0 s1 s2 hct hcp hc' hb3
  refine wpIn_rangeFunc_ownH rfl (by omega) (gf := 103) (lb := #[.pointer (some ⟨k + 3, 0, none⟩), .pointer (some ⟨k + 4, 0, none⟩), .pointer (some ⟨k + 5, 0, none⟩)]) (by rw [HK.out]; rfl) trivial (enters_of Tryz.func103 (by kernel_rfl) rfl)
    (rows_stopsz _ (by omega) (k + 3) (k + 4) (k + 5) ((k + 1) :: (k + 2) :: Bs) c m o1 o2 o3 n1 k1 n2 k2 n3 k3 t phys L HL.out hG hm W0 bc bT bp hIs hBs3) KV.trans (fun W l o o' hl hW ho _ => (KV.put hBs2 W l o o' hl hW ho).to0) (Below.refl _ _) (fun _ => rfl)
    (KeyI J Bs lp k)
    (fun c pre W => False)
    (keyI_own HJ.out (by omega) HBK.out)
    (fun c => Own.from (fun s A B row hs hg hr => hs) _)
    h0
    (fun x a' W => ∃ q, RwAt W q x ∧ a' = { tmps := #[.func (.yield lp) #[] #[], .pointer (some ⟨Bc, 0, none⟩), .pointer (some ⟨Bt, 0, none⟩), .pointer (some ⟨Bp, 0, none⟩), .pointer (some ⟨k, 0, none⟩), .pointer (some ⟨k + 1, 0, none⟩), .pointer (some ⟨k + 2, 0, none⟩), .pointer (some ⟨q, 0, none⟩), .agg #[.slice o1 n1 k1, .slice o2 n2 k2, .slice o3 n3 k3], .int .i64 t, .int .i64 phys, .func (.func 103) #[] #[.pointer (some ⟨k + 3, 0, none⟩), .pointer (some ⟨k + 4, 0, none⟩), .pointer (some ⟨k + 5, 0, none⟩)], vRw x, undef, undef, undef, undef, undef, undef, undef, undef, undef, undef, undef, undef, undef, undef], defers := [] })
    (fun x a' X Y row _ hs hgr hr => by obtain ⟨q, e1, e2⟩ := hs; exact ⟨q, rwAt_own e1 hgr (fun r e => (hr r e).2), e2⟩)
    ?assign ?body ?done ?stop
  case assign =>
    rintro l pre x W K ⟨g1, g2, g3, g4, g5, g6, g7⟩ hK
    have hKI : KeyI J Bs lp k pre W := ⟨g1, g2, g3, g4, g5, g6, g7⟩
    have hsW := g4.lt
    obtain ⟨xkey, xval, ⟨xp, xl, xw⟩⟩ := x
    unfold vRw
    simp only [] at hK ⊢
    have hE := HK.out
    clear g1 g2 g3 g4 g5 g6 g7
    rw [← HK.out] at *
    gi_wp2
    exact hK _ _ ((KeepsOthers.alloc _ _).from _) (kv_below (fun B hB => by have := HBK.out; simp only [List.mem_cons] at hB; (rcases hB with rfl | rfl | hB); (· omega); (· omega); (· have := this B hB; omega)) ((Below.refl _ _).alloc (Nat.le_refl _) _)) (keyI_own (J := J) HJ.out (B := W0.heap.size) (by omega) HBK.out pre _ _ none hKI ((World.grownBy_alloc _ _ _)) (fun r e => by cases e)) ⟨W.heap.size, World.alloc_heap_new W _, rfl⟩
  case body =>
    rintro l pre x a' W hl _ ⟨g1, g2, g3, g4, g5, g6, g7⟩ ⟨q, hq, rfl⟩ hlt
    have HKI := Lib.hid (show KeyI J Bs lp k pre W from ⟨g1, g2, g3, g4, g5, g6, g7⟩)
    have hql := hq.lt
    obtain ⟨d0, -⟩ := hq.cells
    have c4 := g2.cell
    have c5 := g3.cell
    have c6 := g4.cell
    have f5 := g3.frozen
    have f6 := g4.frozen
    have l6 := g4.lt
    have hlen : (toldG none pre).length < L.length := Nat.lt_of_le_of_lt (toldG_len pre none) hlt
    have hJ1 := HJ.out.box (HJ.out.box g1 (r := k + 1) (by omega) g6 (.string x.key)) (r := k + 2) (by omega) (mine_set _ (by omega) (fun B hB => by have := HBK.out B hB; omega) g7) (.bool true)
    have HNX := Lib.hid (HY.out (toldG none pre) x.key _ hJ1 hlen)
    have ne1 : q ≠ k + 1 := fun e => by
      have h := (show W.heap[q]? = _ from hq)
      rw [e, show W.heap[k + 1]? = _ from g3] at h
      simp [enRw] at h
    have ne2 : q ≠ k + 2 := fun e => by
      have h := (show W.heap[q]? = _ from hq)
      rw [e, show W.heap[k + 2]? = _ from g4] at h
      simp [enRw] at h
    have d1 : ((W.setCell ⟨k + 1, 0, none⟩ (.string x.key)).setCell ⟨k + 2, 0, none⟩ (.bool true)).cell? ⟨q, 0, none⟩ = some (.string x.key) :=
      (World.cell?_of_block (a := ⟨q, 0, none⟩) ((grownBy_setCell' _ (k + 2) _).block q (by simp; omega) (by simp; omega))).trans ((World.cell?_of_block (a := ⟨q, 0, none⟩) ((grownBy_setCell' W (k + 1) _).block q hql (by simp; omega))).trans d0)
    obtain ⟨lk, hlk⟩ : ∃ lk, lk = lastK pre := ⟨_, rfl⟩
    rw [← hlk] at c5
    obtain ⟨sm, hsm⟩ : ∃ sm, sm = !pre.isEmpty := ⟨_, rfl⟩
    rw [← hsm] at c6
    have HLK := Lib.hid hlk
    have HSM := Lib.hid hsm
    clear hJ1 hlen g1 g2 g3 g4 g5 g6 g7 hlk hsm hq
    have fin : ∀ (e : Ending) (W3 : World), toldG none (pre ++ [x]) = toldG none pre ++ [x.key] → (e = .returned (.bool true) ∧ J (toldG none pre ++ [x.key]) W3 ∧ KV 0 Bs ((W.setCell ⟨k + 1, 0, none⟩ (.string x.key)).setCell ⟨k + 2, 0, none⟩ (.bool true)) W3 ∧ KeepsFrom k ((W.setCell ⟨k + 1, 0, none⟩ (.string x.key)).setCell ⟨k + 2, 0, none⟩ (.bool true)) W3) →
        KeepsFrom W0.heap.size W W3 ∧ KV 0 ((k + 1) :: (k + 2) :: Bs) W W3 ∧ KeyI J Bs lp k (pre ++ [x]) W3 := fun e W3 hn h => keyI_step HKI.out HBK.out (by rw [hn]; exact h.2.1) h.2.2.1 h.2.2.2 (by omega)
    have HFIN := Lib.hid fin
    clear fin
    cases sm
    · have HN := Lib.hid (told_new pre x (Or.inl (by have h := HSM.out; cases pre with | nil => rfl | cons y t => simp at h)))
      obtain ⟨fn, tmps, assign, body, hy, hR⟩ := HNX.out
      gi_wp2
      refine (roundIn_any hR).mono ?_
      rintro e W3 h3
      have HF := Lib.hid (HFIN.out e W3 HN.out h3)
      obtain ⟨rfl, -⟩ := h3
      gi_wp2
      exact HF.out
    · cases hfr : x.key.toList == lk.toList
      · have HN := Lib.hid (told_new pre x (Or.inr (by rw [← HLK.out]; intro e; rw [e] at hfr; simp at hfr)))
        obtain ⟨fn, tmps, assign, body, hy, hR⟩ := HNX.out
        gi_wp2
        refine (roundIn_any hR).mono ?_
        rintro e W3 h3
        have HF := Lib.hid (HFIN.out e W3 HN.out h3)
        obtain ⟨rfl, -⟩ := h3
        gi_wp2
        exact HF.out
      · have hke : lastK pre = x.key := by rw [← HLK.out]; exact (eq_of_toList (by simpa using hfr)).symm
        have hne : pre ≠ [] := fun e => by have h := HSM.out; rw [e] at h; simp at h
        have HO := Lib.hid (show KeyI J Bs lp k (pre ++ [x]) W from by
          obtain ⟨g1, g2, g3, g4, g5, g6, g7⟩ := HKI.out
          refine ⟨by rw [told_old pre x hne hke]; exact g1, g2, by rw [lastK_snoc, ← hke]; exact g3, ?_, g5, g6, g7⟩
          have e1 : (!(pre ++ [x]).isEmpty) = (!pre.isEmpty) := by cases pre with | nil => exact absurd rfl hne | cons y t => rfl
          rw [e1]
          exact g4)
        clear hke hne
        gi_wp2
        exact ⟨KeepsFrom.refl _ _, KV.refl _ _ _, HO.out⟩
  case done =>
    rintro D ys W hD rfl ⟨g1, g2, g3, g4, g5, g6, g7⟩ hK
    have HE := Lib.hid g1
    gi_wp2
    refine ⟨by simp, .inl ⟨_, _, rfl, run_takeDeferred hK, ?_⟩⟩
    exact ⟨_, results_none rfl _ _ _, ⟨_, rfl⟩, _, rfl, HJ.out.put _ HE.out (by omega) hK rfl⟩
  case stop =>
    rintro D c pre W hD ⟨j, hj, hpre⟩ hc hK
    exact hc.elim
end Go.Proofs.YtmfhmcegmeinnaaGreatDoor.Mut

namespace Go.Proofs.YtmfhmcegmeinnaaGreatDoor.Mut
open Go.RowKit Go.Sort Go.Shelf Go.Proofs.YtmfhmcegmeinnaaGreatDoor.Ord
set_option linter.unusedSectionVars false
variable [Inhabited Lim]

abbrev enTx (s : ByteArray) : List Value := [.string s]
abbrev TxRow (w : World) (v : Value) (l : List ByteArray) : Prop := Lst 1 enTx w v l
theorem str_at {w : World} {ao : Option Addr} {n cap : Nat} {l : List ByteArray} {k : Nat} {x : ByteArray} (h : TxRow w (.slice ao n cap) l) (hk : l[k]? = some x) :
    ∃ b off, ao = some ⟨b, off, none⟩ ∧ b < w.heap.size ∧ w.cell? ⟨b, off + k, none⟩ = some (.string x) := by
  obtain ⟨hlt, he⟩ := List.getElem?_eq_some_iff.1 hk
  obtain ⟨b, off, ha, hb, hc⟩ := Lst.get h hlt
  have := hc 0 (by decide)
  rw [he, Nat.mul_one] at this
  exact ⟨b, off, ha, hb, this⟩

theorem bytes_neM {x y : ByteArray} (h : ¬ x.toList = y.toList) : ¬ x = y := fun e => h (by rw [e])
def eqTx (a b : List ByteArray) : Bool := decide (a = b)
theorem eqTx_iff (a b : List ByteArray) : eqTx a b = true ↔ a = b := by unfold eqTx; simp
theorem eqTx_self (a : List ByteArray) : eqTx a a = true := (eqTx_iff a a).2 rfl

set_option maxHeartbeats 400000 in
theorem equalS_any (ao bo : Option Addr) (ac bc : Nat) (a b : List ByteArray) (w : World) (ha : TxRow w (.slice ao a.length ac) a) (hb : TxRow w (.slice bo b.length bc) b) (h1 : a.length ≤ 100000) (h2 : b.length ≤ 100000) :
    Calls Tryz.prog 16 #[.slice ao a.length ac, .slice bo b.length bc] w fun e w' => e = .returned (.bool (eqTx a b)) ∧ Below w.heap.size w w' := by
  have HA := Lib.hid ha
  have HB := Lib.hid hb
  clear ha hb
  cases hl : ((a.length : Int) != (b.length : Int))
  · have hll : a.length = b.length := by simp at hl; omega
    have HLL := Lib.hid hll
    obtain ⟨r, hr⟩ : ∃ r, r = eqTx a b := ⟨_, rfl⟩
    rw [← hr]
    have HR := Lib.hid hr
    clear hr hll
    go_enter Tryz.func16, Tryz.ntmps16
    go_wp2_with fail
    go_loopw [13] (fun iv wr => ∃ (k nq : Nat), k ≤ a.length ∧ iv = .int .i64 k ∧ wr = w.drewN nq ∧ Hid (eqTx (a.drop k) (b.drop k) = r)) (fun iv _ => a.length - (intOf iv).toNat)
    case atStart => exact ⟨0, 0, by omega, rfl, rfl, Lib.hid (by rw [HR.out]; simp)⟩
    case round =>
      obtain ⟨k, nq0, hk, rfl, rfl, hq0⟩ := hrel
      by_cases hlt : k < a.length
      · have hlb : k < b.length := by have := HLL.out; omega
        obtain ⟨ab, aoff, rfl, _, a0⟩ := str_at HA.out (List.getElem?_eq_getElem hlt)
        obtain ⟨bb, boff, rfl, _, b0⟩ := str_at HB.out (List.getElem?_eq_getElem hlb)
        have hda := List.drop_eq_getElem_cons hlt
        have hdb := List.drop_eq_getElem_cons hlb
        generalize a[k] = x at *
        generalize b[k] = y at *
        have HDA := Lib.hid hda
        have HDB := Lib.hid hdb
        clear hda hdb
        cases hqq : (!x.toList == y.toList)
        · have HQ := Lib.hid hqq
          go_wp2_with fail
          go_quiet (fail)
          go_wp2_with fail
          go_roundw
          case rel => exact ⟨k + 1, _, by omega, by go_num, rfl, Lib.hid (by have h1 := hq0.out; rw [HDA.out, HDB.out] at h1; have h2 := HQ.out; simp at h2; rw [← h1]; unfold eqTx; simp [eq_of_toList h2])⟩
          case measure => simp [intOf]; omega
        · have HQ := Lib.hid hqq
          go_wp2_with fail
          go_quiet (fail)
          go_wp2_with fail
          go_ret
          exact ⟨by have h1 := hq0.out; rw [HDA.out, HDB.out] at h1; have h2 := HQ.out; simp at h2; rw [← h1]; unfold eqTx; simp [bytes_neM h2], by repeat (first | exact Below.refl _ _ | apply below_drewN)⟩
      · obtain rfl : k = a.length := by omega
        go_wp2_with fail
        go_ret
        exact ⟨by have := hq0.out; rw [List.drop_length, HLL.out, List.drop_length] at this; rw [← this]; rfl, by repeat (first | exact Below.refl _ _ | apply below_drewN)⟩
  · have hll : a.length ≠ b.length := by simp at hl; omega
    have : eqTx a b = false := by
      cases h : eqTx a b with
      | false => rfl
      | true => rw [eqTx_iff] at h; exact (hll (by rw [h])).elim
    rw [this]
    clear hll this
    go_enter Tryz.func16, Tryz.ntmps16
    go_wp2_with fail
    go_ret
    exact ⟨rfl, Below.refl _ _⟩

theorem equalS_lit (q : Bool) (ao bo : Option Addr) (ac bc : Nat) (a b : List ByteArray) (w : World) (hq : eqTx a b = q) (ha : TxRow w (.slice ao a.length ac) a) (hb : TxRow w (.slice bo b.length bc) b) (h1 : a.length ≤ 100000) (h2 : b.length ≤ 100000) :
    Calls Tryz.prog 16 #[.slice ao a.length ac, .slice bo b.length bc] w fun e w' => e = .returned (.bool q) ∧ Below w.heap.size w w' := by
  rw [← hq]; exact equalS_any ao bo ac bc a b w ha hb h1 h2


theorem flat_enS : ∀ l : List ByteArray, l.flatMap enTx = l.map Value.string
  | [] => rfl
  | x :: t => by rw [List.flatMap_cons, List.map_cons, flat_enS t]; rfl

attribute [local go_sem] Oper.semAt_some

/-- The keys that have come, in their box. -/
def CollK (β B : Nat) (pre : List ByteArray) (W : World) : Prop := ∃ v, Boxed W B 37 v ∧ W.ownsRow β 9 1 v pre.length (pre.map Value.string)
theorem collK_abides {β B base n₀ : Nat} {w : World} (hn : n₀ ≤ base) : AbidesK [B] base (fun pre W => CollK β B pre W ∧ RowKit.Below n₀ w W ∧ n₀ ≤ W.heap.size) := by
  rintro s X Y row ⟨⟨v, h1, h2⟩, h3, h4⟩ hg hr
  have hB : some B ≠ row := fun e => by
    obtain ⟨q1, q2⟩ := hr B e.symm
    rcases q2 with ⟨o, ho, hc⟩ | q2
    · rw [show X.heap[B]? = _ from h1] at ho; cases ho; cases hc
    · exact q2 (Or.inl (by simp))
  have hv : v.ownBlock = none ∨ v.ownBlock ≠ row := by
    rcases h2.2 with ⟨rfl, _⟩ | ⟨g, cap, cur, rfl, _, hgb, _⟩
    · exact Or.inl rfl
    · refine Or.inr fun e => ?_
      obtain ⟨q1, q2⟩ := hr g e.symm
      rcases q2 with ⟨o, ho, hc⟩ | q2
      · rw [hgb] at ho; cases ho; cases hc
      · exact q2 (Or.inr ⟨B, by simp, by rw [blk_box h1]; rfl⟩)
  exact ⟨⟨v, h1.kept hg hB, h2.kept hg hv⟩, h3.grown hg h4 (fun r e => Nat.le_trans hn (hr r e).1), Nat.le_trans h4 hg.size⟩

set_option maxRecDepth 100000 in
set_option maxHeartbeats 4000000 in
theorem lawkeys_any (v : Value) (c : Con) (m : Nat) (t phys : Int) (w : World) (hv : IsC c v w) (hG : Good c m) (hm : m ≤ 100000) :
    Calls Tryz.prog 17 #[v, .int .i64 t, .int .i64 phys] w fun e w' => ∃ v', e = .returned v' ∧ TxRow w' v' (toldG none ((shownF c t phys).map rwOf)) ∧ RowKit.Below w.heap.size w w' := by
  obtain ⟨o1, n1, k1, o2, n2, k2, o3, n3, k3, rfl, hl⟩ := hv.form
  obtain ⟨L, hL⟩ : ∃ L, L = (shownF c t phys).map rwOf := ⟨_, rfl⟩
  have hLn : L.length ≤ 200000 := by
    have h1 := hG.okc.lens
    rw [hL, List.length_map]
    unfold shownF liveF
    have h2 := List.length_filter_le (fun m => seenB m phys)
    split
    · have := List.length_filter_le (fun m => !supF c m.key m.at_) c.sibs
      have := h2 (c.sibs.filter fun m => !supF c m.key m.at_)
      omega
    · have := List.length_filter_le (fun m => decide (m.table = t)) c.cells
      have := h2 (c.cells.filter fun m => decide (m.table = t))
      omega
  rw [← hL]
  obtain ⟨Q, hQ⟩ : ∃ Q, Q = toldG none L := ⟨_, rfl⟩
  rw [← hQ]
  have HQ := Lib.hid hQ
  have HHL := Lib.hid hl
  have HHLN := Lib.hid hLn
  obtain ⟨i0, hi, hz0, hz1, hz2⟩ := info_parts info_string
  have HI := Lib.hid hi
  have HZ0 := Lib.hid hz0
  have HZ1 := Lib.hid hz1
  have HZ2 := Lib.hid hz2
  clear hi hz0 hz1 hz2 hQ hv hl
  have cR := fun W => keys_in 4 o1 o2 o3 n1 k1 n2 k2 n3 k3 t phys W
  have hnil := fun g lb w => eq_nilFunc Tryz.underlying105 g lb w
  refine (callsIn_wide (n := 5)).1 ?_
  refine callsIn_of_wp_marks Tryz.func17 rfl trivial ?_ rfl
  simp only [Tryz.ntmps17, List.size_toArray, List.length_cons, List.length_nil, Nat.reduceAdd, Nat.reduceSub, Array.replicate_succ, Array.replicate_zero, List.push_toArray, List.append_toArray, List.nil_append, List.cons_append]
  gi_wp2_with (refine ⟨trivial, ?_⟩; gi_at_call 56; refine (cR _).mono ?_; rintro e w' ⟨rfl, rfl⟩)
  obtain ⟨W0, hW0⟩ : ∃ W0, W0 = ((((w.alloc (.cells #[.slice o1 n1 k1, .slice o2 n2 k2, .slice o3 n3 k3] 28)).alloc (.cells #[.slice none 0 0] 37)).alloc (.cells #[.slice o1 n1 k1, .slice o2 n2 k2, .slice o3 n3 k3] 28)).alloc (.cells #[.int .i64 t] 23)).alloc (.cells #[.int .i64 phys] 3) := ⟨_, rfl⟩
  rw [← hW0]
  have hs0 : W0.heap.size = w.heap.size + 5 := by rw [hW0]; simp
  have hb0 : RowKit.Below w.heap.size w W0 := by
    rw [hW0]
    exact (((((Below.refl _ w).alloc (Nat.le_refl _) _).alloc (by simp) _).alloc (by simp; omega) _).alloc (by simp; omega) _).alloc (by simp; omega) _
  obtain ⟨Wc, hWc⟩ : ∃ Wc, Wc = (w.alloc (.cells #[.slice o1 n1 k1, .slice o2 n2 k2, .slice o3 n3 k3] 28)).alloc (.cells #[.slice none 0 0] 37) := ⟨_, rfl⟩
  have hsc : Wc.heap.size = w.heap.size + 2 := by rw [hWc]; simp
  have y1 : Boxed Wc (w.heap.size + 1) 37 (.slice none 0 0) := by
    rw [hWc]
    have := Boxed.new (w.alloc (.cells #[.slice o1 n1 k1, .slice o2 n2 k2, .slice o3 n3 k3] 28)) 37 (.slice none 0 0)
    rwa [World.size_alloc] at this
  rw [← hWc] at hW0
  clear hWc
  have bo : Boxed W0 (w.heap.size + 1) 37 (.slice none 0 0) := by rw [hW0]; exact ((y1.alloc _).alloc _).alloc _
  have bc : C3 W0 (w.heap.size + 2) (.slice o1 n1 k1) (.slice o2 n2 k2) (.slice o3 n3 k3) := by
    rw [hW0, ← hsc]
    exact ((C3.new Wc _ _ _).below ((Below.refl _ _).alloc (Nat.le_refl _) _)).below ((Below.refl _ _).alloc (Nat.le_refl _) _)
  have bT : Boxed W0 (w.heap.size + 3) 23 (.int .i64 t) := by
    rw [hW0]
    have := Boxed.new (Wc.alloc (.cells #[.slice o1 n1 k1, .slice o2 n2 k2, .slice o3 n3 k3] 28)) 23 (.int .i64 t)
    rw [World.size_alloc, hsc] at this
    exact this.alloc _
  have bp : Boxed W0 (w.heap.size + 4) 3 (.int .i64 phys) := by
    rw [hW0]
    have := Boxed.new ((Wc.alloc (.cells #[.slice o1 n1 k1, .slice o2 n2 k2, .slice o3 n3 k3] 28)).alloc (.cells #[.int .i64 t] 23)) 3 (.int .i64 phys)
    rw [World.size_alloc, World.size_alloc, hsc] at this
    exact this
  have hIs : IsC c (.agg #[.slice o1 n1 k1, .slice o2 n2 k2, .slice o3 n3 k3]) W0 := (HHL.out.below hb0).is
  clear hW0 hsc cR y1
  have hb1 := hnil (.func 106) #[.pointer (some ⟨w.heap.size + 2, 0, none⟩), .pointer (some ⟨w.heap.size + 3, 0, none⟩), .pointer (some ⟨w.heap.size + 4, 0, none⟩)] W0
  gi_wp2
  refine wpIn_rangeFunc_over (n' := 4) (gf := 106) (lb := #[.pointer (some ⟨w.heap.size + 2, 0, none⟩), .pointer (some ⟨w.heap.size + 3, 0, none⟩), .pointer (some ⟨w.heap.size + 4, 0, none⟩)]) rfl (enters_of Tryz.func106 (by kernel_rfl) rfl)
    (keys_stops (w.heap.size + 2) (w.heap.size + 3) (w.heap.size + 4) [w.heap.size + 1] c m o1 o2 o3 n1 k1 n2 k2 n3 k3 t phys L hL hG hm W0 bc bT bp hIs (fun B hB => by
      obtain rfl : B = w.heap.size + 1 := by simpa using hB
      exact ⟨by omega, fun i hi => by rw [blk_box bo] at hi; cases hi⟩)) (Below.refl _ _) (fun _ => rfl) (fun B hB => by
      obtain rfl : B = w.heap.size + 1 := by simpa using hB
      omega)
    (fun pre W => CollK W0.heap.size (w.heap.size + 1) pre W ∧ RowKit.Below w.heap.size W0 W ∧ w.heap.size ≤ W.heap.size)
    (collK_abides (by omega))
    ⟨⟨_, bo, World.ownsRow_nil _ _ _ _⟩, Below.refl _ _, by omega⟩
    (fun x => { tmps := #[.agg #[.slice o1 n1 k1, .slice o2 n2 k2, .slice o3 n3 k3], .int .i64 t, .int .i64 phys, .pointer (some ⟨w.heap.size, 0, none⟩), undef, undef, .slice none 0 0, .pointer (some ⟨w.heap.size + 1, 0, none⟩), .func (.func 106) #[] #[.pointer (some ⟨w.heap.size + 2, 0, none⟩), .pointer (some ⟨w.heap.size + 3, 0, none⟩), .pointer (some ⟨w.heap.size + 4, 0, none⟩)], .string x, .agg #[.slice o1 n1 k1, .slice o2 n2 k2, .slice o3 n3 k3], .int .i64 t, .int .i64 phys, .func (.func 106) #[] #[.pointer (some ⟨w.heap.size + 2, 0, none⟩), .pointer (some ⟨w.heap.size + 3, 0, none⟩), .pointer (some ⟨w.heap.size + 4, 0, none⟩)], .func (.func 106) #[] #[.pointer (some ⟨w.heap.size + 2, 0, none⟩), .pointer (some ⟨w.heap.size + 3, 0, none⟩), .pointer (some ⟨w.heap.size + 4, 0, none⟩)], .bool false, .func (.func 106) #[] #[.pointer (some ⟨w.heap.size + 2, 0, none⟩), .pointer (some ⟨w.heap.size + 3, 0, none⟩), .pointer (some ⟨w.heap.size + 4, 0, none⟩)], .string x, undef, undef, undef, undef, undef], defers := [] })
    ?assign ?body ?done
  case assign =>
    intro l x W K hK
    gi_wp2
    exact hK
  case body =>
    rintro l pre x W ⟨⟨vo, c1, c2⟩, hB, hsz⟩ hlt
    have hs := hB.size
    have g1 := c1.cell
    have hHN := HHLN.out
    have hkl : pre.length < 200000 := by omega
    obtain ⟨k, hk⟩ : ∃ k : Nat, k = pre.length := ⟨_, rfl⟩
    rw [← hk] at c2 hkl
    have hs2 : W0.heap.size ≤ W.heap.size := c1.lt |> fun _ => by
      have := hB.size
      first | omega | exact this
    have HK2 := Lib.hid hk
    have R1 := Lib.hid c2
    have C1 := Lib.hid c1
    have HB := Lib.hid hB
    clear hk c2 c1 hB
    gi_wp2_with (gi_at_builtin; refine wpListIn_append_own_at _ rfl (.tmp 18) (.tmp 20) 37 rfl W0.heap.size 9 i0 (.string ByteArray.empty) 1 16 Tryz.underlying37 HI.out HZ0.out HZ1.out HZ2.out rfl (by decide) vo _ _ rfl (R1.out.alloc _) ⟨_, 0, none⟩ 1 1 [.string x] rfl rfl (new_cells _ [.string x] _) (str_one x) (by unfold maxLen; omega) (by omega) (by simp; omega) ?_; intro v' w1 hown1 hgrow1 hnil1 hat1; obtain ⟨ao1, cap1, rfl⟩ := row_form hown1; have A0 := appended (n₀ := w.heap.size) C1.out (by decide) R1.out (by omega) (by omega) (by omega) hown1 hgrow1; have KV1 := Lib.hid (kv_append (base := 0) C1.out A0.2.1 hgrow1 hat1); have A := Lib.hid A0.2; have k1 := A0.1.cell; have k2 := A0.1.frozen; clear A0 hown1 hgrow1 hat1 hnil1)
    refine ⟨A.out.2.2.1.from _, KV1.out, ⟨⟨_, A.out.1, ?_⟩, HB.out.trans A.out.2.2.2.1, Nat.le_trans hsz (by have h := A.out.2.2.2.1.size; simpa using h)⟩⟩
    rw [List.length_append, List.map_append, List.length_singleton, ← HK2.out, ← hs0]
    exact A.out.2.1
  case done =>
    rintro D ys W hD rfl ⟨⟨vo, c1, c2⟩, hB, hsz⟩ hK
    have g1 := c1.cell
    have HE := Lib.hid (show Q = toldG none L from HQ.out)
    have R := Lib.hid c2
    have HB := Lib.hid hB
    clear c2 c1 hB
    gi_wp2
    refine ⟨by simp, .inl ⟨_, _, rfl, run_takeDeferred hK, ?_⟩⟩
    refine ⟨_, results_tmp rfl _ _ _, vo, rfl, ?_, hb0.trans (HB.out.trans (belowK_b (w := w) (Nat.le_refl _) W D _ _ (by omega) hK rfl rfl))⟩
    rw [HE.out]
    have hr := ownsRow_putObj R.out (.deferred none) hK rfl
    exact Lst.of_owns (fun _ => rfl) (by decide) (by rw [flat_enS]; exact hr)
end Go.Proofs.YtmfhmcegmeinnaaGreatDoor.Mut
