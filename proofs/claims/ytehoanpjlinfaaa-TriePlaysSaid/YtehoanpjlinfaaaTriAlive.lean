/- The chapter's example of a trie. -/
import Derived.Test.YtehoanpjlinfaaaTriLong
namespace Go.Proofs.Ytehoanpjlinfaaa.Tri
open Go.RowKit

def one (t : Nat) : Store := fun k => if k = t then some bareNode else none
abbrev newTrie : Array Value := #[.slice none 0 0, .slice none 0 0, .int .i64 0, .bool false, .int .i64 0]

/-- A new trie. -/
theorem says_new (w : World) (β d N : Nat) (hβ : β ≤ w.heap.size) : Says (w.alloc (.cells newTrie 29)) β w.heap.size d N (one w.heap.size) emp 0 := by
  have hb : (w.alloc (.cells newTrie 29)).heap[w.heap.size]? = some (.cells newTrie 29 (0, 0)) := by show (w.heap.push _)[w.heap.size]? = _; simp
  have h1 : one w.heap.size w.heap.size = some bareNode := if_pos rfl
  have h2 : ∀ b x, one w.heap.size b = some x → b = w.heap.size ∧ x = bareNode := fun b x h => by
    unfold one at h
    split at h
    · rename_i e; exact ⟨e, by cases h; rfl⟩
    · cases h
  have hn : NodeAt (w.alloc (.cells newTrie 29)) β w.heap.size bareNode :=
    ⟨hβ, ⟨_, _, hb, by decide, by decide⟩, (cells_block hb 0), (cells_block hb 1), (cells_block hb 2), (cells_block hb 3), World.ownsRow_nil _ _ _ _, World.ownsRow_nil _ _ _ _, bare_bare.ok⟩
  refine ⟨⟨⟨fun b x h => ?_, fun b x c y hx hy hne => ?_, fun b x c y hx hy hne => ?_, fun b x h c hc => ?_⟩, by rw [h1]; simp, cells_block hb 4⟩, Rep.bare h1 bare_bare d, by rw [foot_bare h1 bare_bare]; simp, fun b x h => ?_⟩
  · obtain ⟨rfl, rfl⟩ := h2 b x h; exact hn
  · exact absurd ((h2 b x hx).1.trans (h2 c y hy).1.symm) hne
  · exact absurd ((h2 b x hx).1.trans (h2 c y hy).1.symm) hne
  · obtain ⟨rfl, rfl⟩ := h2 b x h; cases hc
  · obtain ⟨rfl, rfl⟩ := h2 b x h; simp

def PutSays (σ : Store) (t : Nat) (l : Tx) (n : Int) (D : Dict) (d β N : Nat) (many : Int) (w : World) (e : Ending) (w' : World) : Prop :=
  ∃ τ, e = .returned (.bool (D l).isSome) ∧ Says w' β t d (N + l.length) τ (ins D l n) (if (D l).isSome then many else many + 1) ∧ Moves σ w τ w'
theorem put_says (t : Nat) (s : ByteArray) (n : Int) (D : Dict) (d β N : Nat) (many : Int) (σ : Store) (w : World) (H : Says w β t d N σ D many) (hβ : β ≤ w.heap.size) (hN : N + s.size ≤ 99999) (hd : s.size ≤ d) (hm : 0 ≤ many ∧ many ≤ 1000000) :
    Calls Try.prog 46 #[enP t, .string s, .int .i64 n] w (PutSays σ t (runesOf s) n D d β N many w) :=
  (put_any t s n β N many σ w H.at_ hβ H.slim hN hm).mono fun e w' ⟨τ, q, he, h1, h2, h3, h4⟩ => by
    obtain ⟨k1, k2, _, _, k5⟩ := H.rep.put H.nodup (by have := runesOf_len s; omega) h1
    subst k5
    exact ⟨τ, he, ⟨h2, k1, k2, h4⟩, h3⟩

theorem Says.below {w w' : World} {β t d N : Nat} {σ : Store} {D : Dict} {many : Int} (H : Says w β t d N σ D many) (hb : Below w.heap.size w w') : Says w' β t d N σ D many := ⟨H.at_.below hb, H.rep, H.nodup, H.slim⟩

def exD : Dict := ins (ins emp [97, 98] 1) [97, 98, 99] 2
theorem exD_iff (k : Tx) : exD k ≠ none ↔ k ∈ ([[97, 98], [97, 98, 99]] : List Tx) := by
  unfold exD ins emp
  by_cases h1 : k = [97, 98, 99]
  · simp [h1]
  · by_cases h2 : k = [97, 98] <;> simp [h1, h2]

set_option maxHeartbeats 4000000 in
set_option maxRecDepth 100000 in
theorem alive_any (w : World) : Calls Try.prog 17 #[] w fun e w' => e = .returned (.bool true) ∧ Below w.heap.size w w' := by
  have r1 : runesOf ⟨#[97, 98]⟩ = [97, 98] := by kernel_rfl
  have r2 : runesOf ⟨#[97, 98, 99]⟩ = [97, 98, 99] := by kernel_rfl
  have r3 : runesOf ⟨#[97, 98, 100]⟩ = [97, 98, 100] := by kernel_rfl
  have hs := says_new w w.heap.size 60 0 (Nat.le_refl _)
  have p1 := fun w1 (H : Says w1 w.heap.size w.heap.size 60 0 (one w.heap.size) emp 0) (hb : w.heap.size ≤ w1.heap.size) => put_says w.heap.size ⟨#[97, 98]⟩ 1 emp 60 w.heap.size 0 0 _ w1 H hb (by decide) (by decide) (by omega)
  have p2 := fun σ w1 (H : Says w1 w.heap.size w.heap.size 60 2 σ (ins emp [97, 98] 1) 1) (hb : w.heap.size ≤ w1.heap.size) => put_says w.heap.size ⟨#[97, 98, 99]⟩ 2 _ 60 w.heap.size 2 1 σ w1 H hb (by decide) (by decide) (by omega)
  have p3 := fun σ w1 (H : Says w1 w.heap.size w.heap.size 60 5 σ exD 2) => longest_any w.heap.size ⟨#[97, 98, 100]⟩ exD 60 w.heap.size 5 2 σ w1 H (by omega) (by decide)
  rw [r1] at p1
  rw [r2] at p2
  rw [r3] at p3
  have hl : long exD [97, 98, 100] = some ([97, 98], 1) := by kernel_rfl
  rw [hl] at p3
  have he : encs [97, 98] = ⟨#[97, 98]⟩ := by kernel_rfl
  have hnf : nodesF [[97, 98], [97, 98, 99]] = 4 := by decide
  have HS := Lib.hid hs
  have P1 := Lib.hid p1
  have P2 := Lib.hid p2
  have P3 := Lib.hid p3
  have HE := Lib.hid he
  have HNF := Lib.hid hnf
  have HB0 := Lib.hid ((Below.refl w.heap.size w).alloc (Nat.le_refl _) (.cells newTrie 29))
  clear r1 r2 r3 hs p1 p2 p3 hl he hnf
  go_enter Try.func17, Try.ntmps17
  go_wp2_with fail
  refine (P1.out _ HS.out (by simp)).mono ?_
  rintro e w1 ⟨σ1, rfl, h1, m1⟩
  have H1 : Hid (Says w1 w.heap.size w.heap.size 60 2 σ1 (ins emp [97, 98] 1) 1) := h1
  have hz1 : w.heap.size ≤ w1.heap.size := by have := m1.size; simp at this; omega
  have HB1 : Hid (Below w.heap.size w w1) := HB0.out.trans (m1.to_below (fun i hi => ((HS.out.at_.heap.uses_lt hi).1)) (by simp))
  clear h1 m1
  go_wp2_with fail
  refine (P2.out _ _ H1.out hz1).mono ?_
  rintro e w2 ⟨σ2, rfl, h2, m2⟩
  have H2 : Hid (Says w2 w.heap.size w.heap.size 60 5 σ2 exD 2) := h2
  have hz2 : w.heap.size ≤ w2.heap.size := by have := m2.size; omega
  have HB2 : Hid (Below w.heap.size w w2) := HB1.out.trans (m2.to_below (fun i hi => ((H1.out.at_.heap.uses_lt hi).1)) hz1)
  clear h2 m2
  go_wp2_with fail
  refine (P3.out _ _ H2.out).mono ?_
  rintro e w3 ⟨he3, hb3⟩
  obtain rfl : e = .returned (.tuple #[.string ⟨#[97, 98]⟩, .int .i64 1, .bool true]) := by rw [he3, ← HE.out]
  clear he3
  have H3 := Lib.hid (H2.out.below hb3)
  have HB3 := Lib.hid (below_then HB2.out (Nat.le_refl _) hb3)
  clear hb3
  go_wp2_with fail
  refine (nodes_any w.heap.size 60 w.heap.size 5 σ2 exD 2 w3 H3.out [[97, 98], [97, 98, 99]] exD_iff (by rw [HNF.out]; decide)).mono ?_
  rw [HNF.out]
  rintro e w4 ⟨rfl, rfl⟩
  go_wp2_with fail
  refine (len_any w.heap.size w.heap.size 2 σ2 w3 H3.out.at_).mono ?_
  rintro e w5 ⟨rfl, rfl⟩
  go_wp2_with fail
  go_ret
  exact ⟨rfl, HB3.out⟩
end Go.Proofs.Ytehoanpjlinfaaa.Tri
