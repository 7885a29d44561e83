/- The trie's walks: next, grow. -/
import Derived.Test.YtehoanpjlinfaaaTriHeap
namespace Go.Proofs.Ytehoanpjlinfaaa.Tri
open Go.RowKit

theorem row_at {w : World} {β : Nat} {e : TypeId} {v : Value} {l : List Value} {n : Nat} (h : w.ownsRow β e 1 v n l) {ao : Option Addr} {m cap : Nat} (hv : v = .slice ao m cap) : m = n ∧ ∀ i u, l[i]? = some u → ∃ b off, ao = some ⟨b, off, none⟩ ∧ w.cell? ⟨b, off + i, none⟩ = some u := by
  have h0 := h
  rcases h.2 with ⟨rfl, rfl⟩ | ⟨g, c, cur, rfl, h2, h3, h4⟩
  · cases hv
    refine ⟨rfl, fun i u hi => ?_⟩
    have := h.1
    simp at this
    subst this
    simp at hi
  · cases hv
    refine ⟨rfl, fun i u hi => ⟨g, 0, rfl, ?_⟩⟩
    have hlt : i < l.length := (List.getElem?_eq_some_iff.1 hi).1
    rw [Nat.zero_add, h0.cellAt i (by have := h0.1; omega)]
    exact hi

theorem search_in (ao : Option Addr) (cap : Nat) (l : List Int) (r : Int) (w : World) (i : Nat) (hl : l.length ≤ 1000000) (hr : l.Pairwise (· < ·))
    (hc : ∀ i x, l[i]? = some x → ∃ b off, ao = some ⟨b, off, none⟩ ∧ w.cell? ⟨b, off + i, none⟩ = some (.int .i32 x)) (hi : l[i]? = some r) :
    Calls Try.prog 93 #[.slice ao l.length cap, .int .i32 r] w fun e w' => e = .returned (.tuple #[.int .i64 i, .bool true]) ∧ w = w' :=
  (search_any ao cap l r w hl hr hc).mono fun e w' ⟨j, he, h1, h2, h3, h4⟩ => by
    obtain ⟨hlt, e1⟩ := List.getElem?_eq_some_iff.1 hi
    have hj : j = i := by
      rcases Nat.lt_trichotomy j i with h | h | h
      · have := h3 (l[j]'(by omega)) (List.mem_of_getElem? (i := 0) (by rw [List.getElem?_drop, Nat.add_zero]; exact List.getElem?_eq_getElem _))
        have := List.pairwise_iff_getElem.1 hr j i (by omega) hlt h
        omega
      · exact h
      · have := h2 r (List.mem_of_getElem? (i := i) (by rw [List.getElem?_take_of_lt h]; exact hi))
        omega
    subst hj
    rw [he, hi]
    exact ⟨by simp, h4⟩

/-- .. of a rune that isn't there. -/
def OutPost (l : List Int) (r : Int) (w : World) (e : Ending) (w' : World) : Prop :=
  ∃ i : Nat, e = .returned (.tuple #[.int .i64 i, .bool false]) ∧ i ≤ l.length ∧ (∀ x ∈ l.take i, x < r) ∧ (∀ x ∈ l.drop i, r < x) ∧ w = w'
theorem search_out (ao : Option Addr) (cap : Nat) (l : List Int) (r : Int) (w : World) (hl : l.length ≤ 1000000) (hr : l.Pairwise (· < ·))
    (hc : ∀ i x, l[i]? = some x → ∃ b off, ao = some ⟨b, off, none⟩ ∧ w.cell? ⟨b, off + i, none⟩ = some (.int .i32 x)) (hn : r ∉ l) :
    Calls Try.prog 93 #[.slice ao l.length cap, .int .i32 r] w (OutPost l r w) :=
  (search_any ao cap l r w hl hr hc).mono fun e w' ⟨j, he, h1, h2, h3, h4⟩ => by
    refine ⟨j, ?_, h1, h2, fun x hx => ?_, h4⟩
    · rw [he, decide_eq_false fun h => hn (List.mem_of_getElem? h)]
    · have := h3 x hx
      have : x ≠ r := fun e => hn (by rw [← e]; exact List.mem_of_mem_drop hx)
      omega

/-- A node is small. -/
def Small (σ : Store) : Prop := ∀ b x, σ b = some x → x.runes.length ≤ 100000

set_option maxHeartbeats 1000000 in
set_option maxRecDepth 100000 in
theorem next_in (b : Nat) (x : Node) (r : Int) (c : Nat) (β : Nat) (w : World) (h : NodeAt w β b x) (hs : x.runes.length ≤ 100000) (hc : x.to r = some c) :
    Calls Try.prog 51 #[enP b, enR r] w fun e w' => e = .returned (enP c) ∧ w = w' := by
  obtain ⟨i, hi, hci⟩ := (h.ok.to_iff r c).1 hc
  obtain ⟨ao, cap, hrv⟩ := row_form h.rr
  obtain ⟨bo, bcap, hbv⟩ := row_form h.br
  obtain ⟨_, hra⟩ := row_at h.rr hrv
  obtain ⟨_, hba⟩ := row_at h.br hbv
  obtain ⟨bb, boff, rfl, hcell⟩ := hba i (enP c) (by rw [List.getElem?_map, hci]; rfl)
  have hc0 := h.c0
  have hc1 := h.c1
  rw [hrv] at hc0
  rw [hbv] at hc1
  have hil : i < x.below.length := (List.getElem?_eq_some_iff.1 hci).1
  have hsr := search_in ao cap x.runes r w i (by omega) h.ok.rise (fun i y hy => hra i (enR y) (by rw [List.getElem?_map, hy]; rfl)) hi
  generalize x.runes.length = n at *
  generalize x.below.length = m at *
  clear hra hba hrv hbv h hi hci hs hc
  go_enter Try.func51, Try.ntmps51
  go_wp2_with (go_at_call 93; refine hsr.mono ?_; rintro e w' ⟨rfl, rfl⟩)
  go_ret
  exact ⟨rfl, rfl⟩

set_option maxHeartbeats 1000000 in
set_option maxRecDepth 100000 in
theorem next_out (b : Nat) (x : Node) (r : Int) (β : Nat) (w : World) (h : NodeAt w β b x) (hs : x.runes.length ≤ 100000) (hc : r ∉ x.runes) :
    Calls Try.prog 51 #[enP b, enR r] w fun e w' => e = .returned (.pointer none) ∧ w = w' := by
  obtain ⟨ao, cap, hrv⟩ := row_form h.rr
  obtain ⟨_, hra⟩ := row_at h.rr hrv
  have hc0 := h.c0
  rw [hrv] at hc0
  have hsr := search_out ao cap x.runes r w (by omega) h.ok.rise (fun i y hy => hra i (enR y) (by rw [List.getElem?_map, hy]; rfl)) hc
  generalize x.runes.length = n at *
  clear hra hrv h hs hc
  go_enter Try.func51, Try.ntmps51
  go_wp2_with (go_at_call 93; refine hsr.mono ?_; rintro e w' ⟨i, rfl, _, _, _, rfl⟩)
  go_ret
  exact ⟨rfl, rfl⟩
end Go.Proofs.Ytehoanpjlinfaaa.Tri
