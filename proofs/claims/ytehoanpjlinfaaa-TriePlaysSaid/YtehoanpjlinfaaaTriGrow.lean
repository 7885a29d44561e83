/- The trie's walks: grow. -/
import Derived.Test.YtehoanpjlinfaaaTriGrown
namespace Go.Proofs.Ytehoanpjlinfaaa.Tri
open Go.RowKit

theorem grow_in (b : Nat) (x : Node) (r : Int) (c : Nat) (β : Nat) (w : World) (h : NodeAt w β b x) (hs : x.runes.length ≤ 100000) (hc : x.to r = some c) :
    Calls Try.prog 90 #[enP b, enR r] w fun e w' => e = .returned (enP c) ∧ w = w' := by
  have hn := next_in b x r c β w h hs hc
  clear h hs hc
  go_enter Try.func90, Try.ntmps90
  go_wp2_with (go_at_call 51; refine hn.mono ?_; rintro e w' ⟨rfl, rfl⟩)
  go_ret
  exact ⟨rfl, rfl⟩

set_option maxHeartbeats 4000000 in
set_option maxRecDepth 100000 in
theorem grow_out (b : Nat) (x : Node) (r : Int) (β N : Nat) (σ : Store) (w : World) (H : Heap w β σ) (hx : σ b = some x) (hβ : β ≤ w.heap.size) (hS : Slim σ N) (hN : N ≤ 99999) (hc : r ∉ x.runes) :
    Calls Try.prog 90 #[enP b, enR r] w (GrowPost σ b r β N w) := by
  have h := H.at_ b x hx
  have hs : x.runes.length ≤ 99999 := Nat.le_trans (hS b x hx) hN
  have hn := next_out b x r β w h (by omega) hc
  obtain ⟨ao, cap, hrv⟩ := row_form h.rr
  obtain ⟨bo, bcap, hbv⟩ := row_form h.br
  have hc0 := h.c0
  have hc1 := h.c1
  obtain ⟨_, hra⟩ := row_at h.rr hrv
  have hsr := search_out ao cap x.runes r w (by omega) h.ok.rise (fun i y hy => hra i (enR y) (by rw [List.getElem?_map, hy]; rfl)) hc
  have hfr := h.free
  have hblt := h.lt
  rw [hrv] at hc0
  rw [hbv] at hc1
  have hrr := h.rr
  have hbr := h.br
  have hok := h.ok
  rw [hrv] at hrr
  rw [hbv] at hbr
  have hbl : x.below.length = x.runes.length := hok.same
  have RN := Lib.hid hn
  have RR := Lib.hid hrr
  have RB := Lib.hid hbr
  have BL := Lib.hid hbl
  have HH := Lib.hid H
  have HX := Lib.hid hx
  have HRV := Lib.hid hrv
  have HBV := Lib.hid hbv
  have NA := Lib.hid h
  have HC := Lib.hid hc
  have f0 := hfr 0
  have f1 := hfr 1
  obtain ⟨n, hnl⟩ : ∃ n, n = x.runes.length := ⟨_, rfl⟩
  rw [← hnl] at hs hsr RR hc0
  rw [BL.out, ← hnl] at RB hc1
  have NL := Lib.hid hnl
  clear hn hrr hbr hbl H hx hrv hbv h hc hra hfr hnl
  go_enter Try.func90, Try.ntmps90
  go_wp2_with fail
  refine RN.out.mono ?_
  rintro e w1 ⟨rfl, rfl⟩
  go_wp2_with fail
  refine hsr.mono ?_
  rintro e w1 ⟨i, rfl, hi1, hi2, hi3, rfl⟩
  have I2 := Lib.hid hi2
  have I3 := Lib.hid hi3
  clear hi2 hi3 hsr
  go_wp2_with fail
  have hnb : ∀ o : Obj, (w.alloc o).heap[w.heap.size]? = some o := fun o => by show (w.heap.push o)[w.heap.size]? = _; simp
  refine (SlRune.insert_any β (.slice ao n cap) n i w.heap.size (x.runes.map enR) [enR r] _ (RR.out.alloc _) (by simp; omega) (by have := NL.out; omega) (by omega) rfl (hnb _) ?i1 ?i2 (Value.ownBlock (.slice ao n cap)) rfl ?i3).mono ?_
  case i1 => intro u hu; obtain ⟨y, _, rfl⟩ := List.mem_map.1 hu; rfl
  case i2 => intro u hu; simp at hu; subst hu; rfl
  case i3 => intro e; have := (World.ownsRow.lt RR.out _ e).2; omega
  rintro e w2 ⟨g, c1, rfl, ho, hg, hat⟩
  obtain ⟨ob, hob⟩ : ∃ ob, ob = Value.ownBlock (.slice ao n cap) := ⟨_, rfl⟩
  obtain ⟨pb, hpb⟩ : ∃ pb, pb = Value.ownBlock (.slice bo n bcap) := ⟨_, rfl⟩
  rw [← hob] at hg hat
  have hbo : ob ≠ some b := by rw [hob]; have := (NA.out.row_ne NA.out).1; rwa [HRV.out, ← NL.out] at this
  have hbp : pb ≠ some b := by rw [hpb]; have := (NA.out.row_ne NA.out).2; rwa [HBV.out, BL.out, ← NL.out] at this
  have hw2b : w2.heap[b]? = w.heap[b]? := (hg.block b (by simp; omega) (fun e => hbo e.symm)).trans (Below.heap_alloc w _ b hblt)
  have hsz2 : w.heap.size < w2.heap.size := by have := hg.size; simp at this; omega
  have f0' : w2.frozen? ⟨b, 0, none⟩ = false := (World.frozen?_of_block (w := w) (a := ⟨b, 0, none⟩) hw2b).trans f0
  have f1' : w2.frozen? ⟨b, 1, none⟩ = false := (World.frozen?_of_block (w := w) (a := ⟨b, 1, none⟩) hw2b).trans f1
  have c0' : w2.cell? ⟨b, 0, none⟩ = some (.slice ao n cap) := (World.cell?_of_block (w := w) (a := ⟨b, 0, none⟩) hw2b).trans hc0
  have c1' : w2.cell? ⟨b, 1, none⟩ = some (.slice bo n bcap) := (World.cell?_of_block (w := w) (a := ⟨b, 1, none⟩) hw2b).trans hc1
  have hb2 : b < w2.heap.size := by omega
  have HO := Lib.hid ho
  have HG := Lib.hid hg
  have HAT := Lib.hid hat
  have HOB := Lib.hid hob
  have HPB := Lib.hid hpb
  have HW2B := Lib.hid hw2b
  have HBO := Lib.hid hbo
  have HBP := Lib.hid hbp
  have HS2 := Lib.hid hsz2
  clear ho hg hat hob hpb hw2b hbo hbp hnb hc0 hc1 f0 f1
  go_wp2_with fail
  have hnb : ∀ (o o' : Obj) (v : Value), (((w2.setCell ⟨b, 0, none⟩ v).alloc o).alloc o').heap[w2.heap.size + 1]? = some o' := fun o o' v => by
    show (((w2.setCell _ _).heap.push o).push o')[w2.heap.size + 1]? = _
    rw [show w2.heap.size + 1 = ((w2.setCell ⟨b, 0, none⟩ v).heap.push o).size by simp, Array.getElem?_push_size]
  have hpo : ∀ k, pb = some k → w2.heap[k]? = w.heap[k]? ∧ k < w.heap.size ∧ k ≠ b := fun k hk => by
    have hk' : Value.ownBlock (.slice bo n bcap) = some k := by rw [← HPB.out]; exact hk
    have hlt := (World.ownsRow.lt RB.out k hk').2
    refine ⟨(HG.out.block k (by simp; omega) fun e => ?_).trans (Below.heap_alloc w _ k hlt), hlt, fun e => HBP.out (by rw [← e]; exact hk)⟩
    obtain ⟨C3, h3⟩ := own_type RB.out hk'
    obtain ⟨C4, h4⟩ := own_type RR.out (by rw [← HOB.out]; exact e.symm)
    rw [h3] at h4; simp at h4
  refine (SlPtr.insert_any β (.slice bo n bcap) n i (w2.heap.size + 1) (x.below.map enP) [enP w2.heap.size] _ (own_same RB.out fun k hk => ?j0) (by simp; omega) (by have := NL.out; omega) (by omega) rfl (hnb _ _ _) ?j1 ?j2 pb HPB.out.symm ?j3).mono ?_
  case j0 =>
    obtain ⟨q1, q2, q3⟩ := hpo k (by rw [HPB.out]; exact hk)
    rw [Below.heap_alloc _ _ k (by simp; omega), Below.heap_alloc _ _ k (by simp; omega), Below.heap_setCell _ _ _ k q3, q1]
  case j1 => intro u hu; obtain ⟨y, _, rfl⟩ := List.mem_map.1 hu; rfl
  case j2 => intro u hu; simp at hu; subst hu; rfl
  case j3 => intro e; have := (hpo _ e).2.1; omega
  rintro e w6 ⟨g2, c2, rfl, ho2, hg2, hat2⟩
  have e1 : x.rv.ownBlock = ob := by rw [HRV.out, HOB.out, NL.out]
  have e2 : x.bv.ownBlock = pb := by rw [HBV.out, HPB.out, BL.out, NL.out]
  obtain ⟨k1, ⟨u1, k2⟩, k3, k4, k5⟩ := grown_heap (c := w2.heap.size) HH.out HX.out hβ HC.out hS hi1 I2.out I3.out (by rw [e1]; exact HG.out) (by rw [← NL.out]; exact HO.out) (by rw [e1]; exact HAT.out) rfl (by rw [e2, ← NL.out]; exact hg2) (by rw [← NL.out]; exact ho2) (by rw [e2]; exact hat2.imp id fun e => by simp at e; omega)
  have K5 := Lib.hid k5
  have i1 : (i : Int) < (n : Int) + 1 := by have := NL.out; omega
  have k3' := k3 (.slice (some ⟨g2, 0, none⟩) (n + 1) c2)
  clear ho2 hg2 hat2 e1 e2 k5 k3 hnb hpo
  go_wp2_with fail
  go_ret
  have := K5.out
  rw [← NL.out] at this
  exact this

/-- The node behind a rune: there, or made. -/
theorem grow_any (b : Nat) (r : Int) (β N : Nat) (σ : Store) (w : World) (H : Heap w β σ) (hx : σ b ≠ none) (hβ : β ≤ w.heap.size) (hS : Slim σ N) (hN : N ≤ 99999) :
    Calls Try.prog 90 #[enP b, enR r] w (GrowPost σ b r β N w) := by
  cases hq : σ b with
  | none => exact absurd hq hx
  | some x =>
    by_cases hc : r ∈ x.runes
    · have hn := H.at_ b x hq
      cases hto : x.to r with
      | none => exact absurd hc ((hn.ok.to_none r).1 hto)
      | some c =>
        refine (grow_in b x r c β w hn (by have := hS b x hq; omega) hto).mono ?_
        rintro e w' ⟨rfl, rfl⟩
        obtain ⟨i, hi, hci⟩ := (hn.ok.to_iff r c).1 hto
        exact ⟨σ, c, rfl, Or.inl ⟨x, hq, hto, rfl⟩, H.dom b x hq c (List.mem_of_getElem? hci), H, Moves.refl _ _, fun k y hk => by have := hS k y hk; omega, Tail.refl _ _⟩
    · exact grow_out b x r β N σ w H hq hβ hS hN hc
end Go.Proofs.Ytehoanpjlinfaaa.Tri
