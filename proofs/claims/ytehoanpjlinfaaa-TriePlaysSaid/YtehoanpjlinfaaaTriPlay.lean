/- The walk of TriePlays. -/
import Derived.Test.YtehoanpjlinfaaaTriBest
namespace Go.Proofs.Ytehoanpjlinfaaa.Tri
open Go.RowKit Go.Proofs.Ytehoanpjlinfaaa.Kit

structure OpX where
  kind : Int
  n : Int
  s : ByteArray
instance : Inhabited OpX := ⟨⟨0, 0, .empty⟩⟩
abbrev enO (o : OpX) : List Value := [.int .i64 o.kind, .int .i64 o.n, .string o.s]
abbrev ORow (w : World) (v : Value) (l : List OpX) : Prop := Lst 3 enO w v l
theorem op_at {w : World} {ao : Option Addr} {n cap : Nat} {l : List OpX} {k : Nat} {x : OpX} (h : ORow w (.slice ao n cap) l) (hk : l[k]? = some x) :
    ∃ b off, ao = some ⟨b, off, none⟩ ∧ b < w.heap.size ∧ w.cell? ⟨b, off + k * 3, none⟩ = some (.int .i64 x.kind) ∧ w.cell? ⟨b, off + k * 3 + 1, none⟩ = some (.int .i64 x.n) ∧ w.cell? ⟨b, off + k * 3 + 2, none⟩ = some (.string x.s) := by
  obtain ⟨hlt, he⟩ := List.getElem?_eq_some_iff.1 hk
  obtain ⟨b, off, ha, hb, hc⟩ := Lst.get h hlt
  rw [he] at hc
  exact ⟨b, off, ha, hb, hc 0 (by decide), hc 1 (by decide), hc 2 (by decide)⟩

theorem firsts_len : ∀ (r l : List Tx), (∀ s ∈ r, s.length ≤ 50) → (firsts l r).length ≤ 50 * r.length
  | [], l, _ => by simp [firsts]
  | s :: r, l, h => by
    have h1 := firsts_len r (l ++ [s]) fun t ht => h t (List.mem_cons_of_mem _ ht)
    have h2 : (news l s).length ≤ s.length := by rw [news_len]; exact cntF_le l s _ _
    have h3 := h s (by simp)
    simp only [firsts, List.length_append, List.length_cons]
    omega
theorem nodesF_le (l : List Tx) (h : ∀ s ∈ l, s.length ≤ 50) : nodesF l ≤ 1 + 50 * l.length := by
  have := firsts_len l [] h
  unfold nodesF
  omega
theorem Alike.below {w w' : World} {β t d N : Nat} {σ : Store} {D : Dict} {v : Value} {l : List RI} (h : Alike w β t d N σ D v l) (hb : Below w.heap.size w w') : Alike w' β t d N σ D v l :=
  ⟨h.says.below hb, h.row, h.items.stay (Stay.below hb), h.short⟩
theorem Alike.len {w : World} {β t d N : Nat} {σ : Store} {D : Dict} {v : Value} {l : List RI} (h : Alike w β t d N σ D v l) : ∃ ao cap, v = .slice ao l.length cap := by
  obtain ⟨ao, cap, e, _⟩ := h.items.row.row
  exact ⟨ao, cap, e⟩
theorem Alike.keys {w : World} {β t d N : Nat} {σ : Store} {D : Dict} {v : Value} {l : List RI} (h : Alike w β t d N σ D v l) (k : Tx) : D k ≠ none ↔ k ∈ l.map (·.s) := by
  constructor
  · intro hk
    cases hq : D k with
    | none => exact (hk hq).elim
    | some n =>
      have := (h.row.iff k n).1 hq
      unfold its at this
      obtain ⟨x, hx, e⟩ := List.mem_map.1 this
      cases e
      exact List.mem_map.2 ⟨x, hx, rfl⟩
  · intro hk
    obtain ⟨x, hx, rfl⟩ := List.mem_map.1 hk
    have : (x.s, x.n) ∈ its l := List.mem_map.2 ⟨x, hx, rfl⟩
    rw [(h.row.iff x.s x.n).2 this]
    simp

def BestV (o : Option (Tx × Int)) (bv mv sv : Value) : Prop := match o with
  | none => bv = .string ByteArray.empty ∧ mv = .int .i64 0 ∧ sv = .bool false
  | some p => bv = .string (encs p.1) ∧ mv = .int .i64 p.2 ∧ sv = .bool true
theorem grown_belowA {β : Nat} {w1 w2 : World} {o : Obj} {v : Value} (h : (w1.alloc o).grownBy w2 v.ownBlock) (hv : ∀ g, v.ownBlock = some g → β ≤ g) (hβ : β ≤ w1.heap.size) : Below β w1 w2 :=
  ⟨h.os, h.tape, h.output, by have := h.size; simp at this; omega, fun i hi => (h.block i (by simp; omega) (fun e => by have := hv i e.symm; omega)).trans (by show (w1.heap.push o)[i]? = _; rw [Array.getElem?_push_lt (show i < w1.heap.size by omega)]; exact (Array.getElem?_eq_getElem (by omega)).symm)⟩
theorem own_below {w w' : World} {β : Nat} {e : TypeId} {k : Nat} {v : Value} {n : Nat} {xs : List Value} (h : w.ownsRow β e k v n xs) (hb : Below w.heap.size w w') : w'.ownsRow β e k v n xs := own_same h fun g hg => hb.block g (h.lt g hg).2
theorem its_snoc {L : List RI} {j : Nat} {x : RI} (h : L[j]? = some x) : (its L).take (j + 1) = (its L).take j ++ [(x.s, x.n)] := by
  have : (its L)[j]? = some (x.s, x.n) := by rw [its_get, h]; rfl
  rw [List.take_add_one, this]; rfl

set_option maxHeartbeats 8000000 in
set_option maxRecDepth 100000 in
theorem triePlays_any (ao : Option Addr) (cap : Nat) (l : List OpX) (s : ByteArray) (w : World) (hl : ORow w (.slice ao l.length cap) l) (hk : ∀ x ∈ l, x.kind ≤ 9223372036854775807) :
    Calls Try.prog 3 #[.slice ao l.length cap, .string s] w fun e w' => e = .returned (.bool true) ∧ Below w.heap.size w w' := by
  have HL := Lib.hid hl
  obtain ⟨n, hn⟩ : ∃ n, n = l.length := ⟨_, rfl⟩
  rw [← hn] at HL ⊢
  have HN := Lib.hid hn
  have HK := Lib.hid hk
  clear hl hn hk
  by_cases hg : 60 < n
  · have hg1 : decide ((60 : Int) < (n : Int)) = true := decide_eq_true (by omega)
    go_enter Try.func3, Try.ntmps3
    go_wp2_with fail
    go_ret
    exact ⟨rfl, Below.refl _ _⟩
  by_cases hgs : 50 < s.size
  · have hg1 : decide ((60 : Int) < (n : Int)) = false := decide_eq_false (by omega)
    have hg2 : decide ((50 : Int) < (s.size : Int)) = true := decide_eq_true (by omega)
    go_enter Try.func3, Try.ntmps3
    go_wp2_with fail
    go_ret
    exact ⟨rfl, Below.refl _ _⟩
  have hg1 : decide ((60 : Int) < (n : Int)) = false := decide_eq_false (by omega)
  have hg2 : decide ((50 : Int) < (s.size : Int)) = false := decide_eq_false (by omega)
  have HA0 : Hid (Alike (w.alloc (.cells newTrie 29)) w.heap.size w.heap.size 60 0 (one w.heap.size) emp (.slice none 0 0) []) :=
    ⟨says_new w w.heap.size 60 0 (Nat.le_refl _), ⟨List.Pairwise.nil, fun k n => by simp [emp, its]⟩, ⟨At.nil _ _, by simp, Or.inl rfl⟩, by simp⟩
  go_enter Try.func3, Try.ntmps3
  go_wp2_with fail
  go_loopw [6, 7] (fun lv iv wr => ∃ (i : Nat) (σ : Store) (D : Dict) (lo : Option Addr) (lc m : Nat) (L : List RI), iv = .int .i64 i ∧ i ≤ n ∧ lv = .slice lo m lc ∧ Hid (m = L.length) ∧ m ≤ i ∧
    Hid (Alike wr w.heap.size w.heap.size 60 (50 * i) σ D (.slice lo m lc) L) ∧ Hid (Below w.heap.size w wr) ∧ w.heap.size < wr.heap.size) (fun _ iv _ => n - (intOf iv).toNat)
  case atStart => exact ⟨0, _, emp, none, 0, 0, [], rfl, by omega, rfl, Lib.hid rfl, by omega, HA0, Lib.hid ((Below.refl _ _).alloc (Nat.le_refl _) _), by simp⟩
  case round =>
    obtain ⟨i, σ, D, lo, lc, m, L, rfl, hin, rfl, hm, hmi, hA, hB, hsz⟩ := hrel
    by_cases hlt : i < n
    · obtain ⟨x, hx⟩ : ∃ x, l[i]? = some x := ⟨_, List.getElem?_eq_getElem (by have := HN.out; omega)⟩
      obtain ⟨b, off, rfl, hbl, e0, e1, e2⟩ := op_at HL.out hx
      have c0 := (hB.out.cell (p := ⟨b, off + i * 3, none⟩) hbl).trans e0
      have c1 := (hB.out.cell (p := ⟨b, off + i * 3 + 1, none⟩) hbl).trans e1
      have c2 := (hB.out.cell (p := ⟨b, off + i * 3 + 2, none⟩) hbl).trans e2
      have hk1 := HK.out x (List.mem_of_getElem? hx)
      obtain ⟨kind, num, txt⟩ := x
      dsimp only at c0 c1 c2 hk1
      clear e0 e1 e2 hx
      by_cases hbig : 50 < txt.size
      · have hg3 : decide ((50 : Int) < (txt.size : Int)) = true := decide_eq_true (by omega)
        go_wp2_with fail
        go_ret
        exact ⟨rfl, hB.out⟩
      have hg3 : decide ((50 : Int) < (txt.size : Int)) = false := decide_eq_false (by omega)
      by_cases hneg : kind < 0
      · have hg4 : decide (kind < 0) = true := decide_eq_true hneg
        go_wp2_with fail
        go_ret
        exact ⟨rfl, hB.out⟩
      have hg4 : decide (kind < 0) = false := decide_eq_false hneg
      have hst := step_any w.heap.size lo lc L kind num txt D 60 w.heap.size (50 * i) σ wr (by rw [← hm.out]; exact hA.out) (by omega) (by omega) (by omega) (by rw [← hm.out]; omega) (by omega) (by omega) hk1
      rw [← hm.out] at hst
      have HST := Lib.hid hst
      clear hst
      go_wp2_with fail
      refine HST.out.mono ?_
      rintro en w2 ⟨τ, D2, v2, L2, rfl, hA2, hl2, hm2⟩
      obtain ⟨lo2, lc2, rfl⟩ := hA2.len
      have hB2 := Lib.hid (hB.out.trans (hm2.to_below (fun j hj => (hA.out.says.at_.heap.uses_lt hj).1) (by omega)))
      have hz2 : w.heap.size < w2.heap.size := by have := hm2.size; omega
      have hm60 : L2.length ≤ i + 1 := by have := hm.out; omega
      have hnb := nodesF_le (L2.map (·.s)) (fun t ht => by obtain ⟨x, hx, rfl⟩ := List.mem_map.1 ht; exact hA2.short x hx)
      rw [List.length_map] at hnb
      have hnd := nodes_any w.heap.size 60 w.heap.size (50 * i + 50) τ D2 L2.length w2 hA2.says (L2.map (·.s)) hA2.keys (by omega)
      have hnr := nodes_row lo2 lc2 L2 _ w2 hA2.items (by omega) (fun x hx => by have := hA2.short x hx; omega)
      have hle := len_any w.heap.size w.heap.size L2.length τ w2 hA2.says.at_
      obtain ⟨m2, hm2e⟩ : ∃ m2, m2 = L2.length := ⟨_, rfl⟩
      rw [← hm2e] at hnr hle hA2 hm60 ⊢
      obtain ⟨nn, hnn⟩ : ∃ nn, nn = nodesF (L2.map (·.s)) := ⟨_, rfl⟩
      rw [← hnn] at hnd hnr
      have HLE := Lib.hid hle
      have HND := Lib.hid hnd
      have HNR := Lib.hid hnr
      have HA2 := Lib.hid hA2
      have HM2 := Lib.hid hm2e
      have q1 : ((m2 : Int) != (m2 : Int)) = false := by simp
      have q2 : ((nn : Int) != (nn : Int)) = false := by simp
      clear hnb hnd hnr hle hA2 hm2 hl2 hm2e hnn c0 c1 c2
      go_wp2_with fail
      refine HLE.out.mono ?_
      rintro en w3 ⟨rfl, rfl⟩
      go_wp2_with fail
      refine HND.out.mono ?_
      rintro en w3 ⟨rfl, rfl⟩
      go_wp2_with fail
      refine HNR.out.mono ?_
      rintro en w3 ⟨rfl, hb3⟩
      have HA3 := Lib.hid (HA2.out.below hb3)
      have HB3 := Lib.hid (below_then hB2.out (Nat.le_refl _) hb3)
      have hz3 : w.heap.size < w3.heap.size := Nat.lt_of_lt_of_le hz2 hb3.size
      clear hb3
      go_wp2_with fail
      go_roundw
      case rel => exact ⟨i + 1, τ, D2, lo2, lc2, m2, L2, by go_num, by omega, rfl, HM2, by omega, by rw [show 50 * (i + 1) = 50 * i + 50 by omega]; exact HA3, HB3, hz3⟩
      case measure => simp [intOf]; omega
    · obtain rfl : n = i := by omega
      rename World => w4
      obtain ⟨G, C, hcv, hG, hC⟩ := runes_row (P := Try.prog) 9 24 21 s Try.underlying9 Try.underlying24 Try.underlying21 (by omega)
      obtain ⟨i0, hi, hz0, hz1, hz2⟩ := info_parts info_I
      obtain ⟨j0, hj, hy0, hy1, hy2⟩ := info_parts info_S
      have HI := Lib.hid hi
      have HZ0 := Lib.hid hz0
      have HZ1 := Lib.hid hz1
      have HZ2 := Lib.hid hz2
      have JI := Lib.hid hj
      have JZ0 := Lib.hid hy0
      have JZ1 := Lib.hid hy1
      have JZ2 := Lib.hid hy2
      clear hi hz0 hz1 hz2 hj hy0 hy1 hy2
      obtain ⟨rl, hrl⟩ : ∃ rl, rl = (runesOf s).length := ⟨_, rfl⟩
      have hrl50 : rl ≤ 50 := by have := runesOf_len s; omega
      simp only [← hrl] at hcv hG
      obtain ⟨W1, hW1⟩ : ∃ W1, W1 = (w4.alloc (.cells (C w4) 21)).drew := ⟨_, rfl⟩
      have hw1 : Below w4.heap.size w4 W1 := by rw [hW1]; exact ((Below.refl _ _).alloc (Nat.le_refl _) _).drew
      have rb0 : W1.heap[w4.heap.size]? = some (.cells (C w4) 21 (0, 0)) := by rw [hW1]; show (w4.heap.push _)[w4.heap.size]? = _; simp
      have hrow : RRow W1 (.slice (some ⟨w4.heap.size, 0, none⟩) rl (G w4)) (runesOf s) := by
        refine ⟨_, _, by rw [hrl], by rw [← hrl]; exact (hG _).1, (hG _).2.1, Or.inr ⟨_, 0, rfl, (Array.getElem?_eq_some_iff.1 rb0).1, fun i x hi j hj => ?_⟩⟩
        obtain rfl : j = 0 := by omega
        rw [cells_block rb0, Nat.zero_add, Nat.mul_one, Nat.add_zero]
        exact hC _ i x hi
      have HA1 := Lib.hid (hA.out.below hw1)
      have hz1' : w.heap.size < W1.heap.size := Nat.lt_of_lt_of_le hsz hw1.size
      have HBW1 := Lib.hid (below_then hB.out (Nat.le_refl _) hw1)
      have RR := Lib.hid (show ∀ W', Below W1.heap.size W1 W' → RRow W' (.slice (some ⟨w4.heap.size, 0, none⟩) rl (G w4)) (runesOf s) from fun W' h => hrow.below h)
      have RL := Lib.hid hrl
      have HWW := Lib.hid hW1
      clear hG hC hw1 rb0 hrow hA hB hW1 hrl
      go_wp2_with fail
      rw [← HWW.out]
      go_loopw [11, 12, 13, 14, 15, 16] (fun tv nv bv mv sv iv w5 => ∃ (j k : Nat) (F : Its) (ta na : Option Addr) (tc nc : Nat), iv = .int .i64 j ∧ j ≤ m ∧ tv = .slice ta k tc ∧ nv = .slice na k nc ∧ k ≤ j ∧ Hid (F = ((its L).take j).filter fun p => begins p.1 (runesOf s)) ∧ Hid (k = F.length) ∧
        Hid (w5.ownsRow W1.heap.size 9 1 (.slice ta k tc) k (txs F)) ∧ Hid (w5.ownsRow W1.heap.size 3 1 (.slice na k nc) k (nms F)) ∧ Hid (Apart (.slice ta k tc) (.slice na k nc)) ∧ Hid (BestV (lastB (runesOf s) ((its L).take j)) bv mv sv) ∧ Hid (Below W1.heap.size W1 w5)) (fun _ _ _ _ _ iv _ => m - (intOf iv).toNat)
      case atStart => exact ⟨0, 0, [], none, none, 0, 0, rfl, by omega, rfl, rfl, by omega, Lib.hid (by simp), Lib.hid rfl, Lib.hid (World.ownsRow_nil _ _ _ _), Lib.hid (World.ownsRow_nil _ _ _ _), Lib.hid (fun g h => by cases h), Lib.hid ⟨rfl, rfl, rfl⟩, Lib.hid (Below.refl _ _)⟩
      case round =>
        obtain ⟨j, k, F, ta, na, tc, nc, rfl, hjm, rfl, rfl, hkj, hF, hkF, hT, hN, hAp, hbest, hB5⟩ := hrel
        by_cases hlt2 : j < m
        · obtain ⟨x, hx⟩ : ∃ x, L[j]? = some x := ⟨_, List.getElem?_eq_getElem (by have := hm.out; omega)⟩
          have hxm := List.mem_of_getElem? hx
          obtain ⟨xb, xoff, rfl, hxlt, e0, e1⟩ := item_at HA1.out.items hx
          have XC := Lib.hid (show ∀ W', Below W1.heap.size W1 W' → W'.cell? ⟨xb, xoff + j * 2, none⟩ = some x.sv ∧ W'.cell? ⟨xb, xoff + j * 2 + 1, none⟩ = some (.int .i64 x.n) from fun W' h => ⟨(h.cell (p := ⟨xb, xoff + j * 2, none⟩) hxlt).trans e0, (h.cell (p := ⟨xb, xoff + j * 2 + 1, none⟩) hxlt).trans e1⟩)
          have hxr := (HA1.out.items.each x hxm).row
          have hx50 := HA1.out.short x hxm
          obtain ⟨xo, xc, hxv, -, -⟩ := hxr.form
          obtain ⟨lx, hlx⟩ : ∃ lx, lx = x.s.length := ⟨_, rfl⟩
          rw [← hlx] at hxv hx50
          rw [hxv] at hxr XC
          have XR := Lib.hid (show ∀ W', Below W1.heap.size W1 W' → RRow W' (.slice xo lx xc) x.s from fun W' h => hxr.below h)
          have LX := Lib.hid hlx
          have JS := Lib.hid (its_snoc hx)
          obtain ⟨ex, hex⟩ : ∃ ex, ex = encs x.s := ⟨_, rfl⟩
          have EX := Lib.hid hex
          have cs := (XC.out _ hB5.out).1
          have cn := (XC.out _ hB5.out).2
          have hbg := begins_any xo (some ⟨w4.heap.size, 0, none⟩) xc (G w4) x.s (runesOf s) wr (by rw [← LX.out]; exact XR.out _ hB5.out) (by rw [← RL.out]; exact RR.out _ hB5.out) (by omega) (by have := RL.out; omega)
          rw [← RL.out, ← LX.out] at hbg
          clear hxr hxv hlx hex e0 e1 hx hxm
          cases hq1 : begins x.s (runesOf s)
          · rw [hq1] at hbg
            have HF2 := Lib.hid (show F = ((its L).take (j + 1)).filter fun p => begins p.1 (runesOf s) by rw [JS.out, List.filter_append, ← hF.out]; simp [hq1])
            have HBG := Lib.hid hbg
            clear hbg hq1
            go_wp2_with fail
            refine HBG.out.mono ?_
            rintro en w6 ⟨rfl, hb6⟩
            have RT6 := Lib.hid (own_below hT.out hb6)
            have RN6 := Lib.hid (own_below hN.out hb6)
            have HB6 := Lib.hid (below_then hB5.out (Nat.le_refl _) hb6)
            clear hb6 cs cn
            have hs6 : RRow w6 (.slice xo lx xc) x.s := XR.out _ HB6.out
            have cs := (XC.out _ HB6.out).1
            have cn := (XC.out _ HB6.out).2
            have hbg := begins_any (some ⟨w4.heap.size, 0, none⟩) xo (G w4) xc (runesOf s) x.s w6 (by rw [← RL.out]; exact RR.out _ HB6.out) (by rw [← LX.out]; exact hs6) (by have := RL.out; omega) (by have := LX.out; omega)
            rw [← RL.out, ← LX.out] at hbg
            cases hq2 : begins (runesOf s) x.s
            · rw [hq2] at hbg
              have HBG := Lib.hid hbg
              have HL2 := Lib.hid (show lastB (runesOf s) ((its L).take (j + 1)) = lastB (runesOf s) ((its L).take j) by rw [JS.out, lastB_snoc, hq2]; rfl)
              clear hbg hq2 hs6
              go_wp2_with fail
              refine HBG.out.mono ?_
              rintro en w9 ⟨rfl, hb9⟩
              have HB9 := Lib.hid hb9
              clear hb9
              go_wp2_with fail
              go_roundw
              case rel => exact ⟨j + 1, k, F, ta, na, tc, nc, by go_num, by omega, rfl, rfl, by omega, HF2, Lib.hid hkF.out, Lib.hid (own_below RT6.out HB9.out), Lib.hid (own_below RN6.out HB9.out), hAp, by rw [HL2.out]; exact hbest, Lib.hid (below_then HB6.out (Nat.le_refl _) HB9.out)⟩
              case measure => simp [intOf]; omega
            · rw [hq2] at hbg
              have HBG := Lib.hid hbg
              have HL2 := Lib.hid (show lastB (runesOf s) ((its L).take (j + 1)) = some (x.s, x.n) by rw [JS.out, lastB_snoc, hq2]; rfl)
              clear hbg hq2 hs6
              go_wp2_with fail
              refine HBG.out.mono ?_
              rintro en w9 ⟨rfl, hb9⟩
              have HB9 := Lib.hid hb9
              have HBW := Lib.hid (below_then HB6.out (Nat.le_refl _) hb9)
              have cs9 := (XC.out _ HBW.out).1
              have cn9 := (XC.out _ HBW.out).2
              have hcv9 : ∀ q, (convert 24 9 (.slice xo lx xc)).run Try.prog (w9.drewN q) = .ok (.string ex) (w9.drewN q) := fun q => by rw [EX.out]; exact run_encs (XR.out _ (below_drewN HBW.out q))
              have hcv90 : (convert 24 9 (.slice xo lx xc)).run Try.prog w9 = .ok (.string ex) w9 := by rw [EX.out]; exact run_encs (XR.out _ HBW.out)
              clear hb9
              go_wp2_with fail
              go_quiet (fail)
              go_wp2_with fail
              go_roundw
              case rel => exact ⟨j + 1, k, F, ta, na, tc, nc, by go_num, by omega, rfl, rfl, by omega, HF2, Lib.hid hkF.out, Lib.hid (own_below RT6.out (below_drewN HB9.out _)), Lib.hid (own_below RN6.out (below_drewN HB9.out _)), hAp, by rw [HL2.out, EX.out]; exact Lib.hid ⟨rfl, rfl, rfl⟩, Lib.hid (below_drewN (below_then HB6.out (Nat.le_refl _) HB9.out) _)⟩
              case measure => simp [intOf]; omega
          · rw [hq1] at hbg
            have HF2 := Lib.hid (show F ++ [(x.s, x.n)] = ((its L).take (j + 1)).filter fun p => begins p.1 (runesOf s) by rw [JS.out, List.filter_append, ← hF.out]; simp [hq1])
            have HBG := Lib.hid hbg
            clear hbg hq1
            go_wp2_with fail
            refine HBG.out.mono ?_
            rintro en w6 ⟨rfl, hb6⟩
            have RT6 := Lib.hid (own_below hT.out hb6)
            have RN6 := Lib.hid (own_below hN.out hb6)
            have HB6 := Lib.hid (below_then hB5.out (Nat.le_refl _) hb6)
            have hs6 := HB6.out.size
            clear hb6 cs cn
            have cs := (XC.out _ HB6.out).1
            have hcv6 : (convert 24 9 (.slice xo lx xc)).run Try.prog w6 = .ok (.string ex) w6 := by rw [EX.out]; exact run_encs (XR.out _ HB6.out)
            go_wp2_with (first
              | (at_builtin; refine wpList_append_lies _ rfl (.tmp 95) (.tmp 102) 37 rfl W1.heap.size 9 j0 (.string ByteArray.empty) 1 16 Try.underlying37 JI.out JZ0.out JZ1.out JZ2.out rfl (by decide) (.slice ta k tc) _ _ rfl (RT6.out.alloc _) ⟨_, 0, none⟩ 1 1 [.string ex] rfl rfl (cell_one_at _ _ _ _ (by simp)) (by simp [Value.oneCell']) (by decide) (by unfold maxLen; omega) (by omega) (by simp; omega) (w6.heap.size + 1) (by simp) ?_; intro p1 c1 w7 hown7 hgrow7 hat7 hlt7; have RT7 := Lib.hid hown7; have RN7 := Lib.hid ((RN6.out.alloc (.cells #[.string ex] 9)).kept hgrow7 hAp.out.kept); have AP7 := Lib.hid (hAp.out.grown (k := k + 1) (cap := c1) (RN6.out.alloc (.cells #[.string ex] 9)) (by simpa using hat7)); have HB7 := Lib.hid (HB6.out.trans (grown_belowA hgrow7 (fun g hg => (RT6.out.lt g hg).1) hs6)); have hs7 := HB7.out.size; have cn := (XC.out _ HB7.out).2; clear hown7 hgrow7 hat7)
              | (at_builtin; refine wpList_append_lies _ rfl (.tmp 104) (.tmp 110) 38 rfl W1.heap.size 3 i0 (.int .i64 0) 1 8 Try.underlying38 HI.out HZ0.out HZ1.out HZ2.out rfl (by decide) (.slice na k nc) _ _ rfl (RN7.out.alloc _) ⟨_, 0, none⟩ 1 1 [.int .i64 x.n] rfl rfl (cell_one_at _ _ _ _ (by simp)) (by simp [Value.oneCell']) (by decide) (by unfold maxLen; omega) (by omega) (by simp; omega) (w7.heap.size + 1) (by simp) ?_; intro p2 c2 w8 hown8 hgrow8 hat8 hlt8; have RN8 := Lib.hid hown8; have RT8 := Lib.hid ((RT7.out.alloc (.cells #[.int .i64 x.n] 3)).kept hgrow8 AP7.out.symm.kept); have AP8 := Lib.hid ((AP7.out.symm.grown (k := k + 1) (cap := c2) (RT7.out.alloc (.cells #[.int .i64 x.n] 3)) (by simpa using hat8)).symm); have HB8 := Lib.hid (HB7.out.trans (grown_belowA hgrow8 (fun g hg => (RN7.out.lt g hg).1) hs7)); have cs := (XC.out _ HB8.out).1; clear hown8 hgrow8 hat8))
            have TX : txs F ++ [.string ex] = txs (F ++ [(x.s, x.n)]) := by unfold txs; rw [List.map_append, EX.out]; rfl
            have NX : nms F ++ [.int .i64 x.n] = nms (F ++ [(x.s, x.n)]) := by unfold nms; rw [List.map_append]; rfl
            rw [TX] at RT8
            rw [NX] at RN8
            clear TX NX
            have hs6 : RRow w8 (.slice xo lx xc) x.s := XR.out _ HB8.out
            have cs := (XC.out _ HB8.out).1
            have cn := (XC.out _ HB8.out).2
            have hbg := begins_any (some ⟨w4.heap.size, 0, none⟩) xo (G w4) xc (runesOf s) x.s w8 (by rw [← RL.out]; exact RR.out _ HB8.out) (by rw [← LX.out]; exact hs6) (by have := RL.out; omega) (by have := LX.out; omega)
            rw [← RL.out, ← LX.out] at hbg
            cases hq2 : begins (runesOf s) x.s
            · rw [hq2] at hbg
              have HBG := Lib.hid hbg
              have HL2 := Lib.hid (show lastB (runesOf s) ((its L).take (j + 1)) = lastB (runesOf s) ((its L).take j) by rw [JS.out, lastB_snoc, hq2]; rfl)
              clear hbg hq2 hs6
              refine HBG.out.mono ?_
              rintro en w9 ⟨rfl, hb9⟩
              have HB9 := Lib.hid hb9
              clear hb9
              go_wp2_with fail
              go_roundw
              case rel => exact ⟨j + 1, k + 1, F ++ [(x.s, x.n)], some ⟨p1, 0, none⟩, some ⟨p2, 0, none⟩, c1, c2, by go_num, by omega, rfl, rfl, by omega, HF2, Lib.hid (by rw [List.length_append, ← hkF.out]; rfl), Lib.hid (own_below RT8.out HB9.out), Lib.hid (own_below RN8.out HB9.out), AP8, by rw [HL2.out]; exact hbest, Lib.hid (below_then HB8.out (Nat.le_refl _) HB9.out)⟩
              case measure => simp [intOf]; omega
            · rw [hq2] at hbg
              have HBG := Lib.hid hbg
              have HL2 := Lib.hid (show lastB (runesOf s) ((its L).take (j + 1)) = some (x.s, x.n) by rw [JS.out, lastB_snoc, hq2]; rfl)
              clear hbg hq2 hs6
              refine HBG.out.mono ?_
              rintro en w9 ⟨rfl, hb9⟩
              have HB9 := Lib.hid hb9
              have HBW := Lib.hid (below_then HB8.out (Nat.le_refl _) hb9)
              have cs9 := (XC.out _ HBW.out).1
              have cn9 := (XC.out _ HBW.out).2
              have hcv9 : ∀ q, (convert 24 9 (.slice xo lx xc)).run Try.prog (w9.drewN q) = .ok (.string ex) (w9.drewN q) := fun q => by rw [EX.out]; exact run_encs (XR.out _ (below_drewN HBW.out q))
              have hcv90 : (convert 24 9 (.slice xo lx xc)).run Try.prog w9 = .ok (.string ex) w9 := by rw [EX.out]; exact run_encs (XR.out _ HBW.out)
              clear hb9
              go_wp2_with fail
              go_quiet (fail)
              go_wp2_with fail
              go_roundw
              case rel => exact ⟨j + 1, k + 1, F ++ [(x.s, x.n)], some ⟨p1, 0, none⟩, some ⟨p2, 0, none⟩, c1, c2, by go_num, by omega, rfl, rfl, by omega, HF2, Lib.hid (by rw [List.length_append, ← hkF.out]; rfl), Lib.hid (own_below RT8.out (below_drewN HB9.out _)), Lib.hid (own_below RN8.out (below_drewN HB9.out _)), AP8, by rw [HL2.out, EX.out]; exact Lib.hid ⟨rfl, rfl, rfl⟩, Lib.hid (below_drewN (below_then HB8.out (Nat.le_refl _) HB9.out) _)⟩
              case measure => simp [intOf]; omega
        · obtain rfl : j = m := by omega
          have hLl : (its L).length = L.length := by unfold its; simp
          have htk : (its L).take j = its L := List.take_of_length_le (by rw [hLl, hm.out]; exact Nat.le_refl _)
          rw [htk] at hbest hF
          have hF0 := hF.out
          have hFl : F.length ≤ 1000 := by have := hkF.out; omega
          have HA2 := HA1.out.below (hB5.out.mono (Nat.le_refl _))
          have hsq := seq_any w.heap.size w.heap.size (50 * n) 60 σ D (its L) s F hF0 wr HA2.says.at_.heap HA2.says.rep HA2.row HA2.says.slim (by omega) (by omega) (by omega) hFl
          have HSQ := Lib.hid hsq
          have HAA := Lib.hid HA2
          have hlb := long_lastB HA2.row (runesOf s)
          have HLB := Lib.hid hlb
          have SZ := hB5.out.size
          clear hsq HA2 hlb hF0 htk hLl
          go_wp2_with fail
          refine HSQ.out.mono ?_
          rintro en w6 ⟨v1, v2, rfl, hv1, hv2, hb6⟩
          have HA6 := Lib.hid (HAA.out.below hb6)
          have HB6 := Lib.hid (below_then hB5.out (Nat.le_refl _) hb6)
          have RT6 := Lib.hid (own_below hT.out hb6)
          have RN6 := Lib.hid (own_below hN.out hb6)
          have hlg := longest_any w.heap.size s D 60 w.heap.size (50 * n) j σ w6 (by rw [hm.out]; exact HA6.out.says) (by omega) (by omega)
          rw [HLB.out] at hlg
          obtain ⟨o, ho⟩ : ∃ o, o = lastB (runesOf s) (its L) := ⟨_, rfl⟩
          rw [← ho] at hlg hbest
          have LG := Lib.hid hlg
          obtain ⟨A, hA'⟩ : ∃ A, A = F.map fun x => encs x.1 := ⟨_, rfl⟩
          obtain ⟨B, hB'⟩ : ∃ B, B = F.map fun x => x.2 := ⟨_, rfl⟩
          rw [← hA'] at hv1
          rw [← hB'] at hv2
          have hkA : A.length = k := by rw [hA', List.length_map, ← hkF.out]
          have hkB : B.length = k := by rw [hB', List.length_map, ← hkF.out]
          have eA : A.flatMap enS = txs F := by rw [hA', List.flatMap_map]; exact sing _ F
          have eB : B.flatMap enN = nms F := by rw [hB', List.flatMap_map]; exact sing _ F
          obtain ⟨a1, b1, rfl, -, -⟩ := hv1.form
          obtain ⟨a2, b2, rfl, -, -⟩ := hv2.form
          have hk1000 : k ≤ 1000 := by omega
          have EQ1 := Lib.hid (show ∀ W, Below w6.heap.size w6 W → Calls Try.prog 15 #[.slice a1 k b1, .slice ta k tc] W fun e w' => e = .returned (.bool true) ∧ Below W.heap.size W w' from fun W hW => by
            have q1 : SRow W (.slice ta A.length tc) A := Lst.of_owns (fun _ => rfl) (by decide) (base := W1.heap.size) (e := 9) (by rw [eA, hkA]; exact own_below RT6.out hW)
            have := equalS_lit true a1 ta b1 tc A A W (eqS_self A) (hv1.below hW) q1 (by omega) (by omega)
            rw [hkA] at this
            exact this)
          have EQ2 := Lib.hid (show ∀ W, Below w6.heap.size w6 W → Calls Try.prog 16 #[.slice a2 k b2, .slice na k nc] W fun e w' => e = .returned (.bool true) ∧ Below W.heap.size W w' from fun W hW => by
            have q1 : Ints.IRow W (.slice na B.length nc) B := Lst.of_owns (fun _ => rfl) (by decide) (base := W1.heap.size) (e := 3) (by rw [show B.flatMap Ints.enI = nms F from eB, hkB]; exact own_below RN6.out hW)
            have := Ints.equal_lit true a2 na b2 nc B B W (Ints.eqI_self B) (hv2.below hW) q1 (by omega) (by omega)
            rw [hkB] at this
            exact this)
          clear hlg hA' hB' eA eB hv1 hv2 hb6 hF hT hN hAp ho HLB HSQ
          unfold LongPost at LG
          cases o with
          | none =>
            obtain ⟨rfl, rfl, rfl⟩ := hbest.out
            have e1 : ((ByteArray.empty).toList == (ByteArray.empty).toList) = true := by simp
            go_wp2_with fail
            refine LG.out.mono ?_
            rintro en w7 ⟨rfl, hb7⟩
            have HB7 := Lib.hid hb7
            clear hb7
            go_wp2_with fail
            refine (EQ1.out _ HB7.out).mono ?_
            rintro en w8 ⟨rfl, hb8⟩
            have HB8 := Lib.hid (below_then HB7.out (Nat.le_refl _) hb8)
            clear hb8
            go_wp2_with fail
            refine (EQ2.out _ HB8.out).mono ?_
            rintro en w9 ⟨rfl, hb9⟩
            have HB9 := Lib.hid (below_then HB8.out (Nat.le_refl _) hb9)
            clear hb9
            go_wp2_with fail
            refine (alive_any w9).mono ?_
            rintro en w10 ⟨rfl, hb10⟩
            have HB10 := Lib.hid (below_then HB9.out (Nat.le_refl _) hb10)
            clear hb10
            go_wp2_with fail
            go_ret
            exact ⟨rfl, HBW1.out.trans ((HB6.out.trans (HB10.out.mono (by have := HB6.out.size; omega))).mono (by omega))⟩
          | some p =>
            obtain ⟨tx, nm⟩ := p
            obtain ⟨rfl, rfl, rfl⟩ := hbest.out
            dsimp only at LG
            obtain ⟨es, hes⟩ : ∃ es, es = encs tx := ⟨_, rfl⟩
            rw [← hes] at LG ⊢
            clear hes
            have e1 : (es.toList == es.toList) = true := by simp
            have e2 : (nm == nm) = true := by simp
            go_wp2_with fail
            refine LG.out.mono ?_
            rintro en w7 ⟨rfl, hb7⟩
            have HB7 := Lib.hid hb7
            clear hb7
            go_wp2_with fail
            refine (EQ1.out _ HB7.out).mono ?_
            rintro en w8 ⟨rfl, hb8⟩
            have HB8 := Lib.hid (below_then HB7.out (Nat.le_refl _) hb8)
            clear hb8
            go_wp2_with fail
            refine (EQ2.out _ HB8.out).mono ?_
            rintro en w9 ⟨rfl, hb9⟩
            have HB9 := Lib.hid (below_then HB8.out (Nat.le_refl _) hb9)
            clear hb9
            go_wp2_with fail
            refine (alive_any w9).mono ?_
            rintro en w10 ⟨rfl, hb10⟩
            have HB10 := Lib.hid (below_then HB9.out (Nat.le_refl _) hb10)
            clear hb10
            go_wp2_with fail
            go_ret
            exact ⟨rfl, HBW1.out.trans ((HB6.out.trans (HB10.out.mono (by have := HB6.out.size; omega))).mono (by omega))⟩
end Go.Proofs.Ytehoanpjlinfaaa.Tri
