/- The law's own row: texts in runes and their numbers; found. -/
import Derived.Test.YtehoanpjlinfaaaTriCmp
namespace Go.Proofs.Ytehoanpjlinfaaa.Tri
open Go.RowKit

structure RI where
  sv : Value
  s : Tx
  n : Int
def RI.en (x : RI) : List Value := [x.sv, .int .i64 x.n]
theorem en_len (x : RI) : x.en.length = 2 := rfl
def its (l : List RI) : Its := l.map fun x => (x.s, x.n)

/-- Blocks stay. -/
def Stay (ok : Nat → Prop) (w w' : World) : Prop := w.heap.size ≤ w'.heap.size ∧ ∀ b, b < w.heap.size → ok b → w'.heap[b]? = w.heap[b]?
theorem Stay.below {ok : Nat → Prop} {w w' : World} (h : Below w.heap.size w w') : Stay ok w w' := ⟨h.size, fun b hb _ => h.block b hb⟩
theorem Stay.moves {σ τ : Store} {w w' : World} (h : Moves σ w τ w') : Stay (fun b => ¬ Uses σ b) w w' := ⟨h.size, fun b hb ho => h.block b hb ho⟩

/-- A slice that reads as a list, and lies in a block that is as asked. -/
structure At {α : Type} (sz : Nat) (en : α → List Value) (ok : Nat → Prop) (w : World) (v : Value) (l : List α) : Prop where
  row : Lst sz en w v l
  ok : ∀ b, v.ownBlock = some b → l = [] ∨ ok b
theorem At.stay {α : Type} {sz : Nat} {en : α → List Value} {ok : Nat → Prop} {w w' : World} {v : Value} {l : List α} (h : At sz en ok w v l) (hs : Stay ok w w') : At sz en ok w' v l := by
  refine ⟨?_, h.ok⟩
  obtain ⟨ao, cap, hv, h1, h2, h3⟩ := h.row
  refine ⟨ao, cap, hv, h1, h2, ?_⟩
  rcases h3 with h3 | ⟨b, off, ha, hlt, hc⟩
  · exact Or.inl h3
  · rcases h.ok b (by rw [hv, ha]; rfl) with e | hok
    · exact Or.inl (by rw [e]; rfl)
    · exact Or.inr ⟨b, off, ha, Nat.lt_of_lt_of_le hlt hs.1, fun i x hi j hj => (World.cell?_of_block (w := w) (a := ⟨b, off + i * sz + j, none⟩) (hs.2 b hlt hok)).trans (hc i x hi j hj)⟩
theorem At.mono {α : Type} {sz : Nat} {en : α → List Value} {ok ok' : Nat → Prop} {w : World} {v : Value} {l : List α} (h : At sz en ok w v l) (hm : ∀ b, b < w.heap.size → ok b → ok' b) : At sz en ok' w v l := by
  refine ⟨h.row, fun b hb => ?_⟩
  obtain ⟨ao, cap, hv, h1, h2, h3⟩ := h.row
  rcases h3 with h3 | ⟨b', off, ha, hlt, hc⟩
  · exact Or.inl (List.length_eq_zero_iff.1 h3)
  · rw [hv, ha] at hb
    cases hb
    exact (h.ok b' (by rw [hv, ha]; rfl)).imp id (hm _ hlt)
theorem At.nil {α : Type} {sz : Nat} {en : α → List Value} (ok : Nat → Prop) (w : World) : At sz en ok w (.slice none 0 0) ([] : List α) := ⟨Lst.nil w, fun b hb => by cases hb⟩

structure Items (ok : Nat → Prop) (w : World) (v : Value) (l : List RI) : Prop where
  row : At 2 RI.en ok w v l
  each : ∀ x ∈ l, At 1 enr ok w x.sv x.s
  form : v = .slice none 0 0 ∨ ∃ b off n cap, v = .slice (some ⟨b, off, none⟩) n cap
theorem Items.stay {ok : Nat → Prop} {w w' : World} {v : Value} {l : List RI} (h : Items ok w v l) (hs : Stay ok w w') : Items ok w' v l := ⟨h.row.stay hs, fun x hx => (h.each x hx).stay hs, h.form⟩
theorem Items.mono {ok ok' : Nat → Prop} {w : World} {v : Value} {l : List RI} (h : Items ok w v l) (hm : ∀ b, b < w.heap.size → ok b → ok' b) : Items ok' w v l := ⟨h.row.mono hm, fun x hx => (h.each x hx).mono hm, h.form⟩
theorem Items.moves {σ τ : Store} {w w' : World} {v : Value} {l : List RI} (h : Items (fun b => ¬ Uses σ b) w v l) (hm : Moves σ w τ w') : Items (fun b => ¬ Uses τ b) w' v l := by
  have h1 : Items (fun b => ¬ Uses τ b) w v l := h.mono fun b hb hu ht => by
    rcases hm.uses b ht with e | e
    · exact hu e
    · omega
  have h2 : Stay (fun b => ¬ Uses τ b ∧ ¬ Uses σ b) w w' := ⟨hm.size, fun b hb ho => hm.block b hb ho.2⟩
  have h3 : Items (fun b => ¬ Uses τ b ∧ ¬ Uses σ b) w v l := ⟨⟨h.row.row, fun b hb => by
    rcases h.row.ok b hb with e | e
    · exact Or.inl e
    · rcases h1.row.ok b hb with e' | e'
      · exact Or.inl e'
      · exact Or.inr ⟨e', e⟩⟩, fun x hx => ⟨(h.each x hx).row, fun b hb => by
    rcases (h.each x hx).ok b hb with e | e
    · exact Or.inl e
    · rcases (h1.each x hx).ok b hb with e' | e'
      · exact Or.inl e'
      · exact Or.inr ⟨e', e⟩⟩, h.form⟩
  exact (h3.stay h2).mono fun b _ ho => ho.1

theorem item_at {ok : Nat → Prop} {w : World} {ao : Option Addr} {n cap : Nat} {l : List RI} {k : Nat} {x : RI} (h : Items ok w (.slice ao n cap) l) (hk : l[k]? = some x) :
    ∃ b off, ao = some ⟨b, off, none⟩ ∧ b < w.heap.size ∧ w.cell? ⟨b, off + k * 2, none⟩ = some x.sv ∧ w.cell? ⟨b, off + k * 2 + 1, none⟩ = some (.int .i64 x.n) := by
  obtain ⟨hlt, he⟩ := List.getElem?_eq_some_iff.1 hk
  obtain ⟨b, off, ha, hb, hc⟩ := Lst.get h.row.row hlt
  rw [he] at hc
  exact ⟨b, off, ha, hb, hc 0 (by decide), hc 1 (by decide)⟩

theorem its_get (l : List RI) (i : Nat) : (its l)[i]? = (l[i]?).map fun x => (x.s, x.n) := by unfold its; rw [List.getElem?_map]

/-- Where it stands. -/
theorem findL_drop (l : Its) (s : Tx) (k : Nat) (h : findL l s = k + findL (l.drop k) s) : (∀ p, l[k]? = some p → ¬ cmpT s p.1 ≤ 0 → findL l s = (k + 1) + findL (l.drop (k + 1)) s) ∧ (∀ p, l[k]? = some p → cmpT s p.1 ≤ 0 → findL l s = k) ∧ (l.length ≤ k → findL l s = k) := by
  refine ⟨fun p hp hc => ?_, fun p hp hc => ?_, fun hk => ?_⟩
  · have hlt := (List.getElem?_eq_some_iff.1 hp).1
    rw [h, List.drop_eq_getElem_cons hlt, (List.getElem?_eq_some_iff.1 hp).2]
    rw [show findL (p :: l.drop (k + 1)) s = findL (l.drop (k + 1)) s + 1 by rw [findL, if_neg hc]]
    omega
  · have hlt := (List.getElem?_eq_some_iff.1 hp).1
    rw [h, List.drop_eq_getElem_cons hlt, (List.getElem?_eq_some_iff.1 hp).2]
    rw [show findL (p :: l.drop (k + 1)) s = 0 by rw [findL, if_pos hc]]
    omega
  · rw [h, List.drop_of_length_le hk]; simp [findL]

set_option maxHeartbeats 4000000 in
set_option maxRecDepth 100000 in
theorem find_row (ao bo : Option Addr) (ac bc : Nat) (l : List RI) (s : Tx) (ok : Nat → Prop) (w : World) (hl : Items ok w (.slice ao l.length ac) l) (hs : RRow w (.slice bo s.length bc) s) (h1 : l.length ≤ 100000) (h2 : s.length ≤ 100000) (h3 : ∀ x ∈ l, x.s.length ≤ 100000) :
    Calls Try.prog 43 #[.slice ao l.length ac, .slice bo s.length bc] w fun e w' => e = .returned (.tuple #[.int .i64 (findL (its l) s), .bool (hasL (its l) s)]) ∧ w = w' := by
  have HL := Lib.hid hl
  have HS := Lib.hid hs
  have H3 := Lib.hid h3
  obtain ⟨n, hn⟩ : ∃ n, n = l.length := ⟨_, rfl⟩
  have hni : (its l).length = n := by unfold its; rw [List.length_map, hn]
  rw [← hn] at HL h1 ⊢
  obtain ⟨q, hq⟩ : ∃ q, q = findL (its l) s := ⟨_, rfl⟩
  obtain ⟨b, hb⟩ : ∃ b, b = hasL (its l) s := ⟨_, rfl⟩
  rw [← hq, ← hb]
  have HN := Lib.hid hn
  have HNI := Lib.hid hni
  have HQ := Lib.hid hq
  have HB := Lib.hid hb
  clear hl hs h3 hn hni hq hb
  obtain ⟨m, hm⟩ : ∃ m, m = s.length := ⟨_, rfl⟩
  rw [← hm] at HS h2 ⊢
  have HM := Lib.hid hm
  clear hm
  go_enter Try.func43, Try.ntmps43
  go_wp2_with fail
  go_loop [6] (fun iv => ∃ (k : Nat), iv = .int .i64 k ∧ k ≤ n ∧ Hid (findL (its l) s = k + findL ((its l).drop k) s)) (fun iv => n - (intOf iv).toNat)
  case atStart => exact ⟨0, rfl, by omega, Lib.hid (by simp)⟩
  case round =>
    obtain ⟨k, rfl, hk, hf⟩ := hrel
    obtain ⟨f1, f2, f3⟩ := findL_drop (its l) s k hf.out
    by_cases hlt : k < n
    · obtain ⟨x, hx⟩ : ∃ x, l[k]? = some x := ⟨_, List.getElem?_eq_getElem (by have := HN.out; omega)⟩
      obtain ⟨ib, ioff, rfl, hibl, c0, c1⟩ := item_at HL.out hx
      have hxm := List.mem_of_getElem? hx
      have hxr := (HL.out.each x hxm).row
      obtain ⟨so, sc, hsv, _⟩ := Lst.form hxr
      rw [hsv] at c0 hxr
      have hcmp := compare_any bo so bc sc s x.s w (by rw [← HM.out]; exact HS.out) hxr (by rw [← HM.out]; exact h2) (H3.out x hxm)
      rw [← HM.out] at hcmp
      have hip : (its l)[k]? = some (x.s, x.n) := by rw [its_get, hx]; rfl
      have g1 := f1 _ hip
      have g2 := f2 _ hip
      obtain ⟨c, hc⟩ : ∃ c, c = cmpT s x.s := ⟨_, rfl⟩
      simp only at g1 g2
      rw [← hc] at hcmp g1 g2
      obtain ⟨xl, hxl⟩ : ∃ xl, xl = x.s.length := ⟨_, rfl⟩
      rw [← hxl] at c0 hcmp
      have HCMP := Lib.hid hcmp
      have HC := Lib.hid hc
      have HIP := Lib.hid hip
      clear hcmp hxr hsv hx hxm hip hxl f1 f2 f3 hc
      by_cases hc0 : c ≤ 0
      · have hd : decide (c ≤ 0) = true := decide_eq_true hc0
        have hk2 := g2 hc0
        have HK2 := Lib.hid (show q = k by rw [HQ.out]; exact hk2)
        have hbv : b = (c == 0) := by
          rw [HB.out]
          unfold hasL
          rw [hk2, HIP.out, HC.out]
          show decide (x.s = s) = _
          cases hz : (cmpT s x.s == 0)
          · have : ¬ cmpT s x.s = 0 := by simpa using hz
            exact decide_eq_false fun e => this (cmpT_zero.2 e.symm)
          · have : cmpT s x.s = 0 := by simpa using hz
            exact decide_eq_true (cmpT_zero.1 this).symm
        have HBV := Lib.hid hbv
        clear g1 g2 hk2 hbv
        go_wp2_with fail
        refine HCMP.out.mono ?_
        rintro e w1 ⟨rfl, rfl⟩
        go_wp2_with fail
        go_ret2
        exact ⟨by rw [HK2.out, HBV.out]; rfl, rfl⟩
      · have hd : decide (c ≤ 0) = false := decide_eq_false hc0
        have G1 := Lib.hid (g1 hc0)
        clear g1 g2
        go_wp2_with fail
        refine HCMP.out.mono ?_
        rintro e w1 ⟨rfl, rfl⟩
        go_wp2_with fail
        go_round
        case rel => exact ⟨k + 1, by go_num, by omega, G1⟩
        case measure => simp [intOf]; omega
    · obtain rfl : n = k := by omega
      have hk2 := f3 (by rw [HNI.out]; exact Nat.le_refl _)
      have HK2 := Lib.hid (show q = n by rw [HQ.out]; exact hk2)
      have HBV := Lib.hid (show b = false by
        rw [HB.out]
        unfold hasL
        rw [hk2, List.getElem?_eq_none (by rw [HNI.out]; exact Nat.le_refl _)])
      clear f1 f2 f3 hk2 hf
      go_wp2_with fail
      go_ret2
      exact ⟨by rw [HK2.out, HBV.out]; rfl, rfl⟩
end Go.Proofs.Ytehoanpjlinfaaa.Tri
