/- The walk of TrieEmpty. -/
import Derived.Test.YtfijfjelfhofeaaTriAlive
import Derived.Test.YtfijfjelfhofeaaArgLst
namespace Go.Proofs.Ytfijfjelfhofeaa.Tri
open Go.RowKit Go.Proofs.Ytfijfjelfhofeaa.Kit

abbrev enS (s : ByteArray) : List Value := [.string s]
abbrev SRow (w : World) (v : Value) (l : List ByteArray) : Prop := Lst 1 enS w v l
theorem str_at {w : World} {ao : Option Addr} {n cap : Nat} {l : List ByteArray} {k : Nat} {x : ByteArray} (h : SRow w (.slice ao n cap) l) (hk : l[k]? = some x) :
    ∃ b off, ao = some ⟨b, off, none⟩ ∧ b < w.heap.size ∧ w.cell? ⟨b, off + k, none⟩ = some (.string x) := by
  obtain ⟨hlt, he⟩ := List.getElem?_eq_some_iff.1 hk
  obtain ⟨b, off, ha, hb, hc⟩ := Lst.get h hlt
  have := hc 0 (by decide)
  rw [he, Nat.mul_one] at this
  exact ⟨b, off, ha, hb, this⟩

/-- The texts at hand, each once. -/
structure Keys (D : Dict) (K : List Tx) : Prop where
  nodup : K.Nodup
  iff : ∀ k, D k ≠ none ↔ k ∈ K
theorem Keys.emp : Keys emp [] := ⟨List.nodup_nil, fun k => by simp [Tri.emp]⟩
theorem Keys.ins {D : Dict} {K : List Tx} (h : Keys D K) (s : Tx) (n : Int) : ∃ K', Keys (ins D s n) K' ∧ K'.length = (if (D s).isSome then K.length else K.length + 1) ∧ ∀ k, k ∈ K' ↔ k = s ∨ k ∈ K := by
  by_cases hs : D s = none
  · refine ⟨s :: K, ⟨List.nodup_cons.2 ⟨fun e => (h.iff s).2 e hs, h.nodup⟩, fun k => ?_⟩, by rw [hs]; rfl, fun k => by simp⟩
    unfold Tri.ins
    by_cases e : k = s
    · simp [e]
    · simp [e, h.iff]
  · have hi : (D s).isSome = true := by cases hq : D s with
      | none => exact absurd hq hs
      | some _ => rfl
    have hm := (h.iff s).1 hs
    refine ⟨K, ⟨h.nodup, fun k => ?_⟩, by rw [hi]; rfl, fun k => ⟨Or.inr, fun e => e.elim (fun e => by rw [e]; exact hm) id⟩⟩
    unfold Tri.ins
    by_cases e : k = s
    · simp [e, hm]
    · simp [e, h.iff]
theorem Keys.del {D : Dict} {K : List Tx} (h : Keys D K) (s : Tx) : ∃ K', Keys (del D s) K' ∧ (K'.length : Int) = (if (D s).isSome then (K.length : Int) - 1 else K.length) ∧ ∀ k, k ∈ K' ↔ k ≠ s ∧ k ∈ K := by
  have hK : Keys (Tri.del D s) (K.erase s) := ⟨h.nodup.erase s, fun k => by
    rw [h.nodup.mem_erase_iff, ← h.iff]
    unfold Tri.del
    by_cases e : k = s <;> simp [e]⟩
  refine ⟨K.erase s, hK, ?_, fun k => h.nodup.mem_erase_iff⟩
  by_cases hs : D s = none
  · rw [hs]
    rw [List.erase_of_not_mem (fun e => (h.iff s).2 e hs)]
    rfl
  · have hi : (D s).isSome = true := by cases hq : D s with
      | none => exact absurd hq hs
      | some _ => rfl
    have hm := (h.iff s).1 hs
    rw [hi, List.length_erase_of_mem hm]
    have : 0 < K.length := List.length_pos_of_mem hm
    simp only [if_true]
    omega

theorem tmod_bound (x : Int) (n : Nat) (hn : 0 < n) : -(n : Int) < x.tmod n ∧ x.tmod n < n := by
  have h1 := Int.tmod_lt_of_pos x (show (0 : Int) < n by omega)
  have h2 := Int.lt_tmod_of_pos x (show (0 : Int) < n by omega)
  omega

set_option maxHeartbeats 8000000 in
set_option maxRecDepth 100000 in
theorem trieEmpty_any (ao : Option Addr) (cap : Nat) (l : List ByteArray) (turn : Int) (w : World) (hl : SRow w (.slice ao l.length cap) l) (ht : -9223372036854775808 ≤ turn ∧ turn ≤ 9223372036854775807) :
    Calls Try.prog 3 #[.slice ao l.length cap, .int .i64 turn] w fun e w' => e = .returned (.bool true) ∧ Below w.heap.size w w' := by
  have HL := Lib.hid hl
  obtain ⟨n, hn⟩ : ∃ n, n = l.length := ⟨_, rfl⟩
  rw [← hn] at HL ⊢
  have HN := Lib.hid hn
  clear hl hn
  by_cases hg : 40 < n
  · have hg1 : decide ((40 : Int) < (n : Int)) = true := decide_eq_true (by omega)
    go_enter Try.func3, Try.ntmps3
    go_wp2_with fail
    go_ret
    exact ⟨rfl, Below.refl _ _⟩
  · have hg1 : decide ((40 : Int) < (n : Int)) = false := decide_eq_false (by omega)
    have HS0 := Lib.hid (says_new w w.heap.size 60 0 (Nat.le_refl _))
    go_enter Try.func3, Try.ntmps3
    go_wp2_with fail
    go_loopw [6] (fun iv wr => ∃ (i : Nat) (σ : Store) (D : Dict) (K : List Tx), iv = .int .i64 i ∧ i ≤ n ∧ Hid (Says wr w.heap.size w.heap.size 60 (50 * i) σ D K.length) ∧ Hid (Keys D K) ∧ K.length ≤ i ∧ Hid (Below w.heap.size w wr) ∧ w.heap.size < wr.heap.size ∧
      Hid (∀ k ∈ K, ∃ (m : Nat) (s : ByteArray), l[m]? = some s ∧ k = runesOf s) ∧ Hid (∀ (m : Nat) (s : ByteArray), m < i → l[m]? = some s → s.size ≤ 50)) (fun iv _ => n - (intOf iv).toNat)
    case atStart => exact ⟨0, _, emp, [], rfl, by omega, HS0, Keys.emp, by simp, Lib.hid ((Below.refl _ _).alloc (Nat.le_refl _) _), by simp, Lib.hid (by simp), Lib.hid (fun m s h => by omega)⟩
    case round =>
      obtain ⟨i, σ, D, K, rfl, hin, hS, hK, hKi, hB, hsz, hsub, hall⟩ := hrel
      by_cases hlt : i < n
      · obtain ⟨s, hs⟩ : ∃ s, l[i]? = some s := ⟨_, List.getElem?_eq_getElem (by have := HN.out; omega)⟩
        obtain ⟨b, off, rfl, hbl, hcell0⟩ := str_at HL.out hs
        have hcell : wr.cell? ⟨b, off + i, none⟩ = some (.string s) := (hB.out.cell (p := ⟨b, off + i, none⟩) hbl).trans hcell0
        have HSI := Lib.hid hs
        clear hs hcell0
        by_cases hbig : 50 < s.size
        · have hg2 : decide ((50 : Int) < (s.size : Int)) = true := decide_eq_true (by omega)
          go_wp2_with fail
          go_ret
          exact ⟨rfl, hB.out⟩
        · have hg2 : decide ((50 : Int) < (s.size : Int)) = false := decide_eq_false (by omega)
          go_wp2_with fail
          refine (put_says w.heap.size s i D 60 w.heap.size (50 * i) K.length σ wr hS.out (by omega) (by omega) (by omega) (by omega)).mono ?_
          rintro e w2 ⟨τ, rfl, h1, m1⟩
          obtain ⟨K', k1, k2, k3⟩ := hK.out.ins (runesOf s) i
          have hS2 : Hid (Says w2 w.heap.size w.heap.size 60 (50 * (i + 1)) τ (ins D (runesOf s) i) K'.length) := by
            have e1 : ((K'.length : Nat) : Int) = (if (D (runesOf s)).isSome then (K.length : Int) else K.length + 1) := by rw [k2]; split <;> simp
            rw [e1]
            exact ⟨h1.at_, h1.rep, h1.nodup, fun b x hx => by have := h1.slim b x hx; have := runesOf_len s; omega⟩
          have hB2 := Lib.hid (hB.out.trans (m1.to_below (fun j hj => (hS.out.at_.heap.uses_lt hj).1) (by omega)))
          have hz2 : w.heap.size < w2.heap.size := by have := m1.size; omega
          have hsub2 : Hid (∀ k ∈ K', ∃ (m : Nat) (s : ByteArray), l[m]? = some s ∧ k = runesOf s) := fun k hk => by
            rcases (k3 k).1 hk with rfl | h
            · exact ⟨i, s, HSI.out, rfl⟩
            · exact hsub.out k h
          have hall2 : Hid (∀ (m : Nat) (s : ByteArray), m < i + 1 → l[m]? = some s → s.size ≤ 50) := fun m s' hm hs' => by
            rcases Nat.lt_or_ge m i with h | h
            · exact hall.out m s' h hs'
            · obtain rfl : m = i := by omega
              have := HSI.out; rw [hs'] at this; cases this; omega
          have hKl : K'.length ≤ i + 1 := by rw [k2]; split <;> omega
          have HK2 := Lib.hid k1
          clear h1 m1 k1 k2 k3 hcell
          go_wp2_with fail
          go_roundw
          case rel => exact ⟨i + 1, τ, _, K', by go_num, by omega, hS2, HK2, hKl, hB2, hz2, hsub2, hall2⟩
          case measure => simp [intOf]; omega
      · obtain rfl : n = i := by omega
        go_wp2_with fail
        obtain ⟨wo, hwo⟩ : ∃ wo : World, wo = wr := ⟨_, rfl⟩
        subst hwo
        -- where the drops begin
        obtain ⟨z, hz⟩ : ∃ z, z = turn.tmod n := ⟨_, rfl⟩
        have HZ := Lib.hid hz
        obtain ⟨q, hq⟩ : ∃ q : Nat, q = (if z < 0 then z + n else z).toNat := ⟨_, rfl⟩
        have HQ := Lib.hid hq
        clear hz hq
        go_loopw [7] (fun iv wr => ∃ (j : Nat) (σ : Store) (D : Dict) (K : List Tx), iv = .int .i64 j ∧ j ≤ n ∧ Hid (Says wr w.heap.size w.heap.size 60 (50 * n) σ D K.length) ∧ Hid (Keys D K) ∧ K.length ≤ n ∧ Hid (Below w.heap.size w wr) ∧ w.heap.size < wr.heap.size ∧
          Hid (∀ k ∈ K, ∃ (m : Nat) (s : ByteArray), l[m]? = some s ∧ k = runesOf s) ∧ Hid (∀ (m : Nat) (s : ByteArray), m < j → l[(m + q) % n]? = some s → runesOf s ∉ K)) (fun iv _ => n - (intOf iv).toNat)
        case atStart => exact ⟨0, σ, D, K, rfl, by omega, hS, hK, by omega, hB, hsz, hsub, Lib.hid (fun m s h => by omega)⟩
        case round =>
          obtain ⟨j, σ, D, K, rfl, hjn, hS, hK, hKi, hB, hsz, hsub, hdr⟩ := hrel
          by_cases hlt2 : j < n
          · have hm : (j + q) % n < n := Nat.mod_lt _ (by omega)
            obtain ⟨m, hmm⟩ : ∃ m, m = (j + q) % n := ⟨_, rfl⟩
            rw [← hmm] at hm
            obtain ⟨s, hs⟩ : ∃ s, l[m]? = some s := ⟨_, List.getElem?_eq_getElem (by have := HN.out; omega)⟩
            have hsz50 := hall.out m s (by omega) hs
            obtain ⟨b, off, rfl, hbl, hcell0⟩ := str_at HL.out hs
            have hcell : wr.cell? ⟨b, off + m, none⟩ = some (.string s) := (hB.out.cell (p := ⟨b, off + m, none⟩) hbl).trans hcell0
            have HSI := Lib.hid hs
            have HMM := Lib.hid hmm
            have hzb := tmod_bound turn n (by omega)
            rw [← HZ.out] at hzb
            have hzt : turn.tmod (n : Int) = z := HZ.out.symm
            have hn0 : ((n : Int) == 0) = false := by simp; omega
            clear hs hcell0 hmm
            have hdrop := fun w2 (hw2 : w2 = wr) => drop_any w.heap.size s D 60 w.heap.size (50 * n) K.length σ w2 (by rw [hw2]; exact hS.out) (by omega) (by omega) (by omega)
            have HD := Lib.hid (hdrop wr rfl)
            clear hdrop
            by_cases hneg : z < 0
            · have hq1 : z + (n : Int) = (q : Int) := by have := HQ.out; rw [if_pos hneg] at this; omega
              have hd1 : decide (z < 0) = true := decide_eq_true hneg
              have hq2 : ((j : Int) + (q : Int)).tmod (n : Int) = (m : Int) := by rw [Int.tmod_eq_emod_of_nonneg (by omega), HMM.out, Int.natCast_emod, Int.natCast_add]
              have hq3 : ((j : Int) + (q : Int)) % (n : Int) = (m : Int) := by rw [HMM.out, Int.natCast_emod, Int.natCast_add]
              go_wp2_with fail
              refine HD.out.mono ?_
              rintro e w2 ⟨τ, rfl, h1, m1⟩
              obtain ⟨K', k1, k2, k3⟩ := hK.out.del (runesOf s)
              have hS2 : Hid (Says w2 w.heap.size w.heap.size 60 (50 * n) τ (del D (runesOf s)) K'.length) := by rw [k2]; exact h1
              have hB2 := Lib.hid (hB.out.trans (m1.to_below (fun j hj => (hS.out.at_.heap.uses_lt hj).1) (by omega)))
              have hz2 : w.heap.size < w2.heap.size := by have := m1.size; omega
              have hsub2 : Hid (∀ k ∈ K', ∃ (m : Nat) (s : ByteArray), l[m]? = some s ∧ k = runesOf s) := fun k hk => hsub.out k ((k3 k).1 hk).2
              have hdr2 : Hid (∀ (p : Nat) (s : ByteArray), p < j + 1 → l[(p + q) % n]? = some s → runesOf s ∉ K') := fun p s' hp hs' hk => by
                have h5 := (k3 _).1 hk
                rcases Nat.lt_or_ge p j with h | h
                · exact hdr.out p s' h hs' h5.2
                · obtain rfl : p = j := by omega
                  rw [← HMM.out] at hs'
                  have := HSI.out; rw [hs'] at this; cases this
                  exact h5.1 rfl
              have hKl : K'.length ≤ n := by
                have : (K'.length : Int) ≤ K.length := by rw [k2]; split <;> omega
                omega
              have HK2 := Lib.hid k1
              clear h1 m1 k1 k2 k3 hcell
              go_wp2_with fail
              go_roundw
              case rel => exact ⟨j + 1, τ, _, K', by go_num, by omega, hS2, HK2, hKl, hB2, hz2, hsub2, hdr2⟩
              case measure => simp [intOf]; omega
            · obtain rfl : z = (q : Int) := by have := HQ.out; rw [if_neg hneg] at this; omega
              have hd1 : decide ((q : Int) < 0) = false := decide_eq_false hneg
              have hq2 : ((j : Int) + (q : Int)).tmod (n : Int) = (m : Int) := by rw [Int.tmod_eq_emod_of_nonneg (by omega), HMM.out, Int.natCast_emod, Int.natCast_add]
              have hq3 : ((j : Int) + (q : Int)) % (n : Int) = (m : Int) := by rw [HMM.out, Int.natCast_emod, Int.natCast_add]
              go_wp2_with fail
              refine HD.out.mono ?_
              rintro e w2 ⟨τ, rfl, h1, m1⟩
              obtain ⟨K', k1, k2, k3⟩ := hK.out.del (runesOf s)
              have hS2 : Hid (Says w2 w.heap.size w.heap.size 60 (50 * n) τ (del D (runesOf s)) K'.length) := by rw [k2]; exact h1
              have hB2 := Lib.hid (hB.out.trans (m1.to_below (fun j hj => (hS.out.at_.heap.uses_lt hj).1) (by omega)))
              have hz2 : w.heap.size < w2.heap.size := by have := m1.size; omega
              have hsub2 : Hid (∀ k ∈ K', ∃ (m : Nat) (s : ByteArray), l[m]? = some s ∧ k = runesOf s) := fun k hk => hsub.out k ((k3 k).1 hk).2
              have hdr2 : Hid (∀ (p : Nat) (s : ByteArray), p < j + 1 → l[(p + q) % n]? = some s → runesOf s ∉ K') := fun p s' hp hs' hk => by
                have h5 := (k3 _).1 hk
                rcases Nat.lt_or_ge p j with h | h
                · exact hdr.out p s' h hs' h5.2
                · obtain rfl : p = j := by omega
                  rw [← HMM.out] at hs'
                  have := HSI.out; rw [hs'] at this; cases this
                  exact h5.1 rfl
              have hKl : K'.length ≤ n := by
                have : (K'.length : Int) ≤ K.length := by rw [k2]; split <;> omega
                omega
              have HK2 := Lib.hid k1
              clear h1 m1 k1 k2 k3 hcell
              go_wp2_with fail
              go_roundw
              case rel => exact ⟨j + 1, τ, _, K', by go_num, by omega, hS2, HK2, hKl, hB2, hz2, hsub2, hdr2⟩
              case measure => simp [intOf]; omega
          · obtain rfl : n = j := by omega
            have hKe : K = [] := by
              cases K with
              | nil => rfl
              | cons k K =>
                obtain ⟨m, s, h1, h2⟩ := hsub.out k (by simp)
                have hm : m < n := by have := HN.out; have := (List.getElem?_eq_some_iff.1 h1).1; omega
                have hq : q < n := by
                  have := HQ.out
                  have hzb := tmod_bound turn n (by omega)
                  rw [← HZ.out] at hzb
                  split at this <;> omega
                have hmod : ((if q ≤ m then m - q else m + n - q) + q) % n = m := by
                  split
                  · rw [show m - q + q = m by omega]; exact Nat.mod_eq_of_lt hm
                  · rw [show m + n - q + q = m + n by omega, Nat.add_mod_right]; exact Nat.mod_eq_of_lt hm
                exact absurd (by rw [← h2]; simp) (hdr.out (if q ≤ m then m - q else m + n - q) s (by split <;> omega) (by rw [hmod]; exact h1))
            subst hKe
            have hS0 : Says wr w.heap.size w.heap.size 60 (50 * n) σ D 0 := hS.out
            have HT := Lib.hid hS0
            have hnf : nodesF [] = 1 := by decide
            have hnd := nodes_any w.heap.size 60 w.heap.size (50 * n) σ D 0 wr hS0 [] hK.out.iff (by rw [hnf]; decide)
            rw [hnf] at hnd
            have HND := Lib.hid hnd
            clear hS0 hnf hnd hS hK hsub hdr
            go_wp2_with fail
            refine (len_any w.heap.size w.heap.size 0 σ wr HT.out.at_).mono ?_
            rintro e w5 ⟨rfl, rfl⟩
            go_wp2_with fail
            refine HND.out.mono ?_
            rintro e w5 ⟨rfl, rfl⟩
            go_wp2_with fail
            refine (alive_any wr).mono ?_
            rintro e w5 ⟨rfl, hb5⟩
            have HB5 := Lib.hid (below_then hB.out (Nat.le_refl _) hb5)
            clear hb5
            go_wp2_with fail
            go_ret
            exact ⟨rfl, HB5.out⟩
end Go.Proofs.Ytfijfjelfhofeaa.Tri
