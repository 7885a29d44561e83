/- The trie's walks: count, Nodes. -/
import Derived.Test.YtehoanpjlinfaaaTriPaths
import Derived.Test.YtehoanpjlinfaaaTriDrop
namespace Go.Proofs.Ytehoanpjlinfaaa.Tri
open Go.RowKit

theorem cnt_succ {d : Nat} {σ : Store} {b : Nat} {x : Node} (h : σ b = some x) (hok : x.Ok) : cnt (d + 1) σ b = 1 + (x.below.map (cnt d σ)).sum := by
  unfold cnt
  rw [paths_succ h, List.length_cons, List.length_flatMap]
  have e : ∀ (l : List Int) (m : List Nat), m.length = l.length → ((l.zip m).map fun p => ((paths d σ p.2).map (p.1 :: ·)).length).sum = (m.map fun c => (paths d σ c).length).sum := by
    intro l
    induction l with
    | nil => intro m hm; cases m with
      | nil => simp
      | cons _ _ => simp at hm
    | cons r l ih => intro m hm; cases m with
      | nil => simp at hm
      | cons c m =>
        simp only [List.zip_cons_cons, List.map_cons, List.sum_cons, List.length_map]
        have := ih m (by simpa using hm)
        simp only [List.length_map] at this
        rw [this]
  rw [e _ _ hok.same]
  omega
theorem cnt_pos (d : Nat) (σ : Store) (b : Nat) : 1 ≤ cnt d σ b := by
  unfold cnt
  cases d with
  | zero => simp [paths]
  | succ d => simp [paths]

set_option maxHeartbeats 4000000 in
set_option maxRecDepth 100000 in
theorem count_step (d : Nat) (σ : Store) (b : Nat) (β N : Nat) (w : World) (x : Node) (T : Nat) (hx : NodeAt w β b x) (hT : T = 1 + (x.below.map (cnt d σ)).sum) (hT2 : T ≤ 1000000)
    (hk : ∀ c ∈ x.below, Calls Try.prog 48 #[enP c] w fun e w' => e = .returned (.int .i64 (cnt d σ c)) ∧ w = w') :
    Calls Try.prog 48 #[enP b] w fun e w' => e = .returned (.int .i64 T) ∧ w = w' := by
  obtain ⟨bo, bcap, hbv⟩ := row_form hx.br
  obtain ⟨_, hba⟩ := row_at hx.br hbv
  have hc1 := hx.c1
  rw [hbv] at hc1
  have HBA := Lib.hid hba
  have HK := Lib.hid hk
  have HT := Lib.hid hT
  obtain ⟨n, hn⟩ : ∃ n, n = x.below.length := ⟨_, rfl⟩
  rw [← hn] at hc1
  have HN := Lib.hid hn
  have hnb : n ≤ T := by
    rw [hT, hn]
    have : ∀ l : List Nat, l.length ≤ (l.map (cnt d σ)).sum := by
      intro l
      induction l with
      | nil => simp
      | cons a l ih => have := cnt_pos d σ a; simp; omega
    have := this x.below
    omega
  clear hba hbv hk hT hx hn
  go_enter Try.func48, Try.ntmps48
  go_wp2_with fail
  go_loop [3, 11] (fun av iv => ∃ (i a : Nat), iv = .int .i64 i ∧ av = .int .i64 a ∧ i ≤ n ∧ a ≤ T ∧ Hid (a + ((x.below.drop i).map (cnt d σ)).sum = T)) (fun _ iv => n - (intOf iv).toNat)
  case atStart => exact ⟨0, 1, rfl, rfl, by omega, by have := HT.out; omega, Lib.hid (by simpa using HT.out.symm)⟩
  case round =>
    obtain ⟨i, a, rfl, rfl, hin, haT, hs⟩ := hrel
    by_cases hlt : i < n
    · have hil : i < x.below.length := by have := HN.out; omega
      obtain ⟨c, hc⟩ : ∃ c, x.below[i]? = some c := ⟨_, List.getElem?_eq_getElem hil⟩
      obtain ⟨bb, boff, rfl, hcell⟩ := HBA.out i (enP c) (by rw [List.getElem?_map, hc]; rfl)
      have hkc := HK.out c (List.mem_of_getElem? hc)
      have hs' : a + cnt d σ c + ((x.below.drop (i + 1)).map (cnt d σ)).sum = T := by
        have h := hs.out
        rw [List.drop_eq_getElem_cons hil, List.map_cons, List.sum_cons] at h
        have e : x.below[i] = c := (List.getElem?_eq_some_iff.1 hc).2
        rw [e] at h; omega
      obtain ⟨q, hq⟩ : ∃ q, q = cnt d σ c := ⟨_, rfl⟩
      rw [← hq] at hkc hs'
      have HS := Lib.hid hs'
      have HKC := Lib.hid hkc
      have hw : IntKind.i64.wrap ((a : Int) + (q : Int)) = (a : Int) + (q : Int) := IntWalk.i64_in _ (by omega)
      clear hs' hkc hc hq hil
      go_wp2_with fail
      refine HKC.out.mono ?_
      rintro e w1 ⟨rfl, rfl⟩
      go_wp2_with fail
      go_round
      case rel => exact ⟨i + 1, a + q, by go_num, by go_num, by omega, by have := HS.out; omega, HS⟩
      case measure => simp [intOf]; omega
    · obtain rfl : i = n := by omega
      have he : a = T := by have h := hs.out; rw [List.drop_of_length_le (by have := HN.out; omega)] at h; simpa using h
      have HE := Lib.hid he
      clear he
      go_wp2_with fail
      go_ret
      exact ⟨ret_int (by rw [HE.out]), rfl⟩

theorem count_any : ∀ (d : Nat) (σ : Store) (b : Nat) (D : Dict) (β : Nat) (w : World), Heap w β σ → Rep d σ b D → cnt d σ b ≤ 1000000 →
    Calls Try.prog 48 #[enP b] w fun e w' => e = .returned (.int .i64 (cnt d σ b)) ∧ w = w'
  | 0, σ, b, D, β, w, H, h, hc => by
    obtain ⟨x, h1, h2, h3, h4, h5⟩ := h
    have hb : x.below = [] := List.length_eq_zero_iff.1 (by rw [h2.same, h4]; rfl)
    exact count_step 0 σ b β 0 w x _ (H.at_ b x h1) (by rw [hb]; simp [cnt, paths]) hc (by rw [hb]; simp)
  | d + 1, σ, b, D, β, w, H, h, hc => by
    obtain ⟨x, h1, h2, h3, h4, h5⟩ := h
    have e := cnt_succ (d := d) h1 h2
    refine count_step d σ b β 0 w x _ (H.at_ b x h1) e hc fun c hm => ?_
    obtain ⟨i, hi⟩ := List.getElem?_of_mem hm
    obtain ⟨r, hr⟩ := h2.rune_at hi
    refine count_any d σ c (sub D r) β w H (h5 i r c hr hi) ?_
    have : cnt d σ c ≤ (x.below.map (cnt d σ)).sum := by
      have hg : ∀ l : List Nat, c ∈ l → cnt d σ c ≤ (l.map (cnt d σ)).sum := by
        intro l
        induction l with
        | nil => intro h; cases h
        | cons a l ih =>
          intro h
          rcases List.mem_cons.1 h with rfl | h
          · simp
          · have := ih h; simp; omega
      exact hg _ hm
    omega

theorem nodes_any (t d β N : Nat) (σ : Store) (D : Dict) (many : Int) (w : World) (H : Says w β t d N σ D many) (l : List Tx) (hl : ∀ k, D k ≠ none ↔ k ∈ l) (hb : nodesF l ≤ 1000000) :
    Calls Try.prog 10 #[enP t] w fun e w' => e = .returned (.int .i64 (nodesF l)) ∧ w = w' := by
  have e := H.rep.cnt l hl
  have hc := count_any d σ t D β w H.at_.heap H.rep (by rw [e]; exact hb)
  rw [e] at hc
  have HC := Lib.hid hc
  clear hc e H hl hb
  go_enter Try.func10, Try.ntmps10
  go_wp2_with fail
  refine HC.out.mono ?_
  rintro e w1 ⟨rfl, rfl⟩
  go_wp2_with fail
  go_ret
  exact ⟨rfl, rfl⟩
end Go.Proofs.Ytehoanpjlinfaaa.Tri
