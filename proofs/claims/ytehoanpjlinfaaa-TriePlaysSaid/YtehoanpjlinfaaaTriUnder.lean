/- The trie's walks: walk, at any node; Under, an iterator. -/
import Derived.Test.YtehoanpjlinfaaaTriIter
import Derived.Test.YtehoanpjlinfaaaTriCmp
namespace Go.Proofs.Ytehoanpjlinfaaa.Tri
open Go.RowKit Go.Shelf

attribute [local go_sem] Oper.semAt_some

theorem walk_any (lp n₀ β T : Nat) (σ : Store) (J Jx : Its → World → Prop) (hS : ∀ b x, σ b = some x → x.runes.length ≤ 100000)
    (hY : ∀ m pre x W, J pre W → pre.length < T → YieldAt Fence.wide m Try.prog lp (yArgs x) W fun e W' =>
      (e = .returned (.bool true) ∧ J (pre ++ [x]) W' ∧ Below n₀ W W') ∨ (e = .returned (.bool false) ∧ Jx (pre ++ [x]) W')) :
    ∀ (d n b : Nat) (D : Dict) (ahead : Tx) (pre : Its) (W : World), TrieFor n₀ β σ W → Rep d σ b D → J pre W → pre.length + (enum d σ b ahead).length ≤ T → ahead.length + d ≤ 1000000 →
      CallsIn Fence.wide n Try.prog 92 #[enP b, .string (encs ahead), .func (.yield lp) #[] #[]] W (WalkPost J Jx n₀ W pre (enum d σ b ahead))
  | 0, n, b, D, ahead, pre, W, HT, h, hJ, hL, ha => by
    obtain ⟨x, h1, h2, h3, h4, h5⟩ := h
    have hr : x.runes = [] := h4
    exact walk_step lp n₀ β T n σ J Jx hY b x h1 ahead pre _ W (fun _ => []) HT hJ (by simp [Tri.enum, h1, hr]) hL (by omega) (by rw [hr]; simp) (by rw [hr]; simp)
  | d + 1, n, b, D, ahead, pre, W, HT, h, hJ, hL, ha => by
    obtain ⟨x, h1, h2, h3, h4, h5⟩ := h
    refine walk_step lp n₀ β T n σ J Jx hY b x h1 ahead pre _ W (fun p => Tri.enum d σ p.2 (ahead ++ [p.1])) HT hJ (enum_succ h1 ahead) hL (by omega) (hS b x h1) fun r c hm m pre' W' HT' hJ' hL' => ?_
    obtain ⟨i, hi, hc⟩ := (mem_zip h2).1 hm
    exact walk_any lp n₀ β T σ J Jx hS hY d m c (sub D r) (ahead ++ [r]) pre' W' HT' (h5 i r c hi hc) hJ' hL' (by simp; omega)

/-- The node of a text, and what there is behind it. -/
theorem under_at {d : Nat} {σ : Store} {t : Nat} {D : Dict} {l : Its} (h : Rep d σ t D) (hl : RowIs D l) (s : Tx) :
    (match findF σ t s with
      | some c => ∃ e, e ≤ d ∧ (∃ E, Rep e σ c E) ∧ Tri.enum e σ c s = l.filter fun p => begins p.1 s
      | none => (l.filter fun p => begins p.1 s) = []) := by
  have key : ∀ {s' : Tx} {d : Nat} {b : Nat} {E : Dict}, Rep d σ b E → (match findF σ b s' with
      | some c => ∃ e, e ≤ d ∧ ∃ E', Rep e σ c E' ∧ ∀ k, E' k = E (s' ++ k)
      | none => ∀ k, E (s' ++ k) = none) := by
    intro s'
    induction s' with
    | nil => intro d b E h; exact ⟨d, Nat.le_refl _, E, h, fun k => rfl⟩
    | cons r s' ih =>
      intro d b E h
      obtain ⟨x, h1, h2, h3⟩ := h.at
      cases hc : x.to r with
      | none =>
        rw [show findF σ b (r :: s') = none by simp [findF, h1, hc]]
        exact fun k => h.none_at h1 ((h2.to_none r).1 hc) (s' ++ k)
      | some c =>
        obtain ⟨e, rfl, hr⟩ := h.step h1 hc
        have := ih hr
        rw [show findF σ b (r :: s') = findF σ c s' by simp [findF, h1, hc]]
        cases hf : findF σ c s' with
        | none => rw [hf] at this; exact this
        | some c' =>
          rw [hf] at this
          obtain ⟨e', he, E', k1, k2⟩ := this
          exact ⟨e', by omega, E', k1, k2⟩
  have hk := key (s' := s) h
  cases hf : findF σ t s with
  | none =>
    rw [hf] at hk
    show l.filter _ = []
    rw [List.filter_eq_nil_iff]
    intro p hp hb
    obtain ⟨k, e⟩ := (begins_iff p.1 s).1 hb
    have h1 := (hl.iff p.1 p.2).2 hp
    rw [e, hk k] at h1
    cases h1
  | some c =>
    rw [hf] at hk
    obtain ⟨e, he, E', k1, k2⟩ := hk
    refine ⟨e, he, ⟨E', k1⟩, rising_unique (k1.enum_rise s) (hl.rise.sublist List.filter_sublist) fun p => ?_⟩
    rw [k1.enum, List.mem_filter]
    constructor
    · rintro ⟨k, e1, e2⟩
      rw [k2] at e2
      exact ⟨(hl.iff p.1 p.2).1 (by rw [e1]; exact e2), (begins_iff _ _).2 ⟨k, e1⟩⟩
    · rintro ⟨h1, h2⟩
      obtain ⟨k, e1⟩ := (begins_iff _ _).1 h2
      exact ⟨k, e1, by rw [k2, ← e1]; exact (hl.iff p.1 p.2).2 h1⟩

theorem lt_cell {w : World} {b o : Nat} {v : Value} (h : w.cell? ⟨b, o, none⟩ = some v) : b < w.heap.size := by
  by_cases hb : b < w.heap.size
  · exact hb
  · rw [World.cell?, Array.getElem?_eq_none (Nat.le_of_not_lt hb)] at h; cases h
/-- Runes, as a string. -/
theorem run_encs {w : World} {v : Value} {l : Tx} (h : RRow w v l) : (convert 24 9 v).run Try.prog w = .ok (.string (encs l)) w := by
  obtain ⟨ao, cap, rfl, -, -⟩ := h.form
  cases ao with
  | none =>
    have hl : l = [] := by
      cases l with
      | nil => rfl
      | cons x l => obtain ⟨b, off, e, _⟩ := rune_at (k := 0) h rfl; cases e
    subst hl
    exact run_convert_runes_nil w _ _ _ _ _ Try.underlying24 Try.underlying21 Try.underlying9
  | some a =>
    have := run_convert_runes w 24 9 21 a l.length cap l (Nat.le_refl _) Try.underlying24 Try.underlying21 Try.underlying9 fun j hj => by
      obtain ⟨b, off, e, _, hc⟩ := rune_at (k := j) h (List.getElem?_eq_getElem hj)
      cases e
      rw [List.getD_eq_getElem?_getD, List.getElem?_eq_getElem hj]
      rw [show (⟨b, off, none⟩ : Addr).add j = ⟨b, off + j, none⟩ by unfold Addr.add; split <;> simp_all]
      exact hc
    rw [List.take_length] at this
    exact this

set_option maxHeartbeats 1000000 in
theorem under_in (n : Nat) (t : Nat) (s : ByteArray) (w : World) :
    CallsIn Fence.wide n Try.prog 50 #[enP t, .string s] w fun e w' =>
      e = .returned (.func (.func 91) #[] #[.pointer (some ⟨w.heap.size, 0, none⟩), .pointer (some ⟨w.heap.size + 1, 0, none⟩)]) ∧
      w' = (w.alloc (.cells #[enP t] 23)).alloc (.cells #[.string s] 9) := by
  refine callsIn_of_wp Try.func50 rfl trivial ?_ rfl
  simp only [Try.ntmps50, List.size_toArray, List.length_cons, List.length_nil, Nat.reduceAdd, Nat.reduceSub, Array.replicate_succ, Array.replicate_zero, List.push_toArray, List.append_toArray, List.nil_append, List.cons_append]
  gi_wp2
  go_ret
  exact ⟨rfl, rfl⟩

set_option maxRecDepth 100000 in
set_option maxHeartbeats 4000000 in
theorem under1_in (lp n₀ β n B0 B1 t N d : Nat) (σ : Store) (D : Dict) (l : Its) (s : ByteArray) (J Jx : Its → World → Prop) (R : Its) (hR : R = l.filter fun p => begins p.1 (runesOf s))
    (hY : ∀ m pre x W, J pre W → pre.length < R.length → YieldAt Fence.wide m Try.prog lp (yArgs x) W fun e W' =>
      (e = .returned (.bool true) ∧ J (pre ++ [x]) W' ∧ Below n₀ W W') ∨ (e = .returned (.bool false) ∧ Jx (pre ++ [x]) W'))
    (W : World) (HT : TrieFor n₀ β σ W) (hrep : Rep d σ t D) (hl : RowIs D l) (hS : Slim σ N) (hN : N ≤ 99999) (hd : d ≤ 900000) (hz : s.size ≤ 50) (hn₀ : n₀ ≤ W.heap.size)
    (hJab : AbidesFrom W.heap.size J) (c0 : W.cell? ⟨B0, 0, none⟩ = some (enP t)) (c1 : W.cell? ⟨B1, 0, none⟩ = some (.string s)) (hJ0 : J [] W) :
    CallsIn Fence.wide n Try.prog 91 #[.func (.yield lp) #[] #[], .pointer (some ⟨B0, 0, none⟩), .pointer (some ⟨B1, 0, none⟩)] W fun e W' => (∃ v, e = .returned v) ∧
      ((∃ ys, ys = R ∧ J ys W') ∨ (∃ pre, pre <+: R ∧ Jx pre W')) := by
  have hu := under_at hrep hl (runesOf s)
  have hdom : σ t ≠ none := by obtain ⟨x, hx, _⟩ := hrep.at; rw [hx]; simp
  have hfind := find_any t s β N σ W HT.heap hdom hS hN
  have hc1lt : B1 < W.heap.size := lt_cell c1
  have HF := Lib.hid hfind
  have HTR := Lib.hid HT
  have HAB := Lib.hid hJab
  have HJ0 := Lib.hid hJ0
  have hl50 : (runesOf s).length ≤ 50 := by have := runesOf_len s; omega
  clear hfind HT hJab hJ0
  refine callsIn_of_wp Try.func91 rfl trivial ?_ rfl
  simp only [Try.ntmps91, List.size_toArray, List.length_cons, List.length_nil, Nat.reduceAdd, Nat.reduceSub, Array.replicate_succ, Array.replicate_zero, List.push_toArray, List.append_toArray, List.nil_append, List.cons_append]
  cases hfc : findF σ t (runesOf s) with
  | none =>
    rw [hfc] at HF hu
    have HU := Lib.hid (show R = [] from hR.trans hu)
    clear hu hfc hR hY
    gi_wp2_with (refine ⟨trivial, fun h => (by cases h), ?_⟩; gi_at_call 88; refine (callsIn_wide.2 HF.out).mono ?_; rintro e w' ⟨rfl, hb⟩; have HB := Lib.hid hb; clear hb; unfold ptr)
    go_end0
    exact ⟨⟨_, rfl⟩, .inl ⟨[], HU.out.symm, abides_below HAB.out HJ0.out HB.out⟩⟩
  | some c =>
    rw [hfc] at HF hu
    obtain ⟨e, he, ⟨E, hE⟩, hen⟩ := hu
    rw [← hR] at hen
    obtain ⟨G, C, hcv, hG, hC⟩ := runes_row (P := Try.prog) 9 24 21 s Try.underlying9 Try.underlying24 Try.underlying21 (by omega)
    have hcv2 : ∀ W2 : World, (convert 24 9 (.slice (some ⟨W2.heap.size, 0, none⟩) (runesOf s).length (G W2))).run Try.prog ((W2.alloc (.cells (C W2) 21)).drew) = .ok (.string (encs (runesOf s))) ((W2.alloc (.cells (C W2) 21)).drew) := fun W2 => by
      refine run_encs ⟨_, _, rfl, (hG _).1, (hG _).2.1, Or.inr ⟨_, 0, rfl, by simp, fun i x hi j hj => ?_⟩⟩
      obtain rfl : j = 0 := by omega
      have rb0 : ((W2.alloc (.cells (C W2) 21)).drew).heap[W2.heap.size]? = some (.cells (C W2) 21 (0, 0)) := by show (W2.heap.push _)[W2.heap.size]? = _; simp
      rw [cells_block rb0, Nat.zero_add, Nat.mul_one, Nat.add_zero]
      exact hC _ i x hi
    have hwk := fun W2 h1 h2 => walk_any lp n₀ β R.length σ J Jx (fun b x hx => Nat.le_trans (hS b x hx) (by omega)) hY e (n - 1) c E (runesOf s) [] W2 h1 hE h2 (by rw [hen]; simp) (by omega)
    rw [hen] at hwk
    have HWK := Lib.hid hwk
    have HEN := Lib.hid hen
    obtain ⟨rl, hrl⟩ : ∃ rl, rl = (runesOf s).length := ⟨_, rfl⟩
    rw [← hrl] at hcv hcv2
    obtain ⟨es, hes⟩ : ∃ es, es = encs (runesOf s) := ⟨_, rfl⟩
    rw [← hes] at hcv2 HWK
    have HRE := Lib.hid (And.intro hrl hes)
    clear hG hC hwk hen hR hY hfc hE hrl hes
    gi_wp2_with (first
      | (refine ⟨trivial, fun h => (by cases h), ?_⟩; gi_at_call 88; refine (callsIn_wide.2 HF.out).mono ?_; rintro e w1 ⟨rfl, hb⟩; have HB := Lib.hid hb; have g1 := (hb.cell (p := ⟨B1, 0, none⟩) hc1lt).trans c1; clear hb; unfold ptr)
      | (refine ⟨trivial, fun h => (by cases h), ?_⟩; gi_at_call 92; have hb2 := HB.out.trans ((((Below.refl _ _).alloc (Nat.le_refl _) (.cells (C w1) 21)).drew).mono HB.out.size); refine (HWK.out _ (HTR.out.below (hb2.mono hn₀)) (abides_below HAB.out HJ0.out hb2)).mono ?_; rintro e W3 (⟨rfl, hJ3, hb3⟩ | ⟨rfl, q, hq, hJx3⟩)))
    · go_end0
      exact ⟨⟨_, rfl⟩, .inl ⟨_, rfl, by simpa using hJ3⟩⟩
    · go_end0
      exact ⟨⟨_, rfl⟩, .inr ⟨_, hq, by simpa using hJx3⟩⟩
end Go.Proofs.Ytehoanpjlinfaaa.Tri
