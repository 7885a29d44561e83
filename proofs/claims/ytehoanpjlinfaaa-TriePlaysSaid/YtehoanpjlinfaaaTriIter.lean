/- The trie's walks: walk, an iterator's. -/
import Derived.Test.YtehoanpjlinfaaaRange
import Derived.Test.YtehoanpjlinfaaaTriLong
import Derived.Test.YtehoanpjlinfaaaTriOrd
namespace Go.Proofs.Ytehoanpjlinfaaa.Tri
open Go.RowKit Go.Shelf

attribute [local go_sem] Oper.semAt_some

/-- Where no depth is asked the figures are all one. -/
theorem round_any {m m' : Nat} {P : Program} {l : Nat} {f : FuncId} {tmps : Array Value} {assign body : Code} {w : World} {R : Ending → World → Prop}
    (h : RoundIn Fence.wide m P l f tmps assign body w R) : RoundIn Fence.wide m' P l f tmps assign body w R := ⟨h.1, fun c cs _ => h.2 c cs (fun d h => by cases h)⟩
theorem yield_any {m : Nat} (m' : Nat) {P : Program} {l : Nat} {args : Array Value} {W : World} {R : Ending → World → Prop} (h : YieldAt Fence.wide m P l args W R) : YieldAt Fence.wide m' P l args W R := by
  obtain ⟨fn, tmps, assign, body, hy, hR⟩ := h
  exact ⟨fn, tmps, assign, body, hy, round_any hR⟩

/-- A trie, in blocks below a bar. -/
structure TrieFor (n₀ β : Nat) (σ : Store) (W : World) : Prop where
  heap : Heap W β σ
  under : ∀ i, Uses σ i → i < n₀
theorem TrieFor.below {n₀ β : Nat} {σ : Store} {W W' : World} (h : TrieFor n₀ β σ W) (hb : Below n₀ W W') : TrieFor n₀ β σ W' := ⟨h.heap.same fun i hi => hb.block i (h.under i hi), h.under⟩

abbrev yArgs (x : Tx × Int) : Array Value := #[.string (encs x.1), .int .i64 x.2]
def WalkPost (J Jx : Its → World → Prop) (n₀ : Nat) (W : World) (pre L : Its) (e : Ending) (W' : World) : Prop :=
  (e = .returned (.bool true) ∧ J (pre ++ L) W' ∧ Below n₀ W W') ∨ (e = .returned (.bool false) ∧ ∃ q, q <+: L ∧ Jx (pre ++ q) W')

theorem zip_at {l : List Int} {m : List Nat} {i : Nat} {r : Int} {c : Nat} (h1 : l[i]? = some r) (h2 : m[i]? = some c) : (l.zip m)[i]? = some (r, c) := by
  simp [List.getElem?_zip_eq_some, h1, h2]
theorem flat_snoc {α γ : Type} (f : α → List γ) (l : List α) (i : Nat) (x : α) (h : l[i]? = some x) : (l.take (i + 1)).flatMap f = (l.take i).flatMap f ++ f x := by
  rw [List.take_add_one, h]; simp
theorem flat_le {α γ : Type} (f : α → List γ) (l : List α) (i : Nat) : ((l.take i).flatMap f) <+: l.flatMap f := by
  conv => rhs; rw [← List.take_append_drop i l, List.flatMap_append]
  exact List.prefix_append _ _

set_option maxRecDepth 100000 in
set_option maxHeartbeats 4000000 in
theorem walk_step (lp n₀ β T n : Nat) (σ : Store) (J Jx : Its → World → Prop)
    (hY : ∀ m pre x W, J pre W → pre.length < T → YieldAt Fence.wide m Try.prog lp (yArgs x) W fun e W' =>
      (e = .returned (.bool true) ∧ J (pre ++ [x]) W' ∧ Below n₀ W W') ∨ (e = .returned (.bool false) ∧ Jx (pre ++ [x]) W'))
    (b : Nat) (x : Node) (hx : σ b = some x) (ahead : Tx) (pre L : Its) (W : World) (kid : Int × Nat → Its) (HT : TrieFor n₀ β σ W) (hJ : J pre W)
    (hL : L = (if x.is then [(ahead, x.n)] else []) ++ (x.runes.zip x.below).flatMap kid) (hLT : pre.length + L.length ≤ T) (ha : ahead.length ≤ 1000000) (hsl : x.runes.length ≤ 100000)
    (hk : ∀ r c, (r, c) ∈ x.runes.zip x.below → ∀ m pre' W', TrieFor n₀ β σ W' → J pre' W' → pre'.length + (kid (r, c)).length ≤ T →
      CallsIn Fence.wide m Try.prog 92 #[enP c, .string (encs (ahead ++ [r])), .func (.yield lp) #[] #[]] W' (WalkPost J Jx n₀ W' pre' (kid (r, c)))) :
    CallsIn Fence.wide n Try.prog 92 #[enP b, .string (encs ahead), .func (.yield lp) #[] #[]] W (WalkPost J Jx n₀ W pre L) := by
  have hxn := HT.heap.at_ b x hx
  obtain ⟨ro, rcap, hrv⟩ := row_form hxn.rr
  obtain ⟨bo, bcap, hbv⟩ := row_form hxn.br
  obtain ⟨N, hN⟩ : ∃ N, N = x.runes.length := ⟨_, rfl⟩
  have hNb : x.below.length = N := by rw [hN]; exact hxn.ok.same
  rw [← hN] at hrv hsl
  rw [hNb] at hbv
  -- WHAT ONE FINDS AT ANY TIME
  have hat : ∀ W', Below n₀ W W' → W'.cell? ⟨b, 0, none⟩ = some (.slice ro N rcap) ∧ W'.cell? ⟨b, 1, none⟩ = some (.slice bo N bcap) ∧ W'.cell? ⟨b, 2, none⟩ = some (.int .i64 x.n) ∧ W'.cell? ⟨b, 3, none⟩ = some (.bool x.is) ∧
      (∀ i r, x.runes[i]? = some r → ∃ rb roff, ro = some ⟨rb, roff, none⟩ ∧ W'.cell? ⟨rb, roff + i, none⟩ = some (.int .i32 r)) ∧
      (∀ i c, x.below[i]? = some c → ∃ bb boff, bo = some ⟨bb, boff, none⟩ ∧ W'.cell? ⟨bb, boff + i, none⟩ = some (enP c)) := fun W' hb' => by
    have hn' := (HT.below hb').heap.at_ b x hx
    obtain ⟨_, hra⟩ := row_at hn'.rr hrv
    obtain ⟨_, hba⟩ := row_at hn'.br hbv
    refine ⟨by rw [← hrv]; exact hn'.c0, by rw [← hbv]; exact hn'.c1, hn'.c2, hn'.c3, fun i r hi => hra i (enR r) (by rw [List.getElem?_map, hi]; rfl), fun i c hi => hba i (enP c) (by rw [List.getElem?_map, hi]; rfl)⟩
  have HAT := Lib.hid hat
  have HK := Lib.hid hk
  have HTR := Lib.hid HT
  have HN := Lib.hid (And.intro hN hNb)
  clear hat hk HT hxn hrv hbv hN hNb hx
  obtain ⟨c0, c1, c2, c3, -⟩ := HAT.out W (Below.refl _ _)
  have hY0 := hY (n - 1) pre (ahead, x.n) W hJ
  refine callsIn_of_wp Try.func92 rfl trivial ?_ rfl
  simp only [Try.ntmps92, List.size_toArray, List.length_cons, List.length_nil, Nat.reduceAdd, Nat.reduceSub, Array.replicate_succ, Array.replicate_zero, List.push_toArray, List.append_toArray, List.nil_append, List.cons_append]
  cases hxi : x.is
  · rw [hxi] at c3 hL
    simp only [Bool.false_eq_true, if_false, List.nil_append] at hL
    have HL := Lib.hid hL
    have HJ := Lib.hid hJ
    clear hxi hL hY0
    gi_wp2
    refine ⟨fun _ h => (by cases h), ?_⟩
    gi_wp2
    gi_loopw [28] (fun iv wr => ∃ i : Nat, iv = .int .i64 i ∧ i ≤ N ∧ Hid (J (pre ++ ((x.runes.zip x.below).take i).flatMap kid) wr) ∧ Hid (Below n₀ W wr)) (fun iv _ => N - (intOf iv).toNat)
    case atStart => exact ⟨0, rfl, by omega, Lib.hid (by simpa using HJ.out), Lib.hid (Below.refl _ _)⟩
    case round =>
      obtain ⟨i, rfl, hin, hJi, hBi⟩ := hrel
      obtain ⟨d0, d1, -, -, drs, dbs⟩ := HAT.out wr hBi.out
      by_cases hlt : i < N
      · have hi1 : i < x.runes.length := by have := HN.out.1; omega
        have hi2 : i < x.below.length := by have := HN.out.2; omega
        obtain ⟨r, hr⟩ : ∃ r, x.runes[i]? = some r := ⟨_, List.getElem?_eq_getElem hi1⟩
        obtain ⟨c, hc⟩ : ∃ c, x.below[i]? = some c := ⟨_, List.getElem?_eq_getElem hi2⟩
        have hz := zip_at hr hc
        obtain ⟨rb, roff, rfl, hrc⟩ := drs i r hr
        obtain ⟨bb, boff, rfl, hbc⟩ := dbs i c hc
        have hsn := flat_snoc kid _ i _ hz
        have hpre := flat_le kid (x.runes.zip x.below) (i + 1)
        have hle := hpre.length_le
        rw [hsn, List.length_append] at hle
        have HSN := Lib.hid hsn
        have HPRE := Lib.hid hpre
        have hkc := HK.out r c (List.mem_of_getElem? hz) (n - 1) _ wr (HTR.out.below hBi.out) hJi.out (by rw [HL.out] at hLT; simp only [List.length_append] at hLT ⊢; omega)
        have HKC := Lib.hid hkc
        have hcv := run_enc1 r
        obtain ⟨es, hes⟩ : ∃ es, es = enc1 r := ⟨_, rfl⟩
        have hno : ¬ (9223372036854775807 < (encs ahead).size + es.size) := by
          have h1 := encs_size ahead
          have h2 : es.size ≤ 4 := by rw [hes]; exact encode_size_le _
          omega
        rw [← hes] at hcv
        have HEN := Lib.hid (show encs ahead ++ es = encs (ahead ++ [r]) by rw [encs_snoc, hes])
        clear hkc hes hsn hpre hz hr hc drs dbs hi1 hi2 hle
        gi_wp2_with (refine ⟨trivial, fun h => (by cases h), ?_⟩; rw [HEN.out]; gi_at_call 92; refine HKC.out.mono ?_; rintro e W3 (⟨rfl, hJ3, hb3⟩ | ⟨rfl, q, hq, hJx3⟩))
        · have HJ3 := Lib.hid hJ3
          have HB3 := Lib.hid hb3
          clear hJ3 hb3
          gi_wp2
          go_roundw
          case rel => exact ⟨i + 1, by go_num, by omega, Lib.hid (by rw [HSN.out, ← List.append_assoc]; exact HJ3.out), Lib.hid (hBi.out.trans HB3.out)⟩
          case measure => simp [intOf]; omega
        · gi_wp2
          refine bodyPost_ret (results_tmp rfl _ _ _) rfl ?_
          refine .inr ⟨rfl,  ((x.runes.zip x.below).take i).flatMap kid ++ q, ?_, by simpa [List.append_assoc] using hJx3⟩
          obtain ⟨q2, rfl'⟩ := hq
          rw [HL.out]
          refine  List.IsPrefix.trans ?_ HPRE.out
          rw [HSN.out]
          exact (List.prefix_append_right_inj _).2 ⟨q2, rfl'⟩
      · obtain rfl : i = N := by omega
        have he : (x.runes.zip x.below).take i = x.runes.zip x.below := List.take_of_length_le (by rw [List.length_zip, HN.out.2, ← HN.out.1]; omega)
        have HE := Lib.hid he
        clear he
        gi_wp2
        go_ret
        exact .inl ⟨rfl, by rw [HL.out]; have := hJi.out; rw [HE.out] at this; exact this, hBi.out⟩
  · rw [hxi] at c3 hL
    simp only [if_true, List.singleton_append] at hL
    have hY1 := hY0 (by rw [hL] at hLT; simp at hLT; omega)
    have HL := Lib.hid hL
    clear hxi hL hY0 hJ
    obtain ⟨fn, tmps, assign, body, hy, hR⟩ := hY1
    dsimp only [yArgs] at hy
    gi_wp2
    refine ⟨fun h => (by cases h), ?_⟩
    refine hR.mono ?_
    clear hR
    rintro e W2 (⟨rfl, hJ2, hb2⟩ | ⟨rfl, hx2⟩)
    · obtain ⟨c0', c1', -, -, -⟩ := HAT.out W2 hb2
      have HJ := Lib.hid hJ2
      have HB2 := Lib.hid hb2
      clear hJ2 hb2
      gi_wp2
      gi_loopw [28] (fun iv wr => ∃ i : Nat, iv = .int .i64 i ∧ i ≤ N ∧ Hid (J (pre ++ [(ahead, x.n)] ++ ((x.runes.zip x.below).take i).flatMap kid) wr) ∧ Hid (Below n₀ W wr)) (fun iv _ => N - (intOf iv).toNat)
      case atStart => exact ⟨0, rfl, by omega, Lib.hid (by simpa using HJ.out), HB2⟩
      case round =>
        obtain ⟨i, rfl, hin, hJi, hBi⟩ := hrel
        obtain ⟨d0, d1, -, -, drs, dbs⟩ := HAT.out wr hBi.out
        by_cases hlt : i < N
        · have hi1 : i < x.runes.length := by have := HN.out.1; omega
          have hi2 : i < x.below.length := by have := HN.out.2; omega
          obtain ⟨r, hr⟩ : ∃ r, x.runes[i]? = some r := ⟨_, List.getElem?_eq_getElem hi1⟩
          obtain ⟨c, hc⟩ : ∃ c, x.below[i]? = some c := ⟨_, List.getElem?_eq_getElem hi2⟩
          have hz := zip_at hr hc
          obtain ⟨rb, roff, rfl, hrc⟩ := drs i r hr
          obtain ⟨bb, boff, rfl, hbc⟩ := dbs i c hc
          have hsn := flat_snoc kid _ i _ hz
          have hpre := flat_le kid (x.runes.zip x.below) (i + 1)
          have hle := hpre.length_le
          rw [hsn, List.length_append] at hle
          have HSN := Lib.hid hsn
          have HPRE := Lib.hid hpre
          have hkc := HK.out r c (List.mem_of_getElem? hz) (n - 1) _ wr (HTR.out.below hBi.out) hJi.out (by rw [HL.out] at hLT; simp only [List.length_append, List.length_cons, List.length_nil] at hLT ⊢; omega)
          have HKC := Lib.hid hkc
          have hcv := run_enc1 r
          obtain ⟨es, hes⟩ : ∃ es, es = enc1 r := ⟨_, rfl⟩
          have hno : ¬ (9223372036854775807 < (encs ahead).size + es.size) := by
            have h1 := encs_size ahead
            have h2 : es.size ≤ 4 := by rw [hes]; exact encode_size_le _
            omega
          rw [← hes] at hcv
          have HEN := Lib.hid (show encs ahead ++ es = encs (ahead ++ [r]) by rw [encs_snoc, hes])
          clear hkc hes hsn hpre hz hr hc drs dbs hi1 hi2 hle
          gi_wp2_with (refine ⟨trivial, fun h => (by cases h), ?_⟩; rw [HEN.out]; gi_at_call 92; refine HKC.out.mono ?_; rintro e W3 (⟨rfl, hJ3, hb3⟩ | ⟨rfl, q, hq, hJx3⟩))
          · have HJ3 := Lib.hid hJ3
            have HB3 := Lib.hid hb3
            clear hJ3 hb3
            gi_wp2
            go_roundw
            case rel => exact ⟨i + 1, by go_num, by omega, Lib.hid (by rw [HSN.out, ← List.append_assoc]; exact HJ3.out), Lib.hid (hBi.out.trans HB3.out)⟩
            case measure => simp [intOf]; omega
          · gi_wp2
            refine bodyPost_ret (results_tmp rfl _ _ _) rfl ?_
            refine .inr ⟨rfl, (ahead, x.n) :: ((x.runes.zip x.below).take i).flatMap kid ++ q, ?_, by simpa [List.append_assoc] using hJx3⟩
            obtain ⟨q2, rfl'⟩ := hq
            rw [HL.out]
            refine List.cons_prefix_cons.2 ⟨rfl, ?_⟩; refine List.IsPrefix.trans ?_ HPRE.out
            rw [HSN.out]
            exact (List.prefix_append_right_inj _).2 ⟨q2, rfl'⟩
        · obtain rfl : i = N := by omega
          have he : (x.runes.zip x.below).take i = x.runes.zip x.below := List.take_of_length_le (by rw [List.length_zip, HN.out.2, ← HN.out.1]; omega)
          have HE := Lib.hid he
          clear he
          gi_wp2
          go_ret
          exact .inl ⟨rfl, by rw [HL.out]; have := hJi.out; rw [HE.out] at this; simpa [List.append_assoc] using this, hBi.out⟩
    · gi_wp2
      go_ret
      exact .inr ⟨rfl, [(ahead, x.n)], by rw [HL.out]; exact ⟨_, rfl⟩, hx2⟩
end Go.Proofs.Ytehoanpjlinfaaa.Tri
