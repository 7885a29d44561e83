/- The law's own row, with an item more, without one, with one turned. -/
import Derived.Test.YtehoanpjlinfaaaTriNodes
namespace Go.Proofs.Ytehoanpjlinfaaa.Tri
open Go.RowKit

theorem info_it : (Try.prog.info? 41).map (fun i => (i.zero, i.size, i.bytes)) = some (some (.agg #[.slice none 0 0, .int .i64 0]), 2, 32) := by kernel_rfl
theorem sv_one {ok : Nat → Prop} {w : World} {v : Value} {l : List RI} (h : Items ok w v l) {x : RI} (hx : x ∈ l) : x.sv.oneCell' = true := by
  obtain ⟨ao, cap, hv, _⟩ := (h.each x hx).row
  rw [hv]; rfl
theorem flat_len (l : List RI) : (l.flatMap RI.en).length = l.length * 2 := flatMap_len en_len l
theorem flat_one {ok : Nat → Prop} {w : World} {v : Value} {l : List RI} (h : Items ok w v l) (m : List RI) (hm : ∀ x ∈ m, x ∈ l) : ∀ u ∈ m.flatMap RI.en, u.oneCell' = true := fun u hu => by
  obtain ⟨x, hx, hu⟩ := List.mem_flatMap.1 hu
  have hu : u = x.sv ∨ u = .int .i64 x.n := by simpa [RI.en] using hu
  rcases hu with rfl | rfl
  · exact sv_one h (hm x hx)
  · rfl

/-- The cells of a part of a row. -/
theorem part_cells {ok : Nat → Prop} {w : World} {b off n cap : Nat} {l : List RI} (h : Items ok w (.slice (some ⟨b, off, none⟩) n cap) l) (k : Nat) : ∀ j u, ((l.drop k).flatMap RI.en)[j]? = some u → w.cell? ((⟨b, off + k * 2, none⟩ : Addr).add j) = some u := by
  intro j u hj
  have hlt : j < ((l.drop k).flatMap RI.en).length := (List.getElem?_eq_some_iff.1 hj).1
  rw [flat_len, List.length_drop] at hlt
  have hd : k + j / 2 < l.length := by omega
  obtain ⟨b', off', e, hb, hc⟩ := Lst.get h.row.row hd
  cases e
  have hm : j % 2 < 2 := Nat.mod_lt j (by decide)
  have h1 := hc (j % 2) hm
  have h2 := flatMap_get en_len (l.drop k) (j / 2) l[k + j / 2] (by rw [List.getElem?_drop]; exact List.getElem?_eq_getElem hd) (j % 2) hm
  rw [show j / 2 * 2 + j % 2 = j by omega, hj] at h2
  rw [addr_add, show off + k * 2 + j = off + (k + j / 2) * 2 + j % 2 by omega, h1, ← h2]
theorem take_cells {ok : Nat → Prop} {w : World} {b off n cap : Nat} {l : List RI} (h : Items ok w (.slice (some ⟨b, off, none⟩) n cap) l) (k : Nat) : ∀ j u, ((l.take k).flatMap RI.en)[j]? = some u → w.cell? ((⟨b, off, none⟩ : Addr).add j) = some u := by
  intro j u hj
  have := part_cells h 0 j u (by
    rw [List.drop_zero, ← List.take_append_drop k l, List.flatMap_append, List.getElem?_append_left (List.getElem?_eq_some_iff.1 hj).1]
    exact hj)
  simpa using this

/-- A row that the call has made, out of items that were there. -/
theorem items_made {base : Nat} {w w' : World} {ok : Nat → Prop} {v' : Value} {m : List RI} {e : TypeId} (hb : Below w.heap.size w w') (ho : w'.ownsRow base e 2 v' m.length (m.flatMap RI.en)) (hm : ∀ x ∈ m, At 1 enr ok w x.sv x.s) : Items (fun b => ok b ∨ base ≤ b) w' v' m :=
  ⟨⟨Lst.of_owns en_len (by decide) ho, fun b hb => Or.inr (Or.inr (ho.lt b hb).1)⟩, fun x hx => ((hm x hx).stay (Stay.below hb)).mono fun b _ hb => Or.inl hb, by
    rcases ho.2 with ⟨e, _⟩ | ⟨g, cap, cur, e, _⟩
    · exact Or.inl e
    · exact Or.inr ⟨g, 0, _, cap, e⟩⟩

/-- What is there behind: a row, and memory. -/
def RowPost (ok : Nat → Prop) (l : List RI) (w : World) (e : Ending) (w' : World) : Prop := ∃ v, e = .returned v ∧ Items (fun b => ok b ∨ w.heap.size ≤ b) w' v l ∧ Below w.heap.size w w'

theorem grown_below {β : Nat} {w1 w2 : World} {o : Obj} {v : Value} (h : ((w1.alloc o).drew).grownBy w2 v.ownBlock) (hv : ∀ g, v.ownBlock = some g → β ≤ g) (hβ : β ≤ w1.heap.size := by omega) : Below β w1 w2 :=
  ⟨h.os, h.tape, h.output, Nat.le_trans (by simp) h.size, fun k hk => (h.block k (by simp; omega) (fun e => by have := hv k e.symm; omega)).trans (Below.heap_alloc w1 o k (by omega))⟩

set_option maxHeartbeats 8000000 in
set_option maxRecDepth 100000 in
theorem with_any (ao : Option Addr) (ac i : Nat) (l : List RI) (x : RI) (ok : Nat → Prop) (w : World) (hl : Items ok w (.slice ao l.length ac) l) (hx : At 1 enr ok w x.sv x.s) (h1 : l.length ≤ 10000) (hi : i ≤ l.length) :
    Calls Try.prog 47 #[.slice ao l.length ac, .int .i64 i, .agg #[x.sv, .int .i64 x.n]] w (RowPost ok (l.take i ++ x :: l.drop i) w) := by
  obtain ⟨i0, hi0, hz0, hz1, hz2⟩ := info_parts info_it
  have hlc : l.length ≤ ac ∧ ac ≤ 9223372036854775807 := by
    obtain ⟨_, _, e, q, q2, _⟩ := hl.row.row
    cases e
    unfold maxLen at q2
    omega
  obtain ⟨xs, hxs⟩ : ∃ xs, xs = x.sv := ⟨_, rfl⟩
  have hxo : xs.oneCell' = true := by
    rw [hxs]
    obtain ⟨ao, cap, hv, _⟩ := hx.row
    rw [hv]; rfl
  have HL := Lib.hid hl
  have HX := Lib.hid hx
  have HXS := Lib.hid hxs
  have HXO := Lib.hid hxo
  obtain ⟨n, hn⟩ : ∃ n, n = l.length := ⟨_, rfl⟩
  rw [← hn] at HL h1 hi hlc ⊢
  rw [← hxs]
  have HN := Lib.hid hn
  obtain ⟨hlc1, hlc2⟩ := hlc
  have hT : (l.take i).length = i := by rw [List.length_take]; omega
  have hTf : ((l.take i).flatMap RI.en).length = i * 2 := by rw [flat_len, hT]
  have hD : (l.drop i).length = n - i := by rw [List.length_drop, hn]
  have hDf : ((l.drop i).flatMap RI.en).length = (n - i) * 2 := by rw [flat_len, hD]
  have hO1 := flat_one hl (l.take i) fun y hy => List.mem_of_mem_take hy
  have hO2 := flat_one hl (l.drop i) fun y hy => List.mem_of_mem_drop hy
  obtain ⟨A1, hA1⟩ : ∃ A1, A1 = (l.take i).flatMap RI.en := ⟨_, rfl⟩
  obtain ⟨A2, hA2⟩ : ∃ A2, A2 = (l.drop i).flatMap RI.en := ⟨_, rfl⟩
  have s1 : ∀ W : World, Below w.heap.size w W → i = 0 ∨ ∃ ad, ao = some ad ∧ ∀ j u, A1[j]? = some u → W.cell? (ad.add j) = some u := fun W hW => by
    by_cases h0 : i = 0
    · exact Or.inl h0
    · obtain ⟨b, off, hab, hblt, _⟩ := Lst.get hl.row.row (show 0 < l.length by omega)
      subst hab
      exact Or.inr ⟨_, rfl, fun j u hj => by
        have := take_cells hl i j u (by rw [← hA1]; exact hj)
        rw [addr_add] at this ⊢
        rw [hW.cell (p := ⟨b, off + j, none⟩) hblt]; exact this⟩
  have s2 : ∀ (W : World) (A : Option Addr), Below w.heap.size w W → (i < n → ∀ b off, ao = some ⟨b, off, none⟩ → A = some ⟨b, off + i * 2, none⟩) → n - i = 0 ∨ ∃ ad, A = some ad ∧ ∀ j u, A2[j]? = some u → W.cell? (ad.add j) = some u := fun W A hW hA => by
    by_cases h0 : n - i = 0
    · exact Or.inl h0
    · obtain ⟨b, off, hab, hblt, _⟩ := Lst.get hl.row.row (show 0 < l.length by omega)
      rw [hA (by omega) b off hab]
      subst hab
      exact Or.inr ⟨_, rfl, fun j u hj => by
        have := part_cells hl i j u (by rw [← hA2]; exact hj)
        rw [addr_add] at this ⊢
        rw [hW.cell (p := ⟨b, off + i * 2 + j, none⟩) hblt]; exact this⟩
  rw [← hA1] at hTf hO1
  rw [← hA2] at hDf hO2
  have S1 := Lib.hid s1
  have S2 := Lib.hid s2
  have TF := Lib.hid hTf
  have DF := Lib.hid hDf
  have O1 := Lib.hid hO1
  have O2 := Lib.hid hO2
  have A1E := Lib.hid hA1
  have A2E := Lib.hid hA2
  have HT := Lib.hid hT
  have HD := Lib.hid hD
  clear hl hx hxs hxo hn hT hTf hD hDf hO1 hO2 hA1 hA2 s1 s2
  have b1 : (i : Int) ≤ (n : Int) := by omega
  have b2 : (i : Int) ≤ (ac : Int) := by omega
  have hform := HL.out.form
  have hnone : ao = none → n = 0 ∧ ac = 0 := fun h => by
    rcases hform with e | ⟨b, off, n', cap', e⟩
    · cases e; exact ⟨rfl, rfl⟩
    · rw [h] at e; cases e
  have hsome : ∀ a, ao = some a → ∃ b off, a = ⟨b, off, none⟩ := fun a h => by
    rcases hform with e | ⟨b, off, n', cap', e⟩
    · rw [h] at e; cases e
    · rw [h] at e; cases e; exact ⟨b, off, rfl⟩
  clear hform
  have hm0 : n ≤ 10000 := h1
  cases ao with
  | none =>
    obtain ⟨rfl, rfl⟩ := hnone rfl
    obtain rfl : i = 0 := by omega
    clear hnone hsome b1 b2
    have hbox : ∀ o : Obj, ((w.alloc (.cells #[xs, .int .i64 x.n] 41)).alloc o).heap[w.heap.size]? = some (.cells #[xs, .int .i64 x.n] 41 (0, 0)) := fun o => by
      rw [Below.heap_alloc _ _ _ (by simp)]; show (w.heap.push _)[w.heap.size]? = _; simp
    have hnew0 : ∀ o : Obj, ((w.alloc o).alloc (.cells #[] 41)).ownsRow w.heap.size 41 2 (.slice (some ⟨w.heap.size + 1, 0, none⟩) 0 0) 0 [] := fun o => own_mk (spare := []) (by omega) (by
      show ((w.heap.push o).push _)[w.heap.size + 1]? = _
      rw [show w.heap.size + 1 = (w.heap.push o).size by simp, Array.getElem?_push_size]; rfl) (Nat.le_refl _) (by decide) (by simp) (by simp)
    have hbel0 : ∀ o o' : Obj, Below w.heap.size w ((w.alloc o).alloc o') := fun o o' => ((Below.refl _ _).alloc (Nat.le_refl _) _).alloc (by simp) _
    go_enter Try.func47, Try.ntmps47
    go_wp2_with (refine wpList_append_any _ rfl (.tmp 8) (.tmp 11) 30 rfl w.heap.size 41 i0 (.agg #[.slice none 0 0, .int .i64 0]) 2 32 Try.underlying30 hi0 hz0 hz1 hz2 rfl (by decide) (.slice (some ⟨w.heap.size + 1, 0, none⟩) 0 0) 0 [] rfl (hnew0 _) _ 0 _ A1 rfl TF.out (S1.out _ (hbel0 _ _)) O1.out (by unfold maxLen; omega) (by omega) (by simp; omega) ?_; intro v1 w1 ho1 hg1 hat1)
    have hz1' : w.heap.size + 2 ≤ w1.heap.size := by have := hg1.size; simp at this; omega
    have hb1 : w1.heap[w.heap.size]? = some (.cells #[xs, .int .i64 x.n] 41 (0, 0)) := (hg1.block w.heap.size (by simp; omega) (by simp [Value.ownBlock])).trans (hbox _)
    have hB1 : Below w.heap.size w w1 := (hbel0 _ _).trans ⟨hg1.os, hg1.tape, hg1.output, hg1.size, fun k hk => hg1.block k (by simp; omega) (by simp [Value.ownBlock]; omega)⟩
    have k0 : w1.cell? ⟨w.heap.size, 0, none⟩ = some xs := cells_block hb1 0
    have k1 : w1.cell? ⟨w.heap.size, 1, none⟩ = some (.int .i64 x.n) := cells_block hb1 1
    have hv1 : ∀ g, v1.ownBlock = some g → w.heap.size ≤ g := fun g hg => (ho1.lt g hg).1
    have HO1 := Lib.hid ho1
    have HB1 := Lib.hid hB1
    have HV1 := Lib.hid hv1
    clear ho1 hg1 hat1 hb1 hbox hnew0 hbel0 hB1 hv1
    have hx1 : ∀ j u, ([xs, .int .i64 x.n] : List Value)[j]? = some u → ((w1.alloc (.cells #[xs, .int .i64 x.n] 41)).drew).cell? ((⟨w1.heap.size, 0, none⟩ : Addr).add j) = some u := fun j u hj => by
      rw [addr_add, Nat.zero_add]
      have e : ((w1.alloc (.cells #[xs, .int .i64 x.n] 41)).drew).heap[w1.heap.size]? = some (.cells #[xs, .int .i64 x.n] 41 (0, 0)) := by show (w1.heap.push _)[w1.heap.size]? = _; simp
      rw [cells_block e]; simpa using hj
    have HX1 := Lib.hid hx1
    have hone : ∀ u ∈ ([xs, .int .i64 x.n] : List Value), u.oneCell' = true := fun u hu => by
      have : u = xs ∨ u = .int .i64 x.n := by simpa using hu
      rcases this with rfl | rfl
      · exact HXO.out
      · rfl
    have HONE := Lib.hid hone
    clear hx1 hone
    go_wp2_with fail
    go_region_law (first
      | (refine step_append_any rfl (.tmp 13) (.tmp 15) 30 rfl w.heap.size 41 i0 (.agg #[.slice none 0 0, .int .i64 0]) 2 32 Try.underlying30 hi0 hz0 hz1 hz2 rfl (by decide) v1 0 A1 (by simp [Act.eval, Act.put]) (by have := HO1.out; simp only [Nat.zero_add, List.nil_append] at this; exact own_same this fun g hg => Below.heap_alloc w1 _ g ((this.lt g hg).2)) (some ⟨w1.heap.size, 0, none⟩) 1 1 [xs, .int .i64 x.n] (by simp [Act.eval, Act.put]) rfl (Or.inr ⟨_, rfl, HX1.out⟩) HONE.out (by unfold maxLen; omega) (by omega) (by simp; omega) ?_; intro v2 w2 ho2 hg2 hat2; have HO2 := Lib.hid ho2; have HG2 := Lib.hid hg2; clear ho2 hg2 hat2)
      | (refine step_append_any rfl (.tmp 16) (.tmp 19) 30 rfl w.heap.size 41 i0 (.agg #[.slice none 0 0, .int .i64 0]) 2 32 Try.underlying30 hi0 hz0 hz1 hz2 rfl (by decide) v2 (0 + 1) (A1 ++ [xs, .int .i64 x.n]) (by simp [Act.eval, Act.put]) HO2.out none (0 - 0) 0 A2 (by simp [Act.eval, Act.put]) DF.out (Or.inl rfl) O2.out (by unfold maxLen; omega) (by omega) (by have := HG2.out.size; simp at this; omega) ?_; intro v3 w3 ho3 hg3 hat3; have HO3 := Lib.hid ho3; have HG3 := Lib.hid hg3; clear ho3 hg3 hat3))
    go_wp2_with fail
    go_ret
    have hv2 : ∀ g, v2.ownBlock = some g → w.heap.size ≤ g := fun g hg => (HO2.out.lt g hg).1
    have hB2 : Below w.heap.size w w2 := HB1.out.trans (grown_below HG2.out HV1.out)
    have hB3 : Below w.heap.size w w3 := hB2.trans ⟨HG3.out.os, HG3.out.tape, HG3.out.output, HG3.out.size, fun k hk => HG3.out.block k (by have := HG2.out.size; simp at this; omega) (fun e => by have := hv2 k e.symm; omega)⟩
    have ho3 : w3.ownsRow w.heap.size 41 2 v3 (l.take 0 ++ x :: l.drop 0).length ((l.take 0 ++ x :: l.drop 0).flatMap RI.en) := by
      have h1 := HO3.out
      rw [A1E.out, A2E.out, HXS.out] at h1
      have e1 : (l.take 0 ++ x :: l.drop 0).flatMap RI.en = (l.take 0).flatMap RI.en ++ [x.sv, .int .i64 x.n] ++ (l.drop 0).flatMap RI.en := by rw [List.flatMap_append, List.flatMap_cons, ← List.append_assoc]; rfl
      have e2 : (l.take 0 ++ x :: l.drop 0).length = 0 + 1 + (0 - 0) := by have := HT.out; have := HD.out; rw [List.length_append, List.length_cons]; omega
      rw [e1, e2]; exact h1
    exact ⟨v3, rfl, items_made hB3 ho3 fun y hy => by
      rcases List.mem_append.1 hy with hy | hy
      · exact HL.out.each y (List.mem_of_mem_take hy)
      · rcases List.mem_cons.1 hy with rfl | hy
        · exact HX.out
        · exact HL.out.each y (List.mem_of_mem_drop hy), hB3⟩
  | some a =>
    obtain ⟨b, off, rfl⟩ := hsome a rfl
    clear hnone hsome
    by_cases hci : ac = i
    · obtain rfl : n = i := by omega
      subst hci
      have hbox : ∀ o : Obj, ((w.alloc (.cells #[xs, .int .i64 x.n] 41)).alloc o).heap[w.heap.size]? = some (.cells #[xs, .int .i64 x.n] 41 (0, 0)) := fun o => by
        rw [Below.heap_alloc _ _ _ (by simp)]; show (w.heap.push _)[w.heap.size]? = _; simp
      have hnew0 : ∀ o : Obj, ((w.alloc o).alloc (.cells #[] 41)).ownsRow w.heap.size 41 2 (.slice (some ⟨w.heap.size + 1, 0, none⟩) 0 0) 0 [] := fun o => own_mk (spare := []) (by omega) (by
        show ((w.heap.push o).push _)[w.heap.size + 1]? = _
        rw [show w.heap.size + 1 = (w.heap.push o).size by simp, Array.getElem?_push_size]; rfl) (Nat.le_refl _) (by decide) (by simp) (by simp)
      have hbel0 : ∀ o o' : Obj, Below w.heap.size w ((w.alloc o).alloc o') := fun o o' => ((Below.refl _ _).alloc (Nat.le_refl _) _).alloc (by simp) _
      go_enter Try.func47, Try.ntmps47
      go_wp2_with (refine wpList_append_any _ rfl (.tmp 8) (.tmp 11) 30 rfl w.heap.size 41 i0 (.agg #[.slice none 0 0, .int .i64 0]) 2 32 Try.underlying30 hi0 hz0 hz1 hz2 rfl (by decide) (.slice (some ⟨w.heap.size + 1, 0, none⟩) 0 0) 0 [] rfl (hnew0 _) _ ac _ A1 rfl TF.out (S1.out _ (hbel0 _ _)) O1.out (by unfold maxLen; omega) (by omega) (by simp; omega) ?_; intro v1 w1 ho1 hg1 hat1)
      have hz1' : w.heap.size + 2 ≤ w1.heap.size := by have := hg1.size; simp at this; omega
      have hb1 : w1.heap[w.heap.size]? = some (.cells #[xs, .int .i64 x.n] 41 (0, 0)) := (hg1.block w.heap.size (by simp; omega) (by simp [Value.ownBlock])).trans (hbox _)
      have hB1 : Below w.heap.size w w1 := (hbel0 _ _).trans ⟨hg1.os, hg1.tape, hg1.output, hg1.size, fun k hk => hg1.block k (by simp; omega) (by simp [Value.ownBlock]; omega)⟩
      have k0 : w1.cell? ⟨w.heap.size, 0, none⟩ = some xs := cells_block hb1 0
      have k1 : w1.cell? ⟨w.heap.size, 1, none⟩ = some (.int .i64 x.n) := cells_block hb1 1
      have hv1 : ∀ g, v1.ownBlock = some g → w.heap.size ≤ g := fun g hg => (ho1.lt g hg).1
      have HO1 := Lib.hid ho1
      have HB1 := Lib.hid hB1
      have HV1 := Lib.hid hv1
      clear ho1 hg1 hat1 hb1 hbox hnew0 hbel0 hB1 hv1
      have hx1 : ∀ j u, ([xs, .int .i64 x.n] : List Value)[j]? = some u → ((w1.alloc (.cells #[xs, .int .i64 x.n] 41)).drew).cell? ((⟨w1.heap.size, 0, none⟩ : Addr).add j) = some u := fun j u hj => by
        rw [addr_add, Nat.zero_add]
        have e : ((w1.alloc (.cells #[xs, .int .i64 x.n] 41)).drew).heap[w1.heap.size]? = some (.cells #[xs, .int .i64 x.n] 41 (0, 0)) := by show (w1.heap.push _)[w1.heap.size]? = _; simp
        rw [cells_block e]; simpa using hj
      have HX1 := Lib.hid hx1
      have hone : ∀ u ∈ ([xs, .int .i64 x.n] : List Value), u.oneCell' = true := fun u hu => by
        have : u = xs ∨ u = .int .i64 x.n := by simpa using hu
        rcases this with rfl | rfl
        · exact HXO.out
        · rfl
      have HONE := Lib.hid hone
      clear hx1 hone
      go_wp2_with fail
      go_region_law (first
        | (refine step_append_any rfl (.tmp 13) (.tmp 15) 30 rfl w.heap.size 41 i0 (.agg #[.slice none 0 0, .int .i64 0]) 2 32 Try.underlying30 hi0 hz0 hz1 hz2 rfl (by decide) v1 ac A1 (by simp [Act.eval, Act.put]) (by have := HO1.out; simp only [Nat.zero_add, List.nil_append] at this; exact own_same this fun g hg => Below.heap_alloc w1 _ g ((this.lt g hg).2)) (some ⟨w1.heap.size, 0, none⟩) 1 1 [xs, .int .i64 x.n] (by simp [Act.eval, Act.put]) rfl (Or.inr ⟨_, rfl, HX1.out⟩) HONE.out (by unfold maxLen; omega) (by omega) (by simp; omega) ?_; intro v2 w2 ho2 hg2 hat2; have HO2 := Lib.hid ho2; have HG2 := Lib.hid hg2; clear ho2 hg2 hat2)
        | (refine step_append_any rfl (.tmp 16) (.tmp 19) 30 rfl w.heap.size 41 i0 (.agg #[.slice none 0 0, .int .i64 0]) 2 32 Try.underlying30 hi0 hz0 hz1 hz2 rfl (by decide) v2 (ac + 1) (A1 ++ [xs, .int .i64 x.n]) (by simp [Act.eval, Act.put]) HO2.out (some ⟨b, off, none⟩) (ac - ac) 0 A2 (by simp [Act.eval, Act.put]) DF.out (S2.out _ _ (HB1.out.trans (grown_below HG2.out HV1.out)) (by exact fun h => absurd h (Nat.lt_irrefl _))) O2.out (by unfold maxLen; omega) (by omega) (by have := HG2.out.size; simp at this; omega) ?_; intro v3 w3 ho3 hg3 hat3; have HO3 := Lib.hid ho3; have HG3 := Lib.hid hg3; clear ho3 hg3 hat3))
      go_wp2_with fail
      go_ret
      have hv2 : ∀ g, v2.ownBlock = some g → w.heap.size ≤ g := fun g hg => (HO2.out.lt g hg).1
      have hB2 : Below w.heap.size w w2 := HB1.out.trans (grown_below HG2.out HV1.out)
      have hB3 : Below w.heap.size w w3 := hB2.trans ⟨HG3.out.os, HG3.out.tape, HG3.out.output, HG3.out.size, fun k hk => HG3.out.block k (by have := HG2.out.size; simp at this; omega) (fun e => by have := hv2 k e.symm; omega)⟩
      have ho3 : w3.ownsRow w.heap.size 41 2 v3 (l.take ac ++ x :: l.drop ac).length ((l.take ac ++ x :: l.drop ac).flatMap RI.en) := by
        have h1 := HO3.out
        rw [A1E.out, A2E.out, HXS.out] at h1
        have e1 : (l.take ac ++ x :: l.drop ac).flatMap RI.en = (l.take ac).flatMap RI.en ++ [x.sv, .int .i64 x.n] ++ (l.drop ac).flatMap RI.en := by rw [List.flatMap_append, List.flatMap_cons, ← List.append_assoc]; rfl
        have e2 : (l.take ac ++ x :: l.drop ac).length = ac + 1 + (ac - ac) := by have := HT.out; have := HD.out; rw [List.length_append, List.length_cons]; omega
        rw [e1, e2]; exact h1
      exact ⟨v3, rfl, items_made hB3 ho3 fun y hy => by
        rcases List.mem_append.1 hy with hy | hy
        · exact HL.out.each y (List.mem_of_mem_take hy)
        · rcases List.mem_cons.1 hy with rfl | hy
          · exact HX.out
          · exact HL.out.each y (List.mem_of_mem_drop hy), hB3⟩
    · have hbox : ∀ o : Obj, ((w.alloc (.cells #[xs, .int .i64 x.n] 41)).alloc o).heap[w.heap.size]? = some (.cells #[xs, .int .i64 x.n] 41 (0, 0)) := fun o => by
        rw [Below.heap_alloc _ _ _ (by simp)]; show (w.heap.push _)[w.heap.size]? = _; simp
      have hnew0 : ∀ o : Obj, ((w.alloc o).alloc (.cells #[] 41)).ownsRow w.heap.size 41 2 (.slice (some ⟨w.heap.size + 1, 0, none⟩) 0 0) 0 [] := fun o => own_mk (spare := []) (by omega) (by
        show ((w.heap.push o).push _)[w.heap.size + 1]? = _
        rw [show w.heap.size + 1 = (w.heap.push o).size by simp, Array.getElem?_push_size]; rfl) (Nat.le_refl _) (by decide) (by simp) (by simp)
      have hbel0 : ∀ o o' : Obj, Below w.heap.size w ((w.alloc o).alloc o') := fun o o' => ((Below.refl _ _).alloc (Nat.le_refl _) _).alloc (by simp) _
      go_enter Try.func47, Try.ntmps47
      go_wp2_with (refine wpList_append_any _ rfl (.tmp 8) (.tmp 11) 30 rfl w.heap.size 41 i0 (.agg #[.slice none 0 0, .int .i64 0]) 2 32 Try.underlying30 hi0 hz0 hz1 hz2 rfl (by decide) (.slice (some ⟨w.heap.size + 1, 0, none⟩) 0 0) 0 [] rfl (hnew0 _) _ i _ A1 rfl TF.out (S1.out _ (hbel0 _ _)) O1.out (by unfold maxLen; omega) (by omega) (by simp; omega) ?_; intro v1 w1 ho1 hg1 hat1)
      have hz1' : w.heap.size + 2 ≤ w1.heap.size := by have := hg1.size; simp at this; omega
      have hb1 : w1.heap[w.heap.size]? = some (.cells #[xs, .int .i64 x.n] 41 (0, 0)) := (hg1.block w.heap.size (by simp; omega) (by simp [Value.ownBlock])).trans (hbox _)
      have hB1 : Below w.heap.size w w1 := (hbel0 _ _).trans ⟨hg1.os, hg1.tape, hg1.output, hg1.size, fun k hk => hg1.block k (by simp; omega) (by simp [Value.ownBlock]; omega)⟩
      have k0 : w1.cell? ⟨w.heap.size, 0, none⟩ = some xs := cells_block hb1 0
      have k1 : w1.cell? ⟨w.heap.size, 1, none⟩ = some (.int .i64 x.n) := cells_block hb1 1
      have hv1 : ∀ g, v1.ownBlock = some g → w.heap.size ≤ g := fun g hg => (ho1.lt g hg).1
      have HO1 := Lib.hid ho1
      have HB1 := Lib.hid hB1
      have HV1 := Lib.hid hv1
      clear ho1 hg1 hat1 hb1 hbox hnew0 hbel0 hB1 hv1
      have hx1 : ∀ j u, ([xs, .int .i64 x.n] : List Value)[j]? = some u → ((w1.alloc (.cells #[xs, .int .i64 x.n] 41)).drew).cell? ((⟨w1.heap.size, 0, none⟩ : Addr).add j) = some u := fun j u hj => by
        rw [addr_add, Nat.zero_add]
        have e : ((w1.alloc (.cells #[xs, .int .i64 x.n] 41)).drew).heap[w1.heap.size]? = some (.cells #[xs, .int .i64 x.n] 41 (0, 0)) := by show (w1.heap.push _)[w1.heap.size]? = _; simp
        rw [cells_block e]; simpa using hj
      have HX1 := Lib.hid hx1
      have hone : ∀ u ∈ ([xs, .int .i64 x.n] : List Value), u.oneCell' = true := fun u hu => by
        have : u = xs ∨ u = .int .i64 x.n := by simpa using hu
        rcases this with rfl | rfl
        · exact HXO.out
        · rfl
      have HONE := Lib.hid hone
      clear hx1 hone
      go_wp2_with fail
      go_region_law (first
        | (refine step_append_any rfl (.tmp 13) (.tmp 15) 30 rfl w.heap.size 41 i0 (.agg #[.slice none 0 0, .int .i64 0]) 2 32 Try.underlying30 hi0 hz0 hz1 hz2 rfl (by decide) v1 i A1 (by simp [Act.eval, Act.put]) (by have := HO1.out; simp only [Nat.zero_add, List.nil_append] at this; exact own_same this fun g hg => Below.heap_alloc w1 _ g ((this.lt g hg).2)) (some ⟨w1.heap.size, 0, none⟩) 1 1 [xs, .int .i64 x.n] (by simp [Act.eval, Act.put]) rfl (Or.inr ⟨_, rfl, HX1.out⟩) HONE.out (by unfold maxLen; omega) (by omega) (by simp; omega) ?_; intro v2 w2 ho2 hg2 hat2; have HO2 := Lib.hid ho2; have HG2 := Lib.hid hg2; clear ho2 hg2 hat2)
        | (refine step_append_any rfl (.tmp 16) (.tmp 19) 30 rfl w.heap.size 41 i0 (.agg #[.slice none 0 0, .int .i64 0]) 2 32 Try.underlying30 hi0 hz0 hz1 hz2 rfl (by decide) v2 (i + 1) (A1 ++ [xs, .int .i64 x.n]) (by simp [Act.eval, Act.put]) HO2.out (some ⟨b, off + i * 2, none⟩) (n - i) (ac - i) A2 (by simp [Act.eval, Act.put]) DF.out (S2.out _ _ (HB1.out.trans (grown_below HG2.out HV1.out)) (by intro hlt b' off' e; cases e; rfl)) O2.out (by unfold maxLen; omega) (by omega) (by have := HG2.out.size; simp at this; omega) ?_; intro v3 w3 ho3 hg3 hat3; have HO3 := Lib.hid ho3; have HG3 := Lib.hid hg3; clear ho3 hg3 hat3))
      go_wp2_with fail
      go_ret
      have hv2 : ∀ g, v2.ownBlock = some g → w.heap.size ≤ g := fun g hg => (HO2.out.lt g hg).1
      have hB2 : Below w.heap.size w w2 := HB1.out.trans (grown_below HG2.out HV1.out)
      have hB3 : Below w.heap.size w w3 := hB2.trans ⟨HG3.out.os, HG3.out.tape, HG3.out.output, HG3.out.size, fun k hk => HG3.out.block k (by have := HG2.out.size; simp at this; omega) (fun e => by have := hv2 k e.symm; omega)⟩
      have ho3 : w3.ownsRow w.heap.size 41 2 v3 (l.take i ++ x :: l.drop i).length ((l.take i ++ x :: l.drop i).flatMap RI.en) := by
        have h1 := HO3.out
        rw [A1E.out, A2E.out, HXS.out] at h1
        have e1 : (l.take i ++ x :: l.drop i).flatMap RI.en = (l.take i).flatMap RI.en ++ [x.sv, .int .i64 x.n] ++ (l.drop i).flatMap RI.en := by rw [List.flatMap_append, List.flatMap_cons, ← List.append_assoc]; rfl
        have e2 : (l.take i ++ x :: l.drop i).length = i + 1 + (n - i) := by have := HT.out; have := HD.out; rw [List.length_append, List.length_cons]; omega
        rw [e1, e2]; exact h1
      exact ⟨v3, rfl, items_made hB3 ho3 fun y hy => by
        rcases List.mem_append.1 hy with hy | hy
        · exact HL.out.each y (List.mem_of_mem_take hy)
        · rcases List.mem_cons.1 hy with rfl | hy
          · exact HX.out
          · exact HL.out.each y (List.mem_of_mem_drop hy), hB3⟩
end Go.Proofs.Ytehoanpjlinfaaa.Tri
