/- Contents in memory (layer 8): three rows of mutations that may be; state.Covered, state.place walked. -/
import Derived.Test.YtgcfhlleaekgfaaGreatDoorConAdd
import Derived.Test.YtgcfhlleaekgfaaGreatDoorMutIns
namespace Go.Proofs.YtgcfhlleaekgfaaGreatDoor.Mut
open Go.RowKit Go.Sort Go.Proofs.YtgcfhlleaekgfaaGreatDoor.Ord

/-- What a mutation that may be is short of. -/
theorem keyF_size {s : ByteArray} (h : keyF s = true) : s.size ≤ 24 := by
  unfold keyF at h
  simp only [Bool.and_eq_true, decide_eq_true_eq] at h
  exact h.1.2
theorem valF_size {s : ByteArray} (h : valF s = true) : s.size ≤ 64 := by
  unfold valF at h
  simp only [Bool.and_eq_true, decide_eq_true_eq] at h
  exact h.1
theorem empty_size {s : ByteArray} (h : s.toList.isEmpty = true) : s.size = 0 := by
  have : s.toList = [] := List.isEmpty_iff.1 h
  rw [ByteArray.toList_eq] at this
  have h2 := congrArg List.length this
  simpa using h2
structure Small (m : Mu) : Prop where
  key : m.key.size ≤ 1000000
  fin : m.fin.size ≤ 1000000
  val : m.val.size ≤ 1000000
  over : m.over.length ≤ 1000000
theorem small_right {m : Mu} (h : rightF m = true) : Small m := by
  unfold rightF rightG at h
  simp only [Bool.and_eq_true, Bool.not_eq_true', Bool.or_eq_false_iff, Bool.and_eq_false_iff, decide_eq_true_eq, decide_eq_false_iff_not, Bool.not_eq_false'] at h
  obtain ⟨-, h2, h3, -, h4, h5, -⟩ := h
  have k1 := keyF_size h2
  have k2 := valF_size h4.2
  have k3 : m.over.length ≤ 24 := by
    unfold overF at h3
    simp only [Bool.and_eq_true, decide_eq_true_eq] at h3
    exact h3.2
  have k4 : m.fin.size ≤ 24 := by
    by_cases hk : m.kind = 3
    · have := h5.2
      rcases this with h | h
      · exact absurd hk h
      · exact keyF_size h.1
    · have := h5.1
      rcases this with h | h
      · exact absurd h hk
      · have := empty_size h; omega
  exact ⟨by omega, by omega, by omega, by omega⟩

/-- A slice of mutations reads as these. -/
def Reads (w : World) (v : Value) (l : List Mu) : Prop := ∃ R : List Ro, R.map (·.1) = l ∧ MRow w v R
theorem Reads.below {w w' : World} {v : Value} {l : List Mu} (h : Reads w v l) (hb : RowKit.Below w.heap.size w w') : Reads w' v l := by
  obtain ⟨R, e, hR⟩ := h
  exact ⟨R, e, hR.below hb⟩
theorem Reads.nil (w : World) : Reads w (.slice none 0 0) [] := ⟨[], rfl, MRow.nil w⟩
theorem Reads.form {w : World} {v : Value} {l : List Mu} (h : Reads w v l) : ∃ ao cap, v = .slice ao l.length cap ∧ l.length ≤ cap ∧ cap ≤ maxLen := by
  obtain ⟨R, e, hR⟩ := h
  obtain ⟨ao, cap, h1, h2, h3⟩ := hR.form
  have : l.length = R.length := by rw [← e]; simp
  rw [this]
  exact ⟨ao, cap, h1, h2, h3⟩
structure Lies (w : World) (a b d : Value) (c : Con) : Prop where
  cells : Reads w a c.cells
  wipes : Reads w b c.wipes
  sibs : Reads w d c.sibs
theorem Lies.below {w w' : World} {a b d : Value} {c : Con} (h : Lies w a b d c) (hb : RowKit.Below w.heap.size w w') : Lies w' a b d c := ⟨h.cells.below hb, h.wipes.below hb, h.sibs.below hb⟩
theorem Lies.none (w : World) : Lies w (.slice none 0 0) (.slice none 0 0) (.slice none 0 0) ⟨[], [], []⟩ := ⟨Reads.nil w, Reads.nil w, Reads.nil w⟩
/-- Contents of so many mutations that may be. -/
structure Okc (c : Con) (n : Nat) : Prop where
  right : ∀ m ∈ c.all, rightF m = true
  len : c.all.length ≤ n
theorem Okc.more {c : Con} {n k : Nat} (h : Okc c n) (hk : n ≤ k) : Okc c k := ⟨h.right, Nat.le_trans h.len hk⟩
theorem Okc.lens {c : Con} {n : Nat} (h : Okc c n) : c.cells.length ≤ n ∧ c.wipes.length ≤ n ∧ c.sibs.length ≤ n := by
  have := h.len
  unfold Con.all at this
  simp only [List.length_append] at this
  exact ⟨by omega, by omega, by omega⟩

/-- The three cells of a content's variable, which may be written. -/
structure C3 (w : World) (k : Nat) (a b d : Value) : Prop where
  lt : k < w.heap.size
  c0 : w.cell? ⟨k, 0, none⟩ = some a
  c1 : w.cell? ⟨k, 1, none⟩ = some b
  c2 : w.cell? ⟨k, 2, none⟩ = some d
  f0 : w.frozen? ⟨k, 0, none⟩ = false
  f1 : w.frozen? ⟨k, 1, none⟩ = false
  f2 : w.frozen? ⟨k, 2, none⟩ = false
theorem C3.new (w : World) (a b d : Value) : C3 (w.alloc (.cells #[a, b, d] 32)) w.heap.size a b d :=
  ⟨by simp, by go_simp, by go_simp, by go_simp, by go_simp, by go_simp, by go_simp⟩
theorem C3.below {w w' : World} {k : Nat} {a b d : Value} (h : C3 w k a b d) (hb : RowKit.Below w.heap.size w w') : C3 w' k a b d := by
  have e : ∀ o, w'.cell? ⟨k, o, none⟩ = w.cell? ⟨k, o, none⟩ := fun o => hb.cell (p := ⟨k, o, none⟩) h.lt
  have f : ∀ o, w'.frozen? ⟨k, o, none⟩ = w.frozen? ⟨k, o, none⟩ := fun o => hb.frozen (p := ⟨k, o, none⟩) h.lt
  obtain ⟨h0, h1, h2, h3, h4, h5, h6⟩ := h
  exact ⟨Nat.lt_of_lt_of_le h0 hb.size, (e _).trans h1, (e _).trans h2, (e _).trans h3, (f _).trans h4, (f _).trans h5, (f _).trans h6⟩
/-- A content stored into a variable. -/
theorem c3_put {w : World} {k : Nat} {a b d : Value} (h : C3 w k a b d) (a' b' d' : Value) : C3 (((w.setCell ⟨k, 0, none⟩ a').setCell ⟨k, 1, none⟩ b').setCell ⟨k, 2, none⟩ d') k a' b' d' := by
  obtain ⟨h0, h1, h2, h3, h4, h5, h6⟩ := h
  exact ⟨by simpa using h0, by go_simp, by go_simp, by go_simp, by go_simp, by go_simp, by go_simp⟩
theorem c3_put_below {w0 w : World} {k n : Nat} (h : RowKit.Below n w0 w) (hk : n ≤ k) (a' b' d' : Value) : RowKit.Below n w0 (((w.setCell ⟨k, 0, none⟩ a').setCell ⟨k, 1, none⟩ b').setCell ⟨k, 2, none⟩ d') :=
  ((h.setCell (p := ⟨k, 0, none⟩) hk _).setCell (p := ⟨k, 1, none⟩) hk _).setCell (p := ⟨k, 2, none⟩) hk _

set_option maxHeartbeats 1000000 in
set_option maxRecDepth 100000 in
theorem covered_any (a b d : Value) (l : List Mu) (key : ByteArray) (s : Stp) (w : World) (hb : Reads w b l) (hn : l.length ≤ 1000000) :
    Calls Tryz.prog 26 #[.agg #[a, b, d], .string key, .agg #[.int .i64 s.p, .int .i64 s.l, .int .i64 s.w]] w fun e w' => e = .returned (.bool (l.any fun x => hitsB x key s)) ∧ RowKit.Below w.heap.size w w' := by
  obtain ⟨R, rfl, hR⟩ := hb
  obtain ⟨bo, bc, rfl, -, -⟩ := hR.form
  have hf := hR.forms
  have hl : R.length ≤ 1000000 := by simpa using hn
  have HC := Lib.hid (fun (W : World) (hW : RowKit.Below w.heap.size w W) (hp : Asks W none 65 #[.pointer (some ⟨w.heap.size + 1, 0, none⟩), .pointer (some ⟨w.heap.size + 1 + 1, 0, none⟩)] (fun x => hitsB x key s)) =>
    contains_any (.slice bo R.length bc) R 65 #[.pointer (some ⟨w.heap.size + 1, 0, none⟩), .pointer (some ⟨w.heap.size + 1 + 1, 0, none⟩)] (fun x => hitsB x key s) none W (hR.row.below hW) hf hl hp (enters_of Tryz.func65 (by kernel_rfl) rfl))
  clear hR hf hl hn
  obtain ⟨n, hN⟩ : ∃ n, n = R.length := ⟨_, rfl⟩
  obtain ⟨Q, hQ⟩ : ∃ Q, Q = (R.map (·.1)).any (fun x => hitsB x key s) := ⟨_, rfl⟩
  rw [← hN, ← hQ] at HC ⊢
  clear hN hQ
  go_enter Tryz.func26, Tryz.ntmps26
  go_wp2_with fail
  have hB := Lib.hid (((((Below.refl _ w).alloc (Nat.le_refl _) (.cells #[a, .slice bo n bc, d] 32)).alloc (by simp) (.cells #[.string key] 9))).alloc (by simp; omega) (.cells #[.int .i64 s.p, .int .i64 s.l, .int .i64 s.w] 26))
  refine (HC.out _ hB.out (ask_cov key s _ _ _ _ (by simp) (by simp) (by go_simp) (by go_simp) (by go_simp) (by go_simp) (by simp) (by simp))).mono ?_
  rintro e w2 ⟨rfl, hb⟩
  have HB := Lib.hid (below_then hB.out (Nat.le_refl _) hb)
  clear hb
  go_wp2_with fail
  go_ret
  exact ⟨rfl, HB.out⟩

set_option maxHeartbeats 1000000 in
theorem place_any (v : Value) (R : List Ro) (key : ByteArray) (w : World) (hv : MRow w v R) (hn : R.length ≤ 1000000) (hr : Rises keyC (R.map (·.1))) :
    Calls Tryz.prog 96 #[v, .string key] w fun e w' => ∃ i, Parts (fun x => cmpS x.key key) (R.map (·.1)) i ∧ e = .returned (.tuple #[.int .i64 (i : Nat), .bool (isAt (fun x => cmpS x.key key) (R.map (·.1)) i)]) ∧ RowKit.Below w.heap.size w w' := by
  have HC := Lib.hid (fun W (hW : RowKit.Below w.heap.size w W) => bskey_any v R key (fun x => cmpS x.key key) W (hv.row.below hW) hv.forms hn (fun x hx z hz => (place1_any x key z (hv.forms x hx)).mono fun _ _ h => ⟨h.1, h.2⟩) (fun a b x y hab hx hy hc => by
    obtain ⟨h1, h1'⟩ := List.getElem?_eq_some_iff.1 hx
    obtain ⟨h2, h2'⟩ := List.getElem?_eq_some_iff.1 hy
    have := (List.pairwise_iff_getElem.1 hr) a b h1 h2 hab
    rw [h1', h2'] at this
    exact Tot.str.trans _ _ _ this hc))
  obtain ⟨ao, cap, rfl, -, -⟩ := hv.form
  clear hv hr
  obtain ⟨n, hN⟩ : ∃ n, n = R.length := ⟨_, rfl⟩
  rw [← hN] at HC ⊢
  clear hN
  go_enter Tryz.func96, Tryz.ntmps96
  go_wp2_with fail
  refine (HC.out _ (Below.refl _ _)).mono ?_
  rintro e w2 ⟨i, hi, rfl, hb⟩
  have HI := Lib.hid hi
  clear hi
  go_wp2_with fail
  go_ret2
  exact ⟨i, HI.out, rfl, hb⟩
end Go.Proofs.YtgcfhlleaekgfaaGreatDoor.Mut
