/- The bytes of a mutation that may be, by the program and by the document (layer 7). · What was put is read back: texts, stamps (layers 3, 7), in plain Lean. · Mutations read from bytes, and read back (layers 7, 8), in plain Lean. · mut.All: how many mutations there are, and they, as bytes (layer 7). · An append of any number of elements, none too, to a row with spare zero cells (of any program); an empty literal as such a row. · cenotaphref07.All: the bytes of a row of mutations, by the document (layer 7). PRINTED by wip/genbytref.py. · state.Put, and the document's: the bytes of a content (layer 8). · Mutations that were put are read back (layers 7, 8), in plain Lean. · What a reader reads as a content, in plain Lean (layers 3, 7, 8). · The first wire.Put of a content's bytes: behind nothing (layers 3, 8). · wire.Reader.Taken (layer 3). PRINTED by wip/genrdtaken.py. · state.Get: a content out of a reader (layers 3, 8). PRINTED by wip/genrdstate.py. · An append to a slice without spare room makes memory alone (of any program); at rows of mutations. · Rows of bytes: slices.Equal, slices.Clone; wire.Put behind the one byte of a literal (layers 3, 8). · wire.Put behind the one byte of a literal (layer 3). · The walk of the law's alive (layer 8). · The walk of the law StateBytes (layer 8). PRINTED by wip/genbyteslaw.py. -/
import Derived.Test.YtemckpmedjennaaGreatDoorRefBytes
import Derived.Test.YtemckpmedjennaaGreatDoorConKnown
import Derived.Test.YtemckpmedjennaaGreatDoorPkR
import Derived.Test.YtemckpmedjennaaGreatDoorRdGet
import Derived.Test.YtemckpmedjennaaGreatDoorSpare
import Derived.Test.YtemckpmedjennaaGreatDoorSlRow
import Derived.Test.YtemckpmedjennaaGreatDoorRdText
import Derived.Test.YtemckpmedjennaaGreatDoorMrkOnto
import Derived.Test.YtemckpmedjennaaGreatDoorMrkNode
import Derived.Test.YtemckpmedjennaaGreatDoorConMore
import Derived.Test.YtemckpmedjennaaGreatDoorMutCopies
set_option linter.unusedSimpArgs false
set_option linter.unusedVariables false
namespace Go.Proofs.YtemckpmedjennaaGreatDoor.Mrk
open Go.RowKit Go.Proofs.YtemckpmedjennaaGreatDoor.Spare Go.Proofs.YtemckpmedjennaaGreatDoor.RegInv Go.Proofs.YtemckpmedjennaaGreatDoor.Mut
set_option linter.unusedSectionVars false
variable [Inhabited Lim]

/-- The bytes of a mutation. -/
def bytesM (m : Mu) : List Nat := textF m.key ++ restL m.table.toNat m.kind.toNat m.expiry.toNat m.at_.p.toNat m.at_.l.toNat m.at_.w.toNat m.fin m.val m.over
/-- A mutation whose numbers are bytes, and not too long. -/
structure NumM (m : Mu) : Prop where
  t : 0 ≤ m.table ∧ m.table < 9223372036854775808
  k : 0 ≤ m.kind ∧ m.kind < 9223372036854775808
  e : 0 ≤ m.expiry ∧ m.expiry < 9223372036854775808
  at_ : NumS m.at_
  key : m.key.size ≤ 1000
  fin : m.fin.size ≤ 1000
  val : m.val.size ≤ 1000
  len : m.over.length ≤ 1000
  over : ∀ s ∈ m.over, NumS s
theorem num_st {s : Stp} (h : stR s = true) : NumS s := by
  unfold stR at h
  simp only [Bool.and_eq_true, decide_eq_true_eq] at h
  obtain ⟨⟨⟨⟨⟨⟨h1, h2⟩, h3⟩, h4⟩, h5⟩, h6⟩, -⟩ := h
  exact ⟨h1, h2, h3, by omega, by omega, by omega⟩
theorem num_over (t : Stp) : ∀ (l : List Stp) (p : Option Stp), overFrom t p l = true → ∀ s ∈ l, NumS s
  | [], _, _ => fun s hs => by simp at hs
  | x :: l, p, h => fun s hs => by
    unfold overFrom at h
    simp only [Bool.and_eq_true] at h
    rcases List.mem_cons.1 hs with rfl | hs
    · exact num_st h.1
    · exact num_over t l (some x) h.2.2.2 s hs
theorem num_right {m : Mu} (h : rightF m = true) : NumM m := by
  unfold rightF rightG at h
  simp only [Bool.and_eq_true, Bool.not_eq_true', Bool.or_eq_false_iff, Bool.and_eq_false_iff, decide_eq_true_eq, decide_eq_false_iff_not, Bool.not_eq_false'] at h
  obtain ⟨h1, h2, h3, ⟨e1, e2, -⟩, h4, h5, h6⟩ := h
  have k1 := keyF_size h2
  have k2 := valF_size h4.2
  unfold overF at h3
  simp only [Bool.and_eq_true, decide_eq_true_eq] at h3
  have k4 : m.fin.size ≤ 24 := by
    by_cases hk : m.kind = 3
    · rcases h5.2 with h | h
      · exact absurd hk h
      · exact keyF_size h.1
    · rcases h5.1 with h | h
      · exact absurd h hk
      · have := empty_size h; omega
  have k5 : (m.table = 1 ∨ m.table = 2) ∧ 1 ≤ m.kind ∧ m.kind ≤ 3 := by
    by_cases t1 : m.table = 1
    · rw [if_pos t1] at h6
      simp only [Bool.and_eq_true, decide_eq_true_eq] at h6
      exact ⟨Or.inl t1, h6.2.1, h6.2.2⟩
    · rw [if_neg t1] at h6
      by_cases t2 : m.table = 2
      · rw [if_pos t2] at h6
        simp only [Bool.or_eq_true, decide_eq_true_eq] at h6
        exact ⟨Or.inr t2, by omega, by omega⟩
      · rw [if_neg t2] at h6; cases h6
  exact ⟨by omega, by omega, by omega, num_st h1, by omega, by omega, by omega, by omega, num_over _ _ _ h3.1⟩
theorem putF_byte (n : Nat) : ∀ c ∈ putF n, c < 256 := putF_lt n
theorem strL_byte (s : ByteArray) : ∀ c ∈ strL s, c < 256 := by
  intro c hc
  unfold strL at hc
  obtain ⟨b, _, rfl⟩ := List.mem_map.1 hc
  exact b.toNat_lt
theorem bytesM_byte (m : Mu) : ∀ c ∈ bytesM m, c < 256 := by
  intro c hc
  unfold bytesM restL textF at hc
  simp only [List.mem_append, List.mem_flatMap] at hc
  rcases hc with (h | h) | h | h | (h | h) | (h | h) | h | h | h | h | h | ⟨s, _, h⟩
  all_goals first
    | exact putF_lt _ c h
    | exact strL_byte _ c h
    | (unfold stF at h
       simp only [List.mem_append] at h
       rcases h with h | h | h <;> exact putF_lt _ c h)
theorem bytesM_len {m : Mu} (h : NumM m) : (bytesM m).length ≤ 100000 := by
  obtain ⟨⟨t0, t1⟩, ⟨k0, k1⟩, ⟨e0, e1⟩, ⟨p0, l0, w0, p1, l1, w1⟩, s1, s2, s3, s4, s5⟩ := h
  have y0 := textF_len m.key (by omega)
  have y1 := putF_ten (n := m.table.toNat) (by omega)
  have y2 := putF_ten (n := m.kind.toNat) (by omega)
  have y3 := textF_len m.fin (by omega)
  have y4 := textF_len m.val (by omega)
  have y5 := putF_ten (n := m.expiry.toNat) (by omega)
  have y6 := putF_ten (n := m.at_.p.toNat) (by omega)
  have y7 := putF_ten (n := m.at_.l.toNat) (by omega)
  have y8 := putF_ten (n := m.at_.w.toNat) (by omega)
  have y9 := putF_ten (n := m.over.length) (by omega)
  have z1 := flat_len s5
  unfold bytesM restL
  simp only [List.length_append]
  omega
/-- These bytes come back in a row. -/
def BytesPost (w : World) (l : List Nat) (e : Ending) (w' : World) : Prop := ∃ v, e = .returned v ∧ BRow w' v l ∧ Below w.heap.size w w'
theorem mutbytes_any (x : Ro) (w : World) (hx : Over w x) (hn : NumM x.1) : Calls Tryz.prog 90 #[.slice none 0 0, vM x] w (BytesPost w (bytesM x.1)) := by
  obtain ⟨⟨tb, kd, key, fin, val, ex, ⟨p, l, h⟩, over⟩, ov⟩ := x
  obtain ⟨⟨t0, t1⟩, ⟨k0, k1⟩, ⟨e0, e1⟩, ⟨p0, l0, w0, p1, l1, w1⟩, s1, s2, s3, s4, s5⟩ := hn
  simp only [] at t0 t1 k0 k1 e0 e1 p0 l0 w0 p1 l1 w1 s1 s2 s3 s4 s5
  obtain ⟨tb, rfl⟩ := Int.eq_ofNat_of_zero_le t0
  obtain ⟨kd, rfl⟩ := Int.eq_ofNat_of_zero_le k0
  obtain ⟨ex, rfl⟩ := Int.eq_ofNat_of_zero_le e0
  obtain ⟨p, rfl⟩ := Int.eq_ofNat_of_zero_le p0
  obtain ⟨l, rfl⟩ := Int.eq_ofNat_of_zero_le l0
  obtain ⟨h, rfl⟩ := Int.eq_ofNat_of_zero_le w0
  refine (mutput_onto tb kd ex p l h key fin val over ov w (.slice none 0 0) [] w (by omega) (by omega) (by omega) (by omega) (by omega) (by omega) s1 s2 s3 s4 s5 hx.lst (Below.refl _ _) (World.ownsRow_nil _ _ _ _) (by simp)).mono ?_
  rintro e w' ⟨v', rfl, g1, g2, -⟩
  exact ⟨v', rfl, row_of g1, ⟨g2.os, g2.tape, g2.output, g2.size, fun i hi => g2.block i hi (by simp [Value.ownBlock])⟩⟩
theorem refmutbytes_any (x : Ro) (w : World) (hx : Over w x) (hn : NumM x.1) : Calls Tryz.prog 96 #[vM x] w (BytesPost w (bytesM x.1)) := by
  obtain ⟨⟨tb, kd, key, fin, val, ex, ⟨p, l, h⟩, over⟩, ov⟩ := x
  obtain ⟨⟨t0, t1⟩, ⟨k0, k1⟩, ⟨e0, e1⟩, ⟨p0, l0, w0, p1, l1, w1⟩, s1, s2, s3, s4, s5⟩ := hn
  simp only [] at t0 t1 k0 k1 e0 e1 p0 l0 w0 p1 l1 w1 s1 s2 s3 s4 s5
  obtain ⟨tb, rfl⟩ := Int.eq_ofNat_of_zero_le t0
  obtain ⟨kd, rfl⟩ := Int.eq_ofNat_of_zero_le k0
  obtain ⟨ex, rfl⟩ := Int.eq_ofNat_of_zero_le e0
  obtain ⟨p, rfl⟩ := Int.eq_ofNat_of_zero_le p0
  obtain ⟨l, rfl⟩ := Int.eq_ofNat_of_zero_le l0
  obtain ⟨h, rfl⟩ := Int.eq_ofNat_of_zero_le w0
  refine (refmutput_any tb kd ex p l h key fin val over ov w (by omega) (by omega) (by omega) (by omega) (by omega) (by omega) s1 s2 s3 s4 s5 hx.lst).mono ?_
  rintro e w' ⟨v', rfl, g1, g2⟩
  exact ⟨v', rfl, row_of g1, g2⟩
end Go.Proofs.YtemckpmedjennaaGreatDoor.Mrk

namespace Go.Proofs.YtemckpmedjennaaGreatDoor.Rd
open Go Go.Proofs.YtemckpmedjennaaGreatDoor.Mrk Go.Proofs.YtemckpmedjennaaGreatDoor.Mut

theorem fold_push : ∀ (l : List UInt8) (acc : ByteArray), ((l.map fun b => b.toNat).map fun c : Nat => (c : Int)).foldl (fun r n => r.push (UInt8.ofNat n.toNat)) acc = ⟨acc.data ++ l.toArray⟩
  | [], acc => by simp
  | b :: l, acc => by
    rw [List.map_cons, List.map_cons, List.foldl_cons, fold_push l]
    have e : UInt8.ofNat ((b.toNat : Int)).toNat = b := by simp
    rw [e]
    show (⟨(acc.data.push b) ++ l.toArray⟩ : ByteArray) = _
    congr 1
    simp
theorem strOf_back (s : ByteArray) : strOf (strL s) = s := by
  unfold strOf strL
  rw [fold_push]
  obtain ⟨⟨l⟩⟩ := s
  have e : ByteArray.empty.data = #[] := rfl
  rw [e]
  congr 1
  simp
theorem text_back (pre post : List Nat) (s : ByteArray) (most : Int) (hs : (s.size : Int) ≤ most) (hz : s.size < 4611686018427387904) : textS (pre ++ (textF s ++ post)) most (pre.length, 0) = (s, (pre.length + (textF s).length, 0)) := by
  have h1 := num_back pre (strL s ++ post) s.size hz
  have e : pre ++ (putF s.size ++ (strL s ++ post)) = pre ++ (textF s ++ post) := by unfold textF; simp
  rw [e] at h1
  obtain ⟨B, hB⟩ : ∃ B, B = pre ++ (textF s ++ post) := ⟨_, rfl⟩
  have hB2 : B = (pre ++ putF s.size) ++ (strL s ++ post) := by rw [hB, ← e]; simp
  rw [← hB] at h1 ⊢
  have hl : (strL s).length = s.size := strL_len s
  unfold textS
  rw [h1]
  show (if (0 : Int) = 0 then (if most < ((s.size : Nat) : Int) then (ByteArray.empty, ((pre.length, (31 : Int)) : S)) else if B.length - (pre.length + (putF s.size).length) < s.size then (ByteArray.empty, (pre.length, (30 : Int))) else (strOf ((B.drop (pre.length + (putF s.size).length)).take s.size), (pre.length + (putF s.size).length + s.size, (0 : Int)))) else (ByteArray.empty, (pre.length, (0 : Int)))) = _
  have hbl : B.length = pre.length + (putF s.size).length + s.size + post.length := by rw [hB2]; simp [hl]; omega
  rw [if_pos rfl, if_neg (by omega), if_neg (by omega)]
  have hd : (B.drop (pre.length + (putF s.size).length)).take s.size = strL s := by
    rw [hB2, ← List.length_append, List.drop_left, ← hl, List.take_left]
  rw [hd, strOf_back]
  unfold textF
  rw [List.length_append, hl]
  simp
  omega
theorem get_back (pre post : List Nat) (s : Stp) (h : NumS s) (h1 : s.p < 4611686018427387904) (h2 : s.l < 4611686018427387904) (h3 : s.w < 4611686018427387904) :
    getS (pre ++ (stF s ++ post)) (pre.length, 0) = ((s.p.toNat, s.l.toNat, s.w.toNat), (pre.length + (stF s).length, 0)) := by
  obtain ⟨p0, l0, w0, -, -, -⟩ := h
  have e1 := num_back pre (putF s.l.toNat ++ (putF s.w.toNat ++ post)) s.p.toNat (by omega)
  have e2 := num_back (pre ++ putF s.p.toNat) (putF s.w.toNat ++ post) s.l.toNat (by omega)
  have e3 := num_back (pre ++ putF s.p.toNat ++ putF s.l.toNat) post s.w.toNat (by omega)
  have f1 : pre ++ (putF s.p.toNat ++ (putF s.l.toNat ++ (putF s.w.toNat ++ post))) = pre ++ (stF s ++ post) := by unfold stF; simp
  have f2 : (pre ++ putF s.p.toNat) ++ (putF s.l.toNat ++ (putF s.w.toNat ++ post)) = pre ++ (stF s ++ post) := by unfold stF; simp
  have f3 : (pre ++ putF s.p.toNat ++ putF s.l.toNat) ++ (putF s.w.toNat ++ post) = pre ++ (stF s ++ post) := by unfold stF; simp
  rw [f1] at e1
  rw [f2] at e2
  rw [f3] at e3
  rw [List.length_append] at e2
  rw [List.length_append, List.length_append] at e3
  unfold getS
  rw [e1, e2, e3]
  unfold stF
  simp
  omega
end Go.Proofs.YtemckpmedjennaaGreatDoor.Rd

namespace Go.Proofs.YtemckpmedjennaaGreatDoor.Rd
open Go Go.Proofs.YtemckpmedjennaaGreatDoor.Mrk Go.Proofs.YtemckpmedjennaaGreatDoor.Mut

theorem count_back (pre post : List Nat) (n : Nat) (most : Int) (hn : n < 4611686018427387904) (hm : (n : Int) ≤ most) : countS (pre ++ (putF n ++ post)) most (pre.length, 0) = (n, (pre.length + (putF n).length, 0)) := by
  unfold countS
  rw [num_back pre post n hn]
  rw [if_pos rfl, if_neg (by show ¬ most < (n : Int); omega)]
theorem stOf_back {s : Stp} (h : NumS s) : stOf (s.p.toNat, s.l.toNat, s.w.toNat) = s := by
  obtain ⟨p0, l0, w0, -, -, -⟩ := h
  obtain ⟨p, l, w⟩ := s
  unfold stOf
  simp only [Stp.mk.injEq]
  exact ⟨Int.toNat_of_nonneg p0, Int.toNat_of_nonneg l0, Int.toNat_of_nonneg w0⟩
/-- A stamp whose numbers are read back. -/
structure LowS (s : Stp) : Prop where
  n : NumS s
  p : s.p < 4611686018427387904
  l : s.l < 4611686018427387904
  w : s.w < 4611686018427387904
theorem overs_back : ∀ (l : List Stp) (pre post : List Nat), (∀ s ∈ l, LowS s) → oversS (pre ++ (l.flatMap stF ++ post)) l.length (pre.length, 0) = (l, (pre.length + (l.flatMap stF).length, 0))
  | [], pre, post, _ => by simp [oversS]
  | s :: l, pre, post, h => by
    have hs := h s (by simp)
    have h1 := get_back pre (l.flatMap stF ++ post) s hs.n hs.p hs.l hs.w
    have h2 := overs_back l (pre ++ stF s) post fun x hx => h x (by simp [hx])
    have e1 : pre ++ (stF s ++ (l.flatMap stF ++ post)) = pre ++ ((s :: l).flatMap stF ++ post) := by simp
    have e2 : (pre ++ stF s) ++ (l.flatMap stF ++ post) = pre ++ ((s :: l).flatMap stF ++ post) := by simp
    rw [e1] at h1
    rw [e2, List.length_append] at h2
    rw [List.length_cons, oversS, h1]
    show (stOf _ :: (oversS _ l.length (pre.length + (stF s).length, 0)).1, (oversS _ l.length (pre.length + (stF s).length, 0)).2) = _
    rw [h2, stOf_back hs.n]
    simp
    omega
end Go.Proofs.YtemckpmedjennaaGreatDoor.Rd

namespace Go.Proofs.YtemckpmedjennaaGreatDoor.Mrk
open Go.RowKit Go.Proofs.YtemckpmedjennaaGreatDoor.Spare Go.Proofs.YtemckpmedjennaaGreatDoor.RegInv Go.Proofs.YtemckpmedjennaaGreatDoor.Mut
set_option linter.unusedSectionVars false
variable [Inhabited Lim]

/-- The bytes of a row of mutations. -/
def bytesR (l : List Mu) : List Nat := putF l.length ++ l.flatMap bytesM
theorem put_ro (x : Ro) (wb w : World) (v : Value) (bs : List Nat) (hx : Over wb x) (hn : NumM x.1) (hbw : Below wb.heap.size wb w) (hv : OwnB w wb.heap.size v bs) (hbs : bs.length ≤ 600000) :
    Calls Tryz.prog 90 #[v, vM x] w (OnPost wb.heap.size v (bs ++ bytesM x.1) w) := by
  obtain ⟨⟨tb, kd, key, fin, val, ex, ⟨p, l, h⟩, over⟩, ov⟩ := x
  obtain ⟨⟨t0, t1⟩, ⟨k0, k1⟩, ⟨e0, e1⟩, ⟨p0, l0, w0, p1, l1, w1⟩, s1, s2, s3, s4, s5⟩ := hn
  simp only [] at t0 t1 k0 k1 e0 e1 p0 l0 w0 p1 l1 w1 s1 s2 s3 s4 s5
  obtain ⟨tb, rfl⟩ := Int.eq_ofNat_of_zero_le t0
  obtain ⟨kd, rfl⟩ := Int.eq_ofNat_of_zero_le k0
  obtain ⟨ex, rfl⟩ := Int.eq_ofNat_of_zero_le e0
  obtain ⟨p, rfl⟩ := Int.eq_ofNat_of_zero_le p0
  obtain ⟨l, rfl⟩ := Int.eq_ofNat_of_zero_le l0
  obtain ⟨h, rfl⟩ := Int.eq_ofNat_of_zero_le w0
  exact mutput_onto tb kd ex p l h key fin val over ov wb v bs w (by omega) (by omega) (by omega) (by omega) (by omega) (by omega) s1 s2 s3 s4 s5 hx.lst hbw hv hbs

set_option maxHeartbeats 8000000 in
set_option maxRecDepth 100000 in
theorem all_any (bs : List Nat) (v rv : Value) (R : List Ro) (w : World) (hr : MRow w rv R) (hnum : ∀ x ∈ R, NumM x.1) (hn : R.length ≤ 500) (hsmall : (bs ++ bytesR (R.map (·.1))).length ≤ 550000)
    (hput : Calls Tryz.prog 89 #[v, .int .i64 (R.length : Nat)] w fun e w' => ∃ v', e = .returned v' ∧ OwnB w' w.heap.size v' (bs ++ putF R.length) ∧ Below w.heap.size w w') :
    Calls Tryz.prog 59 #[v, rv] w fun e w' => ∃ v', e = .returned v' ∧ OwnB w' w.heap.size v' (bs ++ bytesR (R.map (·.1))) ∧ Below w.heap.size w w' := by
  obtain ⟨ro, cap, rfl, -, -⟩ := hr.form
  obtain ⟨n, hnr⟩ : ∃ k, k = R.length := ⟨_, rfl⟩
  rw [← hnr] at hr hn hput ⊢
  have HR := Lib.hid hr
  have HN := Lib.hid hnr
  have HNU := Lib.hid hnum
  have HP := Lib.hid hput
  obtain ⟨Q, hQ⟩ : ∃ Q, Q = bs ++ bytesR (R.map (·.1)) := ⟨_, rfl⟩
  rw [← hQ] at hsmall ⊢
  have HQ := Lib.hid (show Q = (bs ++ putF n) ++ (R.map (·.1)).flatMap bytesM from by rw [hQ]; unfold bytesR; rw [List.length_map, ← hnr, List.append_assoc])
  clear hr hnr hnum hput hQ
  go_enter Tryz.func59, Tryz.ntmps59
  go_wp2_with fail
  refine HP.out.mono ?_
  rintro e w1 ⟨v1, rfl, ho1, hb1⟩
  have HO1 := Lib.hid ho1
  have HB1 := Lib.hid hb1
  clear ho1 hb1 HP
  go_wp2_with fail
  go_loopw [0, 13] (fun ov iv wr => ∃ k : Nat, k ≤ n ∧ iv = .int .i64 k ∧ Hid (OwnB wr w.heap.size ov ((bs ++ putF n) ++ ((R.take k).map (·.1)).flatMap bytesM)) ∧ Hid (Below w.heap.size w wr)) (fun _ iv _ => n - (intOf iv).toNat)
  case atStart => exact ⟨0, by omega, rfl, Lib.hid (by simpa using HO1.out), HB1⟩
  case round =>
    obtain ⟨k, hk, rfl, ho, hb⟩ := hrel
    by_cases hlt : k < n
    · have hkr : k < R.length := by have := HN.out; omega
      obtain ⟨x, hx⟩ : ∃ x, R[k]? = some x := ⟨_, List.getElem?_eq_getElem hkr⟩
      have hmr : MRow wr (.slice ro n cap) R := HR.out.below hb.out
      obtain ⟨xb, xoff, hao, hat⟩ := hmr.at_ hx
      cases hao
      have hxm := List.mem_of_getElem? hx
      have hov0 := HR.out.over x hxm
      obtain ⟨xo, xc, xe, -, -⟩ := Over.form hov0
      have HOV := Lib.hid hov0
      have HNX := Lib.hid (HNU.out x hxm)
      have HXE := Lib.hid xe
      obtain ⟨bk, hbk⟩ : ∃ b, b = (bs ++ putF n) ++ ((R.take k).map (·.1)).flatMap bytesM := ⟨_, rfl⟩
      have HBK := Lib.hid (show (bs ++ putF n) ++ ((R.take (k + 1)).map (·.1)).flatMap bytesM = bk ++ bytesM x.1 from by
        rw [hbk, List.take_add_one, hx]; simp)
      have HBL := Lib.hid (show bk.length ≤ 600000 from by
        have h1 : (((R.take k).map (·.1)).flatMap bytesM).length ≤ ((R.map (·.1)).flatMap bytesM).length := by
          conv => rhs; rw [← List.take_append_drop k R]
          rw [List.map_append, List.flatMap_append, List.length_append]
          omega
        have h2 := congrArg List.length HQ.out
        rw [List.length_append] at h2
        rw [hbk, List.length_append]
        omega)
      rw [← hbk] at ho
      obtain ⟨hbl0, a0, a1, a2, a3, a4, a5, a6, a7, a8, a9⟩ := hat
      rw [xe] at a9
      have j0 : (0 : Int) ≤ (k : Int) := by omega
      have j1 : (k : Int) < (n : Int) := by omega
      clear hmr hx hxm hov0 xe hbk hkr
      go_upto_region 5 with fail
      obtain ⟨W2, hW2⟩ : ∃ W, W = wr.alloc (.cells #[.int .i64 x.1.table, .int .i64 x.1.kind, .string x.1.key, .string x.1.fin, .string x.1.val, .int .i64 x.1.expiry, .int .i64 x.1.at_.p, .int .i64 x.1.at_.l, .int .i64 x.1.at_.w, .slice xo x.1.over.length xc] 28) := ⟨_, rfl⟩
      rw [← hW2]
      obtain ⟨nv, hnv⟩ : ∃ k, k = wr.heap.size := ⟨_, rfl⟩
      rw [← hnv]
      have hb2 : Below wr.heap.size wr W2 := by rw [hW2]; exact (Below.refl _ wr).alloc (Nat.le_refl _) _
      have hbx : W2.heap[nv]? = some (.cells #[.int .i64 x.1.table, .int .i64 x.1.kind, .string x.1.key, .string x.1.fin, .string x.1.val, .int .i64 x.1.expiry, .int .i64 x.1.at_.p, .int .i64 x.1.at_.l, .int .i64 x.1.at_.w, .slice xo x.1.over.length xc] 28 (0, 0)) := by rw [hW2, hnv]; exact heap_alloc_new wr _
      have HO2 := Lib.hid (ho.out.below hb2)
      have HB2 := Lib.hid (below_then hb.out (Nat.le_refl _) hb2)
      have m0 : W2.cell? ⟨nv, 0, none⟩ = some (.int .i64 x.1.table) := by rw [cell_of_row W2 nv 0 _ _ (0, 0) hbx]; rfl
      have m1 : W2.cell? ⟨nv, 1, none⟩ = some (.int .i64 x.1.kind) := by rw [cell_of_row W2 nv 1 _ _ (0, 0) hbx]; rfl
      have m2 : W2.cell? ⟨nv, 2, none⟩ = some (.string x.1.key) := by rw [cell_of_row W2 nv 2 _ _ (0, 0) hbx]; rfl
      have m3 : W2.cell? ⟨nv, 3, none⟩ = some (.string x.1.fin) := by rw [cell_of_row W2 nv 3 _ _ (0, 0) hbx]; rfl
      have m4 : W2.cell? ⟨nv, 4, none⟩ = some (.string x.1.val) := by rw [cell_of_row W2 nv 4 _ _ (0, 0) hbx]; rfl
      have m5 : W2.cell? ⟨nv, 5, none⟩ = some (.int .i64 x.1.expiry) := by rw [cell_of_row W2 nv 5 _ _ (0, 0) hbx]; rfl
      have m6 : W2.cell? ⟨nv, 6, none⟩ = some (.int .i64 x.1.at_.p) := by rw [cell_of_row W2 nv 6 _ _ (0, 0) hbx]; rfl
      have m7 : W2.cell? ⟨nv, 7, none⟩ = some (.int .i64 x.1.at_.l) := by rw [cell_of_row W2 nv 7 _ _ (0, 0) hbx]; rfl
      have m8 : W2.cell? ⟨nv, 8, none⟩ = some (.int .i64 x.1.at_.w) := by rw [cell_of_row W2 nv 8 _ _ (0, 0) hbx]; rfl
      have m9 : W2.cell? ⟨nv, 9, none⟩ = some (.slice xo x.1.over.length xc) := by rw [cell_of_row W2 nv 9 _ _ (0, 0) hbx]; rfl
      have HPU := Lib.hid (put_ro x w W2 _ bk HOV.out HNX.out HB2.out HO2.out HBL.out)
      have hpu := HPU.out
      unfold vM at hpu
      rw [HXE.out] at hpu
      have HPV := Lib.hid hpu
      clear hpu HPU hW2 hb2 hbx hnv a0 a1 a2 a3 a4 a5 a6 a7 a8 a9 ho hb hbl0
      go_wp2_with fail
      refine HPV.out.mono ?_
      rintro e w3 ⟨v3, rfl, ho3, hg3, -⟩
      have HO3 := Lib.hid (show OwnB w3 w.heap.size v3 ((bs ++ putF n) ++ ((R.take (k + 1)).map (·.1)).flatMap bytesM) from by rw [HBK.out]; exact ho3)
      have HB3 := Lib.hid (HB2.out.grown hg3 HB2.out.size (fun j hj => (World.ownsRow.lt HO2.out j hj).1))
      clear ho3 hg3 m0 m1 m2 m3 m4 m5 m6 m7 m8 m9
      go_wp2_with fail
      go_roundw
      case rel => exact ⟨k + 1, by omega, by go_num, HO3, HB3⟩
      case measure => simp [intOf]; omega
    · obtain rfl : k = n := by omega
      have HO9 := Lib.hid (show OwnB wr w.heap.size _ Q from by
        have h := ho.out
        rw [List.take_of_length_le (by rw [HN.out]; exact Nat.le_refl _), ← HQ.out] at h
        exact h)
      clear ho
      go_wp2_with fail
      go_ret
      exact ⟨_, rfl, HO9.out, hb.out⟩
end Go.Proofs.YtemckpmedjennaaGreatDoor.Mrk

namespace Go.Proofs.YtemckpmedjennaaGreatDoor.Spare
open Go Go.RowKit

section
variable {P : Program}
/-- As run_append_spare, of any number of elements, none too. -/
theorem run_append_spareAny (w : World) (base : Nat) (t ty e : TypeId) (i : TypeInfo) (z : Value) (zs : List Value) (bytes : Nat) (ht : P.underlying t = some (.slice e)) (hi : P.info? e = some i) (hz : i.zero = some z)
    (hzc : z.cells = zs.toArray) (hsize : i.size = zs.length) (hby : i.bytes = bytes) (hpos : 0 < zs.length)
    (v : Value) (n : Nat) (xs : List Value) (hs : Spare w base e zs v n xs)
    (xo : Option Addr) (m c : Nat) (news : List Value) (hl : news.length = m * zs.length) (hx : m = 0 ∨ ∃ ad, xo = some ad ∧ ∀ j u, news[j]? = some u → w.cell? (ad.add j) = some u) (h1 : ∀ u ∈ news, u.oneCell' = true)
    (h63 : n + m ≤ maxLen) (hbytes : (n + m) * bytes ≤ 140737488355328) (hbase : base ≤ w.heap.size) :
    ∃ v' w', (Builtin.append_ #[t, t] ty #[v, .slice xo m c]).run P w = .ok v' w' ∧ Spare w' base e zs v' (n + m) (xs ++ news) ∧ w.grownBy w' v.ownBlock ∧ Kept w w' zs v n ∧ SpareLoc w v v' := by
  by_cases hm : m = 0
  · subst hm
    obtain rfl : news = [] := List.eq_nil_of_length_eq_zero (by simpa using hl)
    obtain ⟨ao, cap, rfl⟩ := row_form hs.own
    have hcap : n ≤ cap := by
      rcases hs.own.2 with ⟨e, _⟩ | ⟨g, c, cur, e, _, _, h3, _⟩
      · cases e; omega
      · cases e; exact h3
    have hsr : Src P i.size t (.slice xo 0 c) 0 [] w := by
      cases xo with
      | none => exact Src.ofNil w ht c
      | some a => exact Src.ofSlice w ht a 0 c [] (by simp) (fun j u h => by simp at h) (fun u h => by cases h)
    exact ⟨_, _, run_append_nothing w t t ty e i ht hi ao n cap hcap _ hsr, by simpa using hs, ⟨rfl, rfl, rfl, Nat.le_refl _, fun _ _ _ => rfl⟩, fun b o u hc => Or.inl hc, fun g hg => Or.inl hg⟩
  · rcases hx with h0 | ⟨ad, rfl, hx⟩
    · exact absurd h0 hm
    · exact run_append_spare (P := P) w base t ty e i z zs bytes ht hi hz hzc hsize hby hpos v n xs hs ad m c news (Or.inl (by omega)) hl hx h1 h63 hbytes hbase

theorem wpList_append_spareAny {w : World} {ops : Array Oper} {rest : List Oper} {o : Oper} {a : Act} {Q : Exit → Act → World → Prop} (hgd : o.guard = none) (s x : Operand) (t : TypeId)
    (ho : o.op = .call { callee := .builtin .append, args := #[s, x], argTypes := #[t, t] })
    (base : Nat) (e : TypeId) (i : TypeInfo) (z : Value) (zs : List Value) (bytes : Nat) (ht : P.underlying t = some (.slice e)) (hi : P.info? e = some i) (hz : i.zero = some z)
    (hzc : z.cells = zs.toArray) (hsize : i.size = zs.length) (hby : i.bytes = bytes) (hpos : 0 < zs.length)
    (v : Value) (n : Nat) (xs : List Value) (hs : a.eval s = v) (hown : Spare w base e zs v n xs)
    (xo : Option Addr) (m c : Nat) (news : List Value) (hxv : a.eval x = .slice xo m c) (hl : news.length = m * zs.length) (hx : m = 0 ∨ ∃ ad, xo = some ad ∧ ∀ j u, news[j]? = some u → w.cell? (ad.add j) = some u) (h1 : ∀ u ∈ news, u.oneCell' = true)
    (h63 : n + m ≤ maxLen) (hbytes : (n + m) * bytes ≤ 140737488355328) (hbase : base ≤ w.heap.size)
    (h : ∀ v' w', Spare w' base e zs v' (n + m) (xs ++ news) → w.grownBy w' v.ownBlock → Kept w w' zs v n → SpareLoc w v v' → wpList P ops Q rest (a.put o.dst v') w') : wpList P ops Q (o :: rest) a w := by
  refine wpList_plain hgd fun K hK => ?_
  obtain ⟨v', w', hr, q1, q2, q3, q4⟩ := run_append_spareAny (P := P) w base t o.type e i z zs bytes ht hi hz hzc hsize hby hpos v n xs hown xo m c news hl hx h1 h63 hbytes hbase
  unfold Oper.wp execOp
  simp only [ho, resolve, invoke, builtin, Sem.run_bind, Sem.run_pure, Result.andThen_ok, List.map_toArray, List.map_cons, List.map_nil, hs, hxv, hr]
  exact hK _ _ (h v' w' q1 q2 q3 q4)
/-- The same where the operation has a guard. -/
theorem wpList_append_spareAnyG {w : World} {ops : Array Oper} {rest : List Oper} {o : Oper} {a : Act} {Q : Exit → Act → World → Prop} (hgd : Region.wanted o (yielded ops a.tmps) = true) (s x : Operand) (t : TypeId)
    (ho : o.op = .call { callee := .builtin .append, args := #[s, x], argTypes := #[t, t] })
    (base : Nat) (e : TypeId) (i : TypeInfo) (z : Value) (zs : List Value) (bytes : Nat) (ht : P.underlying t = some (.slice e)) (hi : P.info? e = some i) (hz : i.zero = some z)
    (hzc : z.cells = zs.toArray) (hsize : i.size = zs.length) (hby : i.bytes = bytes) (hpos : 0 < zs.length)
    (v : Value) (n : Nat) (xs : List Value) (hs : a.eval s = v) (hown : Spare w base e zs v n xs)
    (xo : Option Addr) (m c : Nat) (news : List Value) (hxv : a.eval x = .slice xo m c) (hl : news.length = m * zs.length) (hx : m = 0 ∨ ∃ ad, xo = some ad ∧ ∀ j u, news[j]? = some u → w.cell? (ad.add j) = some u) (h1 : ∀ u ∈ news, u.oneCell' = true)
    (h63 : n + m ≤ maxLen) (hbytes : (n + m) * bytes ≤ 140737488355328) (hbase : base ≤ w.heap.size)
    (h : ∀ v' w', Spare w' base e zs v' (n + m) (xs ++ news) → w.grownBy w' v.ownBlock → Kept w w' zs v n → SpareLoc w v v' → wpList P ops Q rest (a.put o.dst v') w') : wpList P ops Q (o :: rest) a w := by
  refine wpList_step fun K hK => ?_
  rw [if_pos hgd]
  obtain ⟨v', w', hr, q1, q2, q3, q4⟩ := run_append_spareAny (P := P) w base t o.type e i z zs bytes ht hi hz hzc hsize hby hpos v n xs hown xo m c news hl hx h1 h63 hbytes hbase
  unfold Oper.wp execOp
  simp only [ho, resolve, invoke, builtin, Sem.run_bind, Sem.run_pure, Result.andThen_ok, List.map_toArray, List.map_cons, List.map_nil, hs, hxv, hr]
  exact hK _ _ (h v' w' q1 q2 q3 q4)
end
end Go.Proofs.YtemckpmedjennaaGreatDoor.Spare

namespace Go.Proofs.YtemckpmedjennaaGreatDoor.Mut
open Go.RowKit Go.Proofs.YtemckpmedjennaaGreatDoor.Spare
set_option linter.unusedSectionVars false

def zM : List Value := [.int .i64 0, .int .i64 0, .string ByteArray.empty, .string ByteArray.empty, .string ByteArray.empty, .int .i64 0, .int .i64 0, .int .i64 0, .int .i64 0, .slice none 0 0]
theorem spare_lit (w : World) (base : Nat) (e : TypeId) (zs : List Value) (hpos : 0 < zs.length) (hb : base ≤ w.heap.size) : Spare (w.alloc (.cells #[] e)) base e zs (.slice (some ⟨w.heap.size, 0, none⟩) 0 0) 0 [] := by
  have h := fresh_spare w base e zs hpos 0 0 [] (by simp) (Nat.le_refl _) (Nat.zero_le _) hb
  have e0 : (([] : List Value).toArray ++ Builtin.zeroCells zs.toArray (0 - 0)) = #[] := by simp [Builtin.zeroCells]
  rw [e0] at h
  exact h
theorem lst_src {α : Type} {sz : Nat} {en : α → List Value} {w : World} {ao : Option Addr} {n cap : Nat} {l : List α} (hen : ∀ x, (en x).length = sz) (hsz : 0 < sz) (h : Lst sz en w (.slice ao n cap) l) :
    n = 0 ∨ ∃ ad, ao = some ad ∧ ∀ j u, (l.flatMap en)[j]? = some u → w.cell? (ad.add j) = some u := by
  have hl := Lst.len h
  cases ao with
  | some a => exact Or.inr ⟨a, rfl, Lst.news hen hsz h⟩
  | none =>
    left
    cases l with
    | nil => exact hl
    | cons x l =>
      obtain ⟨b, off, e, -⟩ := Lst.get h (show 0 < (x :: l).length by simp)
      cases e
end Go.Proofs.YtemckpmedjennaaGreatDoor.Mut

namespace Go.Proofs.YtemckpmedjennaaGreatDoor.Mrk
open Go.RowKit Go.Proofs.YtemckpmedjennaaGreatDoor.Spare Go.Proofs.YtemckpmedjennaaGreatDoor.RegInv Go.Proofs.YtemckpmedjennaaGreatDoor.Mut
set_option linter.unusedSectionVars false
variable [Inhabited Lim]

theorem bytesM_ne (m : Mu) : bytesM m ≠ [] := by unfold bytesM; simp [textF_ne]
theorem brow_src {w : World} {v : Value} {l : List Nat} (h : BRow w v l) (hne : l ≠ []) : ∃ ad cap, v = .slice (some ad) l.length cap ∧ ∀ j u, (l.flatMap enB)[j]? = some u → w.cell? (ad.add j) = some u := by
  obtain ⟨ao, cap, rfl, -, -⟩ := Lst.form h
  cases ao with
  | none =>
    exfalso
    obtain ⟨b, o, e, -, -⟩ := Lst.get h (i := 0) (List.length_pos_iff.2 hne)
    cases e
  | some a => exact ⟨a, cap, rfl, Lst.news enB_len (by decide) h⟩

set_option maxHeartbeats 8000000 in
set_option maxRecDepth 100000 in
theorem refall07_any (rv : Value) (R : List Ro) (w : World) (hr : MRow w rv R) (hnum : ∀ x ∈ R, NumM x.1) (hn : R.length ≤ 500) (hsmall : (bytesR (R.map (·.1))).length ≤ 10000000) :
    Calls Tryz.prog 61 #[rv] w fun e w' => ∃ v', e = .returned v' ∧ OwnB w' w.heap.size v' (bytesR (R.map (·.1))) ∧ Below w.heap.size w w' := by
  obtain ⟨ro, cap, rfl, -, -⟩ := hr.form
  obtain ⟨i0, hi, hz0, hz1, hz2⟩ := info_parts_B
  have HI := Lib.hid (And.intro hi (And.intro hz0 (And.intro hz1 hz2)))
  obtain ⟨n, hnr⟩ : ∃ k, k = R.length := ⟨_, rfl⟩
  rw [← hnr] at hr hn ⊢
  have HR := Lib.hid hr
  have HN := Lib.hid hnr
  have HNU := Lib.hid hnum
  have HP := Lib.hid (refput_any n w (by omega))
  obtain ⟨Q, hQ⟩ : ∃ Q, Q = bytesR (R.map (·.1)) := ⟨_, rfl⟩
  rw [← hQ] at hsmall ⊢
  have HQ := Lib.hid (show Q = putF n ++ (R.map (·.1)).flatMap bytesM from by rw [hQ]; unfold bytesR; rw [List.length_map, ← hnr])
  clear hr hnr hnum hQ hi hz0 hz1 hz2
  go_enter Tryz.func61, Tryz.ntmps61
  go_wp2_with fail
  refine HP.out.mono ?_
  rintro e w1 ⟨v1, rfl, ho1, hb1⟩
  have HO1 := Lib.hid ho1
  have HB1 := Lib.hid hb1
  clear ho1 hb1 HP
  go_wp2_with fail
  go_loopw [3, 4] (fun ov iv wr => ∃ (k on : Nat), k ≤ n ∧ iv = .int .i64 k ∧ on ≤ 10000000 ∧ Hid (on = (putF n ++ ((R.take k).map (·.1)).flatMap bytesM).length) ∧ Hid (wr.ownsRow w.heap.size 5 1 ov on ((putF n ++ ((R.take k).map (·.1)).flatMap bytesM).flatMap enB)) ∧ Hid (Below w.heap.size w wr)) (fun _ iv _ => n - (intOf iv).toNat)
  case atStart => exact ⟨0, (putF n).length, by omega, rfl, (by have := putF_ten (n := n) (by omega); omega), Lib.hid (by simp), Lib.hid (by simpa using HO1.out), HB1⟩
  case round =>
    obtain ⟨k, on, hk, rfl, hon, hol, ho, hb⟩ := hrel
    obtain ⟨oo, oc, rfl⟩ := row_form ho.out
    by_cases hlt : k < n
    · have hkr : k < R.length := by have := HN.out; omega
      obtain ⟨x, hx⟩ : ∃ x, R[k]? = some x := ⟨_, List.getElem?_eq_getElem hkr⟩
      have hmr : MRow wr (.slice ro n cap) R := HR.out.below hb.out
      obtain ⟨xb, xoff, hao, hat⟩ := hmr.at_ hx
      cases hao
      have hxm := List.mem_of_getElem? hx
      have hov := hmr.over x hxm
      obtain ⟨xo, xc, xe, -, -⟩ := Over.form hov
      have HNX := Lib.hid (HNU.out x hxm)
      obtain ⟨bk, hbk⟩ : ∃ b, b = putF n ++ ((R.take k).map (·.1)).flatMap bytesM := ⟨_, rfl⟩
      have HBK := Lib.hid (show putF n ++ ((R.take (k + 1)).map (·.1)).flatMap bytesM = bk ++ bytesM x.1 from by
        rw [hbk, List.take_add_one, hx]; simp)
      have HBL := Lib.hid (show (bk ++ bytesM x.1).length ≤ 10000000 from by
        have h1 : (((R.take (k + 1)).map (·.1)).flatMap bytesM).length ≤ ((R.map (·.1)).flatMap bytesM).length := by
          conv => rhs; rw [← List.take_append_drop (k + 1) R]
          rw [List.map_append, List.flatMap_append, List.length_append]
          omega
        have h2 := congrArg List.length HQ.out
        rw [List.length_append] at h2
        rw [← HBK.out, List.length_append]
        omega)
      rw [← hbk] at ho hol
      have HPU := Lib.hid (refmutbytes_any x wr hov HNX.out)
      have hpu := HPU.out
      unfold vM at hpu
      rw [xe] at hpu
      have HPV := Lib.hid hpu
      obtain ⟨hbl0, a0, a1, a2, a3, a4, a5, a6, a7, a8, a9⟩ := hat
      rw [xe] at a9
      have j0 : (0 : Int) ≤ (k : Int) := by omega
      have j1 : (k : Int) < (n : Int) := by omega
      clear hmr hx hxm hov xe hbk hkr hpu HPU
      go_wp2_with fail
      refine HPV.out.mono ?_
      rintro e w2 ⟨v2, rfl, hv2, hb2⟩
      obtain ⟨ad, c2, rfl, hsrc⟩ := brow_src hv2 (bytesM_ne x.1)
      have HO2 := Lib.hid (row_below ho.out hb2)
      have HB2 := Lib.hid (below_then hb.out (Nat.le_refl _) hb2)
      have HSR := Lib.hid hsrc
      obtain ⟨m, hm⟩ : ∃ m, m = (bytesM x.1).length := ⟨_, rfl⟩
      have hmp : 0 < m := by rw [hm]; exact List.length_pos_iff.2 (bytesM_ne x.1)
      have hnm : on + m ≤ 10000000 := by have h := HBL.out; rw [List.length_append, ← hol.out, ← hm] at h; exact h
      rw [← hm]
      have HM := Lib.hid hm
      have hbz := HB2.out.size
      clear hv2 hb2 hsrc hm a0 a1 a2 a3 a4 a5 a6 a7 a8 a9 ho hb hbl0
      go_wp2_with (at_builtin; refine wpList_append_own_loc rfl (.tmp 14) (.tmp 19) 74 rfl w.heap.size 5 i0 (.int .u8 0) [.int .u8 0] 1 Tryz.underlying74 HI.out.1 HI.out.2.1 rfl HI.out.2.2.1 HI.out.2.2.2 (by decide) (.slice oo on oc) on (bk.flatMap enB) rfl HO2.out ad m c2 ((bytesM x.1).flatMap enB) rfl hmp (by rw [flat_enB_len, ← HM.out]) HSR.out (enB_one _) (by unfold maxLen; omega) (by omega) hbz ?_)
      intro v3 w3 g1 g2 g3
      have HO3 := Lib.hid (show w3.ownsRow w.heap.size 5 1 v3 (on + m) ((putF n ++ ((R.take (k + 1)).map (·.1)).flatMap bytesM).flatMap enB) from by rw [HBK.out, List.flatMap_append]; exact g1)
      have HB3 := Lib.hid (HB2.out.grown g2 HB2.out.size (fun j hj => (HO2.out.lt j hj).1))
      have HL3 := Lib.hid (show on + m = (putF n ++ ((R.take (k + 1)).map (·.1)).flatMap bytesM).length from by rw [HBK.out, List.length_append, ← hol.out, ← HM.out])
      clear g1 g2 g3
      go_wp2_with fail
      go_roundw
      case rel => exact ⟨k + 1, on + m, by omega, by go_num, hnm, HL3, HO3, HB3⟩
      case measure => simp [intOf]; omega
    · obtain rfl : k = n := by omega
      have HO9 := Lib.hid (show OwnB wr w.heap.size (.slice oo on oc) Q from by
        have h := ho.out
        have h2 := hol.out
        rw [List.take_of_length_le (by rw [HN.out]; exact Nat.le_refl _), ← HQ.out] at h h2
        unfold OwnB
        rw [← h2]
        exact h)
      clear ho
      go_wp2_with fail
      go_ret
      exact ⟨_, rfl, HO9.out, hb.out⟩
end Go.Proofs.YtemckpmedjennaaGreatDoor.Mrk

namespace Go.Proofs.YtemckpmedjennaaGreatDoor.Mrk
open Go.RowKit Go.Proofs.YtemckpmedjennaaGreatDoor.Spare Go.Proofs.YtemckpmedjennaaGreatDoor.RegInv Go.Proofs.YtemckpmedjennaaGreatDoor.Mut
set_option linter.unusedSectionVars false
variable [Inhabited Lim]

theorem right_sizes {m : Mu} (h : rightF m = true) : m.key.size ≤ 24 ∧ m.fin.size ≤ 24 ∧ m.val.size ≤ 64 ∧ m.over.length ≤ 24 := by
  unfold rightF rightG at h
  simp only [Bool.and_eq_true, Bool.not_eq_true', Bool.or_eq_false_iff, Bool.and_eq_false_iff, decide_eq_true_eq, decide_eq_false_iff_not, Bool.not_eq_false'] at h
  obtain ⟨h1, h2, h3, ⟨e1, e2, -⟩, h4, h5, h6⟩ := h
  have k1 := keyF_size h2
  have k2 := valF_size h4.2
  unfold overF at h3
  simp only [Bool.and_eq_true, decide_eq_true_eq] at h3
  have k4 : m.fin.size ≤ 24 := by
    by_cases hk : m.kind = 3
    · rcases h5.2 with h | h
      · exact absurd hk h
      · exact keyF_size h.1
    · rcases h5.1 with h | h
      · exact absurd h hk
      · have := empty_size h; omega
  exact ⟨k1, k4, k2, by omega⟩
theorem flat30 : ∀ (l : List Stp), (∀ s ∈ l, NumS s) → (l.flatMap stF).length ≤ 30 * l.length
  | [], _ => by simp
  | s :: l, h => by
    have h1 := flat30 l fun x hx => h x (by simp [hx])
    obtain ⟨p0, l0, w0, p1, l1, w1⟩ := h s (by simp)
    have y1 := putF_ten (n := s.p.toNat) (by omega)
    have y2 := putF_ten (n := s.l.toNat) (by omega)
    have y3 := putF_ten (n := s.w.toNat) (by omega)
    rw [List.flatMap_cons, List.length_append, List.length_cons]
    have : (stF s).length ≤ 30 := by unfold stF; simp only [List.length_append]; omega
    omega
theorem right_len {m : Mu} (h : rightF m = true) : (bytesM m).length ≤ 1000 := by
  obtain ⟨z1, z2, z3, z4⟩ := right_sizes h
  obtain ⟨⟨t0, t1⟩, ⟨k0, k1⟩, ⟨e0, e1⟩, ⟨p0, l0, w0, p1, l1, w1⟩, s1, s2, s3, s4, s5⟩ := num_right h
  have y0 := textF_len m.key (by omega)
  have y1 := putF_ten (n := m.table.toNat) (by omega)
  have y2 := putF_ten (n := m.kind.toNat) (by omega)
  have y3 := textF_len m.fin (by omega)
  have y4 := textF_len m.val (by omega)
  have y5 := putF_ten (n := m.expiry.toNat) (by omega)
  have y6 := putF_ten (n := m.at_.p.toNat) (by omega)
  have y7 := putF_ten (n := m.at_.l.toNat) (by omega)
  have y8 := putF_ten (n := m.at_.w.toNat) (by omega)
  have y9 := putF_ten (n := m.over.length) (by omega)
  have y10 := flat30 m.over s5
  unfold bytesM restL
  simp only [List.length_append]
  omega
theorem bytesR_len {l : List Mu} (h : ∀ m ∈ l, rightF m = true) (hn : l.length ≤ 1000) : (bytesR l).length ≤ 10 + 1000 * l.length := by
  have hp := putF_ten (n := l.length) (by omega)
  have hf : ∀ (l : List Mu), (∀ m ∈ l, rightF m = true) → (l.flatMap bytesM).length ≤ 1000 * l.length := by
    intro l
    induction l with
    | nil => intro _; simp
    | cons m l ih =>
      intro h
      have h1 := ih fun x hx => h x (by simp [hx])
      have h2 := right_len (h m (by simp))
      rw [List.flatMap_cons, List.length_append, List.length_cons]
      omega
  have := hf l h
  unfold bytesR
  rw [List.length_append]
  omega

set_option maxHeartbeats 4000000 in
set_option maxRecDepth 100000 in
theorem statePut_any {c : Con} {n : Nat} {v b : Value} {bs : List Nat} {w : World} (hv : IsC c v w) (h : Mut.Good c n) (hn : n ≤ 420) (hbs : bs.length ≤ 1000)
    (hput : ∀ (W : World) (k : Nat), Below w.heap.size w W → k ≤ n → Calls Tryz.prog 89 #[b, .int .i64 (k : Nat)] W fun e w' => ∃ v', e = .returned v' ∧ OwnB w' W.heap.size v' (bs ++ putF k) ∧ Below W.heap.size W w') :
    Calls Tryz.prog 25 #[b, v] w fun e w' => ∃ v', e = .returned v' ∧ OwnB w' w.heap.size v' (bs ++ bytesR (allF c)) ∧ Below w.heap.size w w' := by
  obtain ⟨o1, n1, k1, o2, n2, k2, o3, n3, k3, rfl, hlc⟩ := hv.form
  have HG := Lib.hid h
  have HP := Lib.hid hput
  have hlen := len_allF c
  have hO := h.okc.len
  have HLN := Lib.hid (show (allF c).length ≤ n from by omega)
  have HRT := Lib.hid (show ∀ m ∈ allF c, rightF m = true from fun m hm => h.okc.right m (mem_allF.1 hm))
  obtain ⟨W, hW⟩ : ∃ W, W = w.alloc (.cells #[.slice o1 n1 k1, .slice o2 n2 k2, .slice o3 n3 k3] 47) := ⟨_, rfl⟩
  have hb : Below w.heap.size w W := by rw [hW]; exact (Below.refl _ _).alloc (Nat.le_refl _) _
  have hc3 : C3 W w.heap.size (.slice o1 n1 k1) (.slice o2 n2 k2) (.slice o3 n3 k3) := by rw [hW]; exact C3.new w _ _ _
  have HAL := Lib.hid (c_all (n := n) (hlc.below hb).is h (by omega))
  have HW := Lib.hid hW
  have HB := Lib.hid hb
  obtain ⟨-, s0, s1, s2, -, -, -⟩ := hc3
  clear hv h hput hlen hO hW hb hlc
  go_enter Tryz.func25, Tryz.ntmps25
  go_upto_region 1 with fail
  rw [← HW.out]
  go_wp2_with fail
  refine HAL.out.mono ?_
  rintro e w1 ⟨g, cap, R, rfl, hcp, hm, hb1⟩
  have HB1 := Lib.hid (below_then HB.out (Nat.le_refl _) hb1)
  have hl : R.length ≤ n := by have h1 := congrArg List.length hm; rw [List.length_map] at h1; have := HLN.out; omega
  have HAA := Lib.hid (all_any bs b _ R w1 hcp.mrow (fun x hx => num_right (HRT.out _ (by rw [← hm]; exact List.mem_map.2 ⟨x, hx, rfl⟩))) (by omega) (by
    rw [hm, List.length_append]
    have h1 := bytesR_len HRT.out (by have := HLN.out; omega)
    have := HLN.out
    omega) (HP.out w1 _ HB1.out (by omega)))
  have HM := Lib.hid hm
  clear hcp hm hb1
  go_wp2_with fail
  refine HAA.out.mono ?_
  rintro e w2 ⟨v2, rfl, ho2, hb2⟩
  have HO2 := Lib.hid (show OwnB w2 w.heap.size v2 (bs ++ bytesR (allF c)) from by rw [← HM.out]; exact own_base ho2 HB1.out.size)
  have HB2 := Lib.hid (below_then HB1.out (Nat.le_refl _) hb2)
  clear ho2 hb2
  go_wp2_with fail
  go_ret
  exact ⟨_, rfl, HO2.out, HB2.out⟩

set_option maxHeartbeats 4000000 in
set_option maxRecDepth 100000 in
theorem refPut08_any {c : Con} {n : Nat} {v : Value} {w : World} (hv : IsC c v w) (h : Mut.Good c n) (hn : n ≤ 420) :
    Calls Tryz.prog 27 #[v] w fun e w' => ∃ v', e = .returned v' ∧ OwnB w' w.heap.size v' (bytesR (allF c)) ∧ Below w.heap.size w w' := by
  obtain ⟨o1, n1, k1, o2, n2, k2, o3, n3, k3, rfl, hlc⟩ := hv.form
  have hlen := len_allF c
  have hO := h.okc.len
  have HLN := Lib.hid (show (allF c).length ≤ 420 from by omega)
  have HRT := Lib.hid (show ∀ m ∈ allF c, rightF m = true from fun m hm => h.okc.right m (mem_allF.1 hm))
  obtain ⟨W, hW⟩ : ∃ W, W = w.alloc (.cells #[.slice o1 n1 k1, .slice o2 n2 k2, .slice o3 n3 k3] 75) := ⟨_, rfl⟩
  have hb : Below w.heap.size w W := by rw [hW]; exact (Below.refl _ _).alloc (Nat.le_refl _) _
  have hc3 : C3 W w.heap.size (.slice o1 n1 k1) (.slice o2 n2 k2) (.slice o3 n3 k3) := by rw [hW]; exact C3.newR w _ _ _
  have HAL := Lib.hid (c_refall (n := n) (hlc.below hb).is h (by omega))
  have HW := Lib.hid hW
  have HB := Lib.hid hb
  obtain ⟨-, s0, s1, s2, -, -, -⟩ := hc3
  clear hv h hlen hO hW hb hlc
  go_enter Tryz.func27, Tryz.ntmps27
  go_upto_region 1 with fail
  rw [← HW.out]
  go_wp2_with fail
  refine HAL.out.mono ?_
  rintro e w1 ⟨v1, rfl, ⟨R, hm, hmr⟩, hb1⟩
  have HB1 := Lib.hid (below_then HB.out (Nat.le_refl _) hb1)
  have hl : R.length ≤ 420 := by have h1 := congrArg List.length hm; rw [List.length_map] at h1; have := HLN.out; omega
  have HAA := Lib.hid (refall07_any v1 R w1 hmr (fun x hx => num_right (HRT.out _ (by rw [← hm]; exact List.mem_map.2 ⟨x, hx, rfl⟩))) (by omega) (by
    rw [hm]
    have h1 := bytesR_len HRT.out (by have := HLN.out; omega)
    have := HLN.out
    omega))
  have HM := Lib.hid hm
  clear hmr hm hb1
  go_wp2_with fail
  refine HAA.out.mono ?_
  rintro e w2 ⟨v2, rfl, ho2, hb2⟩
  have HO2 := Lib.hid (show OwnB w2 w.heap.size v2 (bytesR (allF c)) from by rw [← HM.out]; exact own_base ho2 HB1.out.size)
  have HB2 := Lib.hid (below_then HB1.out (Nat.le_refl _) hb2)
  clear ho2 hb2
  go_wp2_with fail
  go_ret
  exact ⟨_, rfl, HO2.out, HB2.out⟩
end Go.Proofs.YtemckpmedjennaaGreatDoor.Mrk

namespace Go.Proofs.YtemckpmedjennaaGreatDoor.Rd
open Go Go.Proofs.YtemckpmedjennaaGreatDoor.Mrk Go.Proofs.YtemckpmedjennaaGreatDoor.Mut
set_option linter.unusedSectionVars false
variable [Inhabited Lim]

theorem low_st {s : Stp} (h : stR s = true) : LowS s := by
  have hn := num_st h
  unfold stR at h
  simp only [Bool.and_eq_true, decide_eq_true_eq] at h
  obtain ⟨⟨⟨⟨⟨⟨h1, h2⟩, h3⟩, h4⟩, h5⟩, h6⟩, -⟩ := h
  exact ⟨hn, by omega, by omega, by omega⟩
theorem low_over (t : Stp) : ∀ (l : List Stp) (p : Option Stp), overFrom t p l = true → ∀ s ∈ l, LowS s
  | [], _, _ => fun s hs => by simp at hs
  | x :: l, p, h => fun s hs => by
    unfold overFrom at h
    simp only [Bool.and_eq_true] at h
    rcases List.mem_cons.1 hs with rfl | hs
    · exact low_st h.1
    · exact low_over t l (some x) h.2.2.2 s hs
/-- What a mutation that may be holds: numbers that are read back. -/
theorem low_right {m : Mu} (h : rightF m = true) : LowS m.at_ ∧ (∀ s ∈ m.over, LowS s) ∧ m.table < 4 ∧ m.kind < 4 ∧ m.expiry ≤ 1099511627776 := by
  unfold rightF rightG at h
  simp only [Bool.and_eq_true, Bool.not_eq_true', Bool.or_eq_false_iff, Bool.and_eq_false_iff, decide_eq_true_eq, decide_eq_false_iff_not, Bool.not_eq_false'] at h
  obtain ⟨h1, h2, h3, ⟨e1, e2, -⟩, h4, h5, h6⟩ := h
  unfold overF at h3
  simp only [Bool.and_eq_true, decide_eq_true_eq] at h3
  have k5 : (m.table = 1 ∨ m.table = 2) ∧ 1 ≤ m.kind ∧ m.kind ≤ 3 := by
    by_cases t1 : m.table = 1
    · rw [if_pos t1] at h6
      simp only [Bool.and_eq_true, decide_eq_true_eq] at h6
      exact ⟨Or.inl t1, h6.2.1, h6.2.2⟩
    · rw [if_neg t1] at h6
      by_cases t2 : m.table = 2
      · rw [if_pos t2] at h6
        simp only [Bool.or_eq_true, decide_eq_true_eq] at h6
        exact ⟨Or.inr t2, by omega, by omega⟩
      · rw [if_neg t2] at h6; cases h6
  exact ⟨low_st h1, low_over _ _ _ h3.1, by omega, by omega, by omega⟩
theorem raw_back (pre post : List Nat) (m : Mu) (h : rightF m = true) : rawS (pre ++ (restL m.table.toNat m.kind.toNat m.expiry.toNat m.at_.p.toNat m.at_.l.toNat m.at_.w.toNat m.fin m.val m.over ++ post)) m.key (pre.length, 0) = (m, (pre.length + (restL m.table.toNat m.kind.toNat m.expiry.toNat m.at_.p.toNat m.at_.l.toNat m.at_.w.toNat m.fin m.val m.over).length, 0)) := by
  obtain ⟨z1, z2, z3, z4⟩ := right_sizes h
  obtain ⟨ha, ho, ht, hk, he⟩ := low_right h
  have hn := num_right h
  obtain ⟨L, hL⟩ : ∃ L, L = m.over.flatMap stF := ⟨_, rfl⟩
  obtain ⟨B, hB⟩ : ∃ B, B = pre ++ (restL m.table.toNat m.kind.toNat m.expiry.toNat m.at_.p.toNat m.at_.l.toNat m.at_.w.toNat m.fin m.val m.over ++ post) := ⟨_, rfl⟩
  obtain ⟨P1, hP1⟩ : ∃ P, P = pre ++ putF m.table.toNat := ⟨_, rfl⟩
  obtain ⟨P2, hP2⟩ : ∃ P, P = P1 ++ putF m.kind.toNat := ⟨_, rfl⟩
  obtain ⟨P3, hP3⟩ : ∃ P, P = P2 ++ textF m.fin := ⟨_, rfl⟩
  obtain ⟨P4, hP4⟩ : ∃ P, P = P3 ++ textF m.val := ⟨_, rfl⟩
  obtain ⟨P5, hP5⟩ : ∃ P, P = P4 ++ putF m.expiry.toNat := ⟨_, rfl⟩
  obtain ⟨P6, hP6⟩ : ∃ P, P = P5 ++ stF m.at_ := ⟨_, rfl⟩
  obtain ⟨P7, hP7⟩ : ∃ P, P = P6 ++ putF m.over.length := ⟨_, rfl⟩
  have hB7 : B = P7 ++ (L ++ post) := by rw [hB, hP7, hP6, hP5, hP4, hP3, hP2, hP1, hL]; unfold restL stF; simp
  have hB6 : B = P6 ++ (putF m.over.length ++ (L ++ post)) := by rw [hB7, hP7]; simp
  have hB5 : B = P5 ++ (stF m.at_ ++ (putF m.over.length ++ (L ++ post))) := by rw [hB6, hP6]; simp
  have hB4 : B = P4 ++ (putF m.expiry.toNat ++ (stF m.at_ ++ (putF m.over.length ++ (L ++ post)))) := by rw [hB5, hP5]; simp
  have hB3 : B = P3 ++ (textF m.val ++ (putF m.expiry.toNat ++ (stF m.at_ ++ (putF m.over.length ++ (L ++ post))))) := by rw [hB4, hP4]; simp
  have hB2 : B = P2 ++ (textF m.fin ++ (textF m.val ++ (putF m.expiry.toNat ++ (stF m.at_ ++ (putF m.over.length ++ (L ++ post)))))) := by rw [hB3, hP3]; simp
  have hB1 : B = P1 ++ (putF m.kind.toNat ++ (textF m.fin ++ (textF m.val ++ (putF m.expiry.toNat ++ (stF m.at_ ++ (putF m.over.length ++ (L ++ post))))))) := by rw [hB2, hP2]; simp
  have hB0 : B = pre ++ (putF m.table.toNat ++ (putF m.kind.toNat ++ (textF m.fin ++ (textF m.val ++ (putF m.expiry.toNat ++ (stF m.at_ ++ (putF m.over.length ++ (L ++ post)))))))) := by rw [hB1, hP1]; simp
  have q0 := num_back pre (putF m.kind.toNat ++ (textF m.fin ++ (textF m.val ++ (putF m.expiry.toNat ++ (stF m.at_ ++ (putF m.over.length ++ (L ++ post))))))) m.table.toNat (by omega)
  have q1 := num_back P1 (textF m.fin ++ (textF m.val ++ (putF m.expiry.toNat ++ (stF m.at_ ++ (putF m.over.length ++ (L ++ post)))))) m.kind.toNat (by omega)
  have q2 := text_back P2 (textF m.val ++ (putF m.expiry.toNat ++ (stF m.at_ ++ (putF m.over.length ++ (L ++ post))))) m.fin 24 (by omega) (by omega)
  have q3 := text_back P3 (putF m.expiry.toNat ++ (stF m.at_ ++ (putF m.over.length ++ (L ++ post)))) m.val 64 (by omega) (by omega)
  have q4 := num_back P4 (stF m.at_ ++ (putF m.over.length ++ (L ++ post))) m.expiry.toNat (by omega)
  have q5 := get_back P5 (putF m.over.length ++ (L ++ post)) m.at_ ha.n ha.p ha.l ha.w
  have q6 := count_back P6 (L ++ post) m.over.length 24 (by omega) (by omega)
  have q7 := overs_back m.over P7 post ho
  rw [← hL, ← hB7] at q7
  rw [← hB6] at q6
  rw [← hB5] at q5
  rw [← hB4] at q4
  rw [← hB3] at q3
  rw [← hB2] at q2
  rw [← hB1] at q1
  rw [← hB0] at q0
  rw [← List.length_append, ← hP1] at q0
  rw [← List.length_append, ← hP2] at q1
  rw [← List.length_append, ← hP3] at q2
  rw [← List.length_append, ← hP4] at q3
  rw [← List.length_append, ← hP5] at q4
  rw [← List.length_append, ← hP6] at q5
  rw [← List.length_append, ← hP7] at q6
  rw [← hB]
  unfold rawS
  simp only [q0, q1, q2, q3, q4, q5, q6, q7, stOf_back ha.n]
  have len : P7.length + L.length = pre.length + (restL m.table.toNat m.kind.toNat m.expiry.toNat m.at_.p.toNat m.at_.l.toNat m.at_.w.toNat m.fin m.val m.over).length := by
    rw [hP7, hP6, hP5, hP4, hP3, hP2, hP1, hL]; unfold restL stF; simp only [List.length_append]; omega
  rw [len]
  obtain ⟨t0, k0, e0⟩ : 0 ≤ m.table ∧ 0 ≤ m.kind ∧ 0 ≤ m.expiry := ⟨hn.t.1, hn.k.1, hn.e.1⟩
  obtain ⟨tb, kd, ky, fi, va, ex, at_, ov⟩ := m
  simp only [Prod.mk.injEq, Mu.mk.injEq, and_true, true_and]
  exact ⟨Int.toNat_of_nonneg t0, Int.toNat_of_nonneg k0, Int.toNat_of_nonneg e0⟩
theorem getM_back (pre post : List Nat) (m : Mu) (h : rightF m = true) : getM (pre ++ (bytesM m ++ post)) (pre.length, 0) = (m, (pre.length + (bytesM m).length, 0)) := by
  obtain ⟨z1, z2, z3, z4⟩ := right_sizes h
  obtain ⟨R, hR⟩ : ∃ R, R = restL m.table.toNat m.kind.toNat m.expiry.toNat m.at_.p.toNat m.at_.l.toNat m.at_.w.toNat m.fin m.val m.over := ⟨_, rfl⟩
  have hb : bytesM m = textF m.key ++ R := by rw [hR]; rfl
  have h1 := text_back pre (R ++ post) m.key 24 (by omega) (by omega)
  have h2 := raw_back (pre ++ textF m.key) post m h
  rw [← hR] at h2
  rw [hb]
  have e : (pre ++ textF m.key) ++ (R ++ post) = pre ++ (textF m.key ++ R ++ post) := by simp
  have e1 : pre ++ (textF m.key ++ (R ++ post)) = pre ++ (textF m.key ++ R ++ post) := by simp
  rw [e, List.length_append] at h2
  rw [e1] at h1
  unfold getM
  rw [h1]
  unfold withS
  simp only [h2]
  have hr : ¬ (((0 : Int) = 0) ∧ rightF m = false) := by rintro ⟨-, hx⟩; rw [h] at hx; cases hx
  simp [h]
  omega
theorem listG_back : ∀ (l : List Mu) (pre post : List Nat), (∀ m ∈ l, rightF m = true) → listG (pre ++ (l.flatMap bytesM ++ post)) l.length (pre.length, 0) = (some l, (pre.length + (l.flatMap bytesM).length, 0))
  | [], pre, post, _ => by simp [listG]
  | m :: l, pre, post, h => by
    have h1 := getM_back pre (l.flatMap bytesM ++ post) m (h m (by simp))
    have h2 := listG_back l (pre ++ bytesM m) post fun x hx => h x (by simp [hx])
    have e1 : pre ++ (bytesM m ++ (l.flatMap bytesM ++ post)) = pre ++ ((m :: l).flatMap bytesM ++ post) := by simp
    have e2 : (pre ++ bytesM m) ++ (l.flatMap bytesM ++ post) = pre ++ ((m :: l).flatMap bytesM ++ post) := by simp
    rw [e1] at h1
    rw [e2, List.length_append] at h2
    rw [List.length_cons, listG, if_pos rfl, h1]
    simp only [h2, Option.map_some]
    simp
    omega
/-- A row of mutations that may be is read back. -/
theorem list_back (pre post : List Nat) (l : List Mu) (most : Int) (hl : (l.length : Int) ≤ most) (hz : l.length < 4611686018427387904) (h : ∀ m ∈ l, rightF m = true) : listS (pre ++ (bytesR l ++ post)) most (pre.length, 0) = (l, (pre.length + (bytesR l).length, 0)) := by
  have h1 := count_back pre (l.flatMap bytesM ++ post) l.length most hz hl
  have h2 := listG_back l (pre ++ putF l.length) post h
  have e1 : pre ++ (putF l.length ++ (l.flatMap bytesM ++ post)) = pre ++ (bytesR l ++ post) := by unfold bytesR; simp
  have e2 : (pre ++ putF l.length) ++ (l.flatMap bytesM ++ post) = pre ++ (bytesR l ++ post) := by unfold bytesR; simp
  rw [e1] at h1
  rw [e2, List.length_append] at h2
  unfold listS
  simp only [h1, h2]
  unfold bytesR
  simp
  omega
end Go.Proofs.YtemckpmedjennaaGreatDoor.Rd

namespace Go.Proofs.YtemckpmedjennaaGreatDoor.Rd
open Go Go.Proofs.YtemckpmedjennaaGreatDoor.Mrk Go.Proofs.YtemckpmedjennaaGreatDoor.Mut
set_option linter.unusedSectionVars false
variable [Inhabited Lim]

theorem fold_push_nat : ∀ (l : List Nat) (acc : ByteArray), (l.map fun c : Nat => (c : Int)).foldl (fun r n => r.push (UInt8.ofNat n.toNat)) acc = ⟨acc.data ++ (l.map UInt8.ofNat).toArray⟩
  | [], acc => by simp
  | c :: l, acc => by
    rw [List.map_cons, List.foldl_cons, fold_push_nat l]
    have e : UInt8.ofNat ((c : Int)).toNat = UInt8.ofNat c := by simp
    rw [e]
    show (⟨(acc.data.push (UInt8.ofNat c)) ++ (l.map UInt8.ofNat).toArray⟩ : ByteArray) = _
    congr 1
    simp
theorem strL_of (l : List Nat) (h : ∀ c ∈ l, c < 256) : strL (strOf l) = l := by
  have e : strOf l = ⟨ByteArray.empty.data ++ (l.map UInt8.ofNat).toArray⟩ := fold_push_nat l _
  have e0 : ByteArray.empty.data = #[] := rfl
  rw [e, e0]
  unfold strL
  simp only [Array.empty_append, List.map_map]
  conv => rhs; rw [← List.map_id l]
  refine List.map_congr_left fun c hc => ?_
  show (UInt8.ofNat c).toNat = c
  have := h c hc
  rw [UInt8.toNat_ofNat']
  omega
theorem strOf_inj {a b : List Nat} (ha : ∀ c ∈ a, c < 256) (hb : ∀ c ∈ b, c < 256) (h : strOf a = strOf b) : a = b := by
  rw [← strL_of a ha, h, strL_of b hb]
theorem bytesR_lt (l : List Mu) : ∀ c ∈ bytesR l, c < 256 := by
  intro c hc
  unfold bytesR at hc
  rcases List.mem_append.1 hc with h | h
  · exact Mrk.putF_lt _ c h
  obtain ⟨m, -, hm⟩ := List.mem_flatMap.1 h
  exact bytesM_byte m c hm

/-! ## What is read may be -/
theorem getM_right (B : List Nat) (s : S) (h : (getM B s).2.2 = 0) : rightF (getM B s).1 = true := by
  unfold getM withS at h ⊢
  obtain ⟨m, hm⟩ : ∃ m, m = rawS B (textS B 24 s).1 (textS B 24 s).2 := ⟨_, rfl⟩
  simp only [← hm] at h ⊢
  by_cases h1 : m.2.2 = 0
  · cases h2 : rightF m.1
    · simp [h1, h2] at h
    · simp [h1, h2]
  · simp [h1] at h
theorem listG_bad (B : List Nat) : ∀ (n : Nat) (s : S), s.2 ≠ 0 → (listG B n s).2.2 ≠ 0
  | 0, s, h => h
  | n + 1, s, h => by rw [listG, if_neg h]; exact h
theorem listG_ok (B : List Nat) : ∀ (n : Nat) (s : S), (listG B n s).2.2 = 0 → ∃ l, (listG B n s).1 = some l ∧ l.length = n ∧ ∀ m ∈ l, rightF m = true
  | 0, s, h => ⟨[], rfl, rfl, fun m hm => by cases hm⟩
  | n + 1, s, h => by
    rw [listG] at h ⊢
    split at h
    · rename_i h0
      rw [if_pos h0]
      have h1 : (getM B s).2.2 = 0 := Classical.byContradiction fun hx => listG_bad B n _ hx h
      obtain ⟨l, e, hl, hr⟩ := listG_ok B n _ h
      refine ⟨(getM B s).1 :: l, by rw [e]; rfl, by simp [hl], fun m hm => ?_⟩
      rcases List.mem_cons.1 hm with rfl | hm
      · exact getM_right B s h1
      · exact hr m hm
    · rename_i h0
      exact absurd h h0
theorem listS_right (B : List Nat) (most : Nat) (s : S) (hs : s.1 ≤ B.length) : (listS B most s).1.length ≤ most ∧ ∀ m ∈ (listS B most s).1, rightF m = true := by
  unfold listS
  obtain ⟨-, -, h3⟩ := countS_ok B most s hs
  simp only []
  split
  · rename_i h
    obtain ⟨l, e, hl, hr⟩ := listG_ok B _ _ h
    rw [e]
    exact ⟨by show l.length ≤ most; omega, hr⟩
  · exact ⟨Nat.zero_le _, fun m hm => by cases hm⟩

/-! ## A reader goes on -/
/-- The reader is no further back, and within its bytes. -/
def On (B : List Nat) (s t : S) : Prop := s.1 ≤ t.1 ∧ t.1 ≤ B.length
theorem On.trans {B : List Nat} {a b c : S} (h : On B a b) (k : On B b c) : On B a c := ⟨Nat.le_trans h.1 k.1, k.2⟩
theorem num_on (B : List Nat) (s : S) (h : s.1 ≤ B.length) : On B s (numS B s).2 := by
  obtain ⟨h1, -, h3⟩ := numS_ok B s h
  exact ⟨h3, h1⟩
theorem text_on (B : List Nat) (most : Int) (s : S) (h : s.1 ≤ B.length) : On B s (textS B most s).2 := by
  have h1 := num_on B s h
  unfold textS
  split
  · split
    · exact ⟨Nat.le_refl _, h⟩
    · split
      · exact ⟨Nat.le_refl _, h⟩
      · rename_i h2
        exact ⟨by show s.1 ≤ (numS B s).2.1 + (numS B s).1; have := h1.1; omega, by show (numS B s).2.1 + (numS B s).1 ≤ B.length; have := h1.2; omega⟩
  · exact ⟨Nat.le_refl _, h⟩
theorem get_on (B : List Nat) (s : S) (h : s.1 ≤ B.length) : On B s (getS B s).2 := by
  have h1 := num_on B s h
  have h2 := num_on B _ h1.2
  have h3 := num_on B _ h2.2
  exact (h1.trans h2).trans h3
theorem count_on (B : List Nat) (most : Int) (s : S) (h : s.1 ≤ B.length) : On B s (countS B most s).2 := by
  obtain ⟨h1, h2, -⟩ := countS_ok B most s h
  exact ⟨h2, h1⟩
theorem overs_on (B : List Nat) : ∀ (n : Nat) (s : S), s.1 ≤ B.length → On B s (oversS B n s).2
  | 0, s, h => ⟨Nat.le_refl _, h⟩
  | n + 1, s, h => by
    have h1 := get_on B s h
    exact h1.trans (overs_on B n _ h1.2)
theorem raw_on (B : List Nat) (key : ByteArray) (s : S) (h : s.1 ≤ B.length) : On B s (rawS B key s).2 := by
  have h1 := num_on B s h
  have h2 := h1.trans (num_on B _ h1.2)
  have h3 := h2.trans (text_on B 24 _ h2.2)
  have h4 := h3.trans (text_on B 64 _ h3.2)
  have h5 := h4.trans (num_on B _ h4.2)
  have h6 := h5.trans (get_on B _ h5.2)
  have h7 := h6.trans (count_on B 24 _ h6.2)
  exact h7.trans (overs_on B _ _ h7.2)
theorem with_on (B : List Nat) (key : ByteArray) (s : S) (h : s.1 ≤ B.length) : On B s (withS B key s).2 := by
  have h1 := raw_on B key s h
  unfold withS
  simp only []
  by_cases c1 : (rawS B key s).2.2 = 0 ∧ rightF (rawS B key s).1 = false
  · rw [if_pos c1]
    split <;> exact h1
  · rw [if_neg c1]
    split <;> exact h1
theorem getM_on (B : List Nat) (s : S) (h : s.1 ≤ B.length) : On B s (getM B s).2 := by
  have h1 := text_on B 24 s h
  exact h1.trans (with_on B _ _ h1.2)
theorem listG_on (B : List Nat) : ∀ (n : Nat) (s : S), s.1 ≤ B.length → On B s (listG B n s).2
  | 0, s, h => ⟨Nat.le_refl _, h⟩
  | n + 1, s, h => by
    rw [listG]
    split
    · have h1 := getM_on B s h
      exact h1.trans (listG_on B n _ h1.2)
    · exact ⟨Nat.le_refl _, h⟩
theorem listS_snd (B : List Nat) (most : Int) (s : S) : (listS B most s).2 = (listG B (countS B most s).1 (countS B most s).2).2 := by
  unfold listS
  simp only []
  split <;> rfl
theorem listS_pos (B : List Nat) (most : Int) (s : S) (hs : s.1 ≤ B.length) (h : (listS B most s).2.2 = 0) : s.1 < (listS B most s).2.1 ∧ (listS B most s).2.1 ≤ B.length := by
  rw [listS_snd] at h ⊢
  have h0 : (countS B most s).2.2 = 0 := Classical.byContradiction fun hx => listG_bad B _ _ hx h
  have hn : (countS B most s).2 = (numS B s).2 ∧ (numS B s).2.2 = 0 := by
    unfold countS at h0 ⊢
    split
    · rename_i h1
      rw [if_pos h1] at h0
      split
      · rename_i h2
        rw [if_pos h2] at h0
        exact absurd h0 (by show ¬ (31 : Int) = 0; decide)
      · exact ⟨rfl, h1⟩
    · rename_i h1
      rw [if_neg h1] at h0
      exact absurd h0 h1
  have h1 := numS_pos B s hs hn.2
  have h2 := count_on B most s hs
  have h3 := listG_on B (countS B most s).1 _ h2.2
  rw [← hn.1] at h1
  exact ⟨Nat.lt_of_lt_of_le h1 h3.1, h3.2⟩

/-! ## A content out of bytes -/
def conE : Con := ⟨[], [], []⟩
/-- state.Get at the beginning: what is told, the reader behind it. -/
def getC (B : List Nat) : Con × S :=
  if (listS B 400 (0, 0)).2.2 = 0 then
    if bytesR (allF (Mut.leftOf (listS B 400 (0, 0)).1)) = B.take (listS B 400 (0, 0)).2.1 then (Mut.leftOf (listS B 400 (0, 0)).1, (listS B 400 (0, 0)).2)
    else (conE, ((listS B 400 (0, 0)).2.1, 31))
  else (conE, (listS B 400 (0, 0)).2)
theorem left_allF {c : Con} {n : Nat} (h : Mut.Good c n) : Mut.leftOf (allF c) = c := by
  rw [← h.left]
  exact Mut.leftOf_congr fun m => by unfold Fits; rw [mem_allF, h.left]
theorem getC_back {c : Con} {n : Nat} (h : Mut.Good c n) (hn : n ≤ 400) (post : List Nat) : getC (bytesR (allF c) ++ post) = (c, ((bytesR (allF c)).length, 0)) := by
  have hl : (allF c).length ≤ 400 := by have := h.okc.len; have := len_allF c; omega
  have h1 := list_back [] post (allF c) 400 (by omega) (by omega) (fun m hm => h.okc.right m (mem_allF.1 hm))
  simp only [List.nil_append, List.length_nil, Nat.zero_add] at h1
  unfold getC
  rw [h1]
  simp only [left_allF h, List.take_left]
  simp
theorem getC_good (B : List Nat) : Mut.Good (Mut.leftOf (listS B 400 (0, 0)).1) 400 ∧ (listS B 400 (0, 0)).1.length ≤ 400 ∧ ∀ m ∈ (listS B 400 (0, 0)).1, rightF m = true := by
  have h := listS_right B 400 (0, 0) (Nat.zero_le _)
  exact ⟨(Mut.leftOf_good _).more h.1, h.1, h.2⟩
/-- What was read without a fault: a content whose bytes these are. -/
theorem getC_ok (B : List Nat) (h : (getC B).2.2 = 0) : Mut.Good (getC B).1 400 ∧ bytesR (allF (getC B).1) = B.take (getC B).2.1 := by
  unfold getC at h ⊢
  split
  · rename_i h1
    rw [if_pos h1] at h
    split
    · rename_i h2
      exact ⟨(getC_good B).1, h2⟩
    · rename_i h2
      rw [if_neg h2] at h
      exact absurd h (by show ¬ (31 : Int) = 0; decide)
  · rename_i h1
    rw [if_neg h1] at h
    exact absurd h h1
theorem getC_bad (B : List Nat) (h : (getC B).2.2 ≠ 0) : (getC B).1 = conE := by
  unfold getC at h ⊢
  split
  · rename_i h1
    rw [if_pos h1] at h
    split
    · rename_i h2
      rw [if_pos h2] at h
      exact absurd h1 h
    · rfl
  · rfl
theorem putF_ne (n : Nat) : putF n ≠ [] := by
  intro h
  have e : putF n = hi (low n).tail.reverse ++ [n % 128] := rfl
  rw [e] at h
  simp at h
theorem bytesR_ne (l : List Mu) : bytesR l ≠ [] := by
  unfold bytesR
  intro h
  exact putF_ne _ (List.append_eq_nil_iff.1 h).1
end Go.Proofs.YtemckpmedjennaaGreatDoor.Rd

namespace Go.Proofs.YtemckpmedjennaaGreatDoor.Rd
open Go Go.RowKit Go.Proofs.YtemckpmedjennaaGreatDoor.Mrk Go.Proofs.YtemckpmedjennaaGreatDoor.Mut

theorem put_nil (W : World) (k : Nat) (hk : k < 9223372036854775808) : Calls Tryz.prog 89 #[.slice none 0 0, .int .i64 (k : Nat)] W fun e w' => ∃ v', e = .returned v' ∧ OwnB w' W.heap.size v' (([] : List Nat) ++ putF k) ∧ Below W.heap.size W w' := by
  refine (put_onto k W.heap.size (.slice none 0 0) [] W hk (World.ownsRow_nil _ _ _ _) (Nat.le_refl _) (by simp)).mono ?_
  rintro e w' ⟨v', rfl, ho, hg, -⟩
  exact ⟨v', rfl, ho, ⟨hg.os, hg.tape, hg.output, hg.size, fun j hj => hg.block j hj (by simp [Value.ownBlock])⟩⟩
end Go.Proofs.YtemckpmedjennaaGreatDoor.Rd

namespace Go.Proofs.YtemckpmedjennaaGreatDoor.Rd
open Go.RowKit Go.Proofs.YtemckpmedjennaaGreatDoor.Spare Go.Proofs.YtemckpmedjennaaGreatDoor.Mrk Go.Proofs.YtemckpmedjennaaGreatDoor.RegInv

set_option maxHeartbeats 8000000 in
set_option maxRecDepth 100000 in
theorem taken_any (r : Nat) (v : Value) (B : List Nat) (s : S) (fr : Nat) (w : World) (h : Rdr w r v B s) (hf : fr ≤ s.1) (h0 : 0 < s.1) :
    Calls Tryz.prog 63 #[pR r, .int .i64 (fr : Nat)] w fun e w' => ∃ v', e = .returned v' ∧ OwnB w' w.heap.size v' ((B.drop fr).take (s.1 - fr)) ∧ Below w.heap.size w w' := by
  have hat := h.at_
  have hsm := h.small
  obtain ⟨ao, cap, rfl, hcb, -⟩ := Lst.form h.row
  obtain ⟨g, off, rfl, hgw, hgc⟩ : ∃ g off, ao = some ⟨g, off, none⟩ ∧ g < w.heap.size ∧ ∀ j c, B[j]? = some c → w.cell? ⟨g, off + j, none⟩ = some (.int .u8 (c : Nat)) := by
    obtain ⟨b, o, e, hb, hc⟩ := Lst.get h.row (i := 0) (by omega)
    subst e
    refine ⟨b, o, rfl, hb, fun j c hj => ?_⟩
    obtain ⟨b2, o2, e2, -, h2⟩ := byte_at h.row hj
    cases e2
    exact h2
  obtain ⟨i0, hi, hz0, hz1, hz2⟩ := info_parts_B
  have HI := Lib.hid (And.intro hi (And.intro hz0 (And.intro hz1 hz2)))
  clear hi hz0 hz1 hz2
  obtain ⟨a, y⟩ := s
  obtain ⟨nb, hnb⟩ : ∃ k, k = B.length := ⟨_, rfl⟩
  obtain ⟨n, hn⟩ : ∃ n, n = a - fr := ⟨_, rfl⟩
  obtain ⟨L, hL⟩ : ∃ L, L = (B.drop fr).take (a - fr) := ⟨_, rfl⟩
  have HLN := Lib.hid (show L.length = n from by rw [hL, hn, List.length_take, List.length_drop]; simp only [] at hat hf; omega)
  have HL3 := Lib.hid (show ∀ (W : World), Below w.heap.size w W → ∀ (j : Nat) (u : Value), (L.flatMap enB)[j]? = some u → W.cell? ((⟨g, off + fr, none⟩ : Addr).add j) = some u from fun W hb j u hu => by
    rw [flat_enB, List.getElem?_map] at hu
    obtain ⟨c, hc, rfl⟩ := Option.map_eq_some_iff.1 hu
    rw [hL, List.getElem?_take] at hc
    split at hc
    · rw [List.getElem?_drop] at hc
      have h1 := hgc (fr + j) c hc
      rw [addr_add, Nat.add_assoc, World.cell?_of_block (a := ⟨g, off + (fr + j), none⟩) (hb.block g hgw)]
      exact h1
    · cases hc)
  simp only [] at hf h0 hat
  show Calls _ _ _ w fun e w' => ∃ v', e = .returned v' ∧ OwnB w' w.heap.size v' ((B.drop fr).take (a - fr)) ∧ Below w.heap.size w w'
  rw [← hL]
  have c0 := h.c0
  have c1 := h.c1
  simp only [] at c1
  rw [← hnb] at c0 hcb hat hsm
  have HX := Lib.hid (show ∀ (W : World), Below w.heap.size w W → W.cell? ⟨r, 0, none⟩ = some (.slice (some ⟨g, off, none⟩) nb cap) ∧ W.cell? ⟨r, 1, none⟩ = some (.int .i64 (a : Nat)) from fun W hb => by
    have h2 := (h.below hb).c0
    rw [← hnb] at h2
    exact ⟨h2, (h.below hb).c1⟩)
  have h1 : (0 : Int) ≤ (fr : Int) := by omega
  have h2 : ¬ ((fr : Int) > (a : Int)) := by omega
  have h3 : (fr : Int) ≤ (a : Int) := by omega
  have h4 : (a : Int) ≤ (nb : Int) := by omega
  have h5 : (a : Int) ≤ (cap : Int) := by omega
  have h6 : a ≤ cap := by omega
  have h7 : (0 : Int) ≤ (a : Int) := by omega
  clear h hL hgc hnb
  go_enter Tryz.func63, Tryz.ntmps63
  go_upto_region 3 with fail
  refine wp_region_told [] 11 [false, false, false, false, false, false, false, false, false, false, false, false, false, false, false, true, true, true, true, true, true, true, true, true, true, true]
    [sLit (.pointer (some ⟨r, 0, none⟩)),
    sLit (.pointer (some ⟨r, 0, none⟩)),
    sLit (.pointer (some ⟨r, 0, none⟩)),
    sLit (.slice (some ⟨g, off, none⟩) nb cap),
    sLit (.int .i64 (fr : Nat)),
    sLit (.pointer (some ⟨r, 0, none⟩)),
    sLit (.pointer (some ⟨r, 0, none⟩)),
    sLit (.pointer (some ⟨r, 1, none⟩)),
    sLit (.int .i64 (a : Nat)),
    sOne (fun v _ => ∃ ad cc, v = .slice (some ad) n cc ∧ (n = 0 ∨ ad = ⟨g, off + fr, none⟩)) (fun _ _ _ h _ => h),
    sOne (fun v W => OwnB W w.heap.size v L) (fun _ _ _ h hb => World.ownsRow.kept h (grown_below (row := none) hb) (by simp; exact Classical.em _))] (by kernel_rfl) (by kernel_rfl) (by kernel_rfl) (fun F hF => ?_)
  simp only [over, overL, Nat.reduceAdd] at hF
  obtain rfl := funext hF
  clear hF
  refine ⟨⟨?_, ?_, ?_, ?_, ?_, ?_, ?_, ?_, ?_, ?_, ?_, trivial⟩, ?_⟩
  · intro V W hb hd K hK _
    clear hd
    go_wp2_with fail
    refine hK _ _ ?_ ?_ ?_ ?_
    · rfl
    · exact Below.refl _ _
    · exact rfl
    · trivial
  · intro V W hb hd K hK _
    have h0 : (V 15) = .pointer (some ⟨r, 0, none⟩) := hd 0 (by kernel_rfl)
    clear hd
    go_wp2_with fail
    refine hK _ _ ?_ ?_ ?_ ?_
    · rfl
    · exact Below.refl _ _
    · exact rfl
    · trivial
  · intro V W hb hd K hK _
    have h1 : (V 16) = .pointer (some ⟨r, 0, none⟩) := hd 1 (by kernel_rfl)
    clear hd
    go_wp2_with fail
    refine hK _ _ ?_ ?_ ?_ ?_
    · rfl
    · exact Below.refl _ _
    · exact rfl
    · trivial
  · intro V W hb hd K hK _
    have h2 : (V 17) = .pointer (some ⟨r, 0, none⟩) := hd 2 (by kernel_rfl)
    clear hd
    obtain ⟨s0, s1⟩ := HX.out W hb
    go_wp2_with fail
    refine hK _ _ ?_ ?_ ?_ ?_
    · rfl
    · exact Below.refl _ _
    · exact rfl
    · trivial
  · intro V W hb hd K hK _
    clear hd
    go_wp2_with fail
    refine hK _ _ ?_ ?_ ?_ ?_
    · rfl
    · exact Below.refl _ _
    · exact rfl
    · trivial
  · intro V W hb hd K hK _
    clear hd
    go_wp2_with fail
    refine hK _ _ ?_ ?_ ?_ ?_
    · rfl
    · exact Below.refl _ _
    · exact rfl
    · trivial
  · intro V W hb hd K hK _
    have h5 : (V 20) = .pointer (some ⟨r, 0, none⟩) := hd 5 (by kernel_rfl)
    clear hd
    go_wp2_with fail
    refine hK _ _ ?_ ?_ ?_ ?_
    · rfl
    · exact Below.refl _ _
    · exact rfl
    · trivial
  · intro V W hb hd K hK _
    have h6 : (V 21) = .pointer (some ⟨r, 0, none⟩) := hd 6 (by kernel_rfl)
    clear hd
    go_wp2_with fail
    refine hK _ _ ?_ ?_ ?_ ?_
    · rfl
    · exact Below.refl _ _
    · exact rfl
    · trivial
  · intro V W hb hd K hK _
    have h7 : (V 22) = .pointer (some ⟨r, 1, none⟩) := hd 7 (by kernel_rfl)
    clear hd
    obtain ⟨s0, s1⟩ := HX.out W hb
    go_wp2_with fail
    refine hK _ _ ?_ ?_ ?_ ?_
    · rfl
    · exact Below.refl _ _
    · exact rfl
    · trivial
  · intro V W hb hd K hK _
    have h3 : (V 18) = .slice (some ⟨g, off, none⟩) nb cap := hd 3 (by kernel_rfl)
    have h4 : (V 19) = .int .i64 (fr : Nat) := hd 4 (by kernel_rfl)
    have h8 : (V 23) = .int .i64 (a : Nat) := hd 8 (by kernel_rfl)
    clear hd
    go_wp2_with fail
    all_goals
      refine hK _ _ ?_ ?_ ?_ ?_
      · rfl
      · exact Below.refl _ _
      · rw [hn]; exact ⟨_, _, rfl, by first | exact Or.inr rfl | (left; omega)⟩
      · trivial
  · intro V W hb hd K hK _
    have h9 : ∃ ad cc, (V 24) = .slice (some ad) n cc ∧ (n = 0 ∨ ad = ⟨g, off + fr, none⟩) := hd 9 (by kernel_rfl)
    clear hd
    obtain ⟨ad, cc, e9, had⟩ := h9
    have hbw : w.heap.size ≤ W.heap.size := hb.size
    have HCC := Lib.hid hb
    go_wp2_with (at_builtin; refine wpList_append_spareAny rfl (.const (.slice none 0 0)) (.tmp 24) 74 rfl w.heap.size 5 i0 (.int .u8 0) [.int .u8 0] 1 Tryz.underlying74 HI.out.1 HI.out.2.1 rfl HI.out.2.2.1 HI.out.2.2.2 (by decide) (.slice none 0 0) 0 [] rfl (Spare.nil _ _ _ _) (some ad) n cc (L.flatMap enB) (by first | rfl | exact e9) (by rw [flat_enB, List.length_map, HLN.out]; exact (Nat.mul_one _).symm) (had.imp id fun h0 => ⟨_, rfl, by rw [h0]; exact HL3.out _ HCC.out⟩) (by intro u hu; rw [flat_enB] at hu; obtain ⟨c, _, rfl⟩ := List.mem_map.1 hu; rfl) (by unfold maxLen; omega) (by omega) hbw ?_)
    intro v1 w1 g1 g2 g3 g4
    have G1 := Lib.hid (show OwnB w1 w.heap.size v1 L from by have h := g1.own; unfold OwnB; rw [HLN.out]; first | exact h | simpa using h | (rw [hn]; simpa using h))
    have G2 := Lib.hid (show Below W.heap.size W w1 from ⟨g2.os, g2.tape, g2.output, g2.size, fun j hj => g2.block j hj (by simp [Value.ownBlock])⟩)
    clear g1 g2 g3 g4
    go_wp2_with fail
    refine hK _ _ ?_ ?_ ?_ ?_
    · rfl
    · exact G2.out
    · exact G1.out
    · trivial
  · intro V W hb hd hap
    have h10 : OwnB W w.heap.size (V 25) L := hd 10 (by decide)
    clear hd hap
    simp only [List.drop_succ_cons, List.drop_zero]
    have H10 := Lib.hid h10
    have HB4 := Lib.hid hb
    clear h10 hb
    go_wp2_with fail
    go_ret
    exact ⟨_, rfl, H10.out, HB4.out⟩
end Go.Proofs.YtemckpmedjennaaGreatDoor.Rd

namespace Go.Proofs.YtemckpmedjennaaGreatDoor.Rd
open Go.RowKit Go.Proofs.YtemckpmedjennaaGreatDoor.Mrk Go.Proofs.YtemckpmedjennaaGreatDoor.RegInv Go.Proofs.YtemckpmedjennaaGreatDoor.Mut
set_option linter.unusedSectionVars false
variable [Inhabited Lim]

/-- A content is told, the reader behind it. -/
def GetP (r : Nat) (v : Value) (B : List Nat) (q : Con × S) (w : World) (e : Ending) (w' : World) : Prop :=
  ∃ v', e = .returned v' ∧ IsC q.1 v' w' ∧ Rdr w' r v B q.2 ∧ w.grownBy w' (some r)
theorem conE_lies (w : World) : Lies w (.slice none 0 0) (.slice none 0 0) (.slice none 0 0) conE := by
  have h : Reads w (.slice none 0 0) [] := ⟨[], rfl, ⟨⟨none, 0, rfl, Nat.le_refl _, Nat.zero_le _, Or.inl rfl⟩, fun x hx => by cases hx⟩⟩
  exact ⟨h, h, h⟩
theorem own_at0 {w : World} {base : Nat} {v : Value} {l : List Nat} (h : OwnB w base v l) (hl : l ≠ []) : ∃ g cc, v = .slice (some ⟨g, 0, none⟩) l.length cc ∧ ∀ (j c : Nat), l[j]? = some c → w.cell? ((⟨g, 0, none⟩ : Addr).add j) = some (.int .u8 (c : Nat)) := by
  rcases h.2 with ⟨_, h0⟩ | ⟨g, cap, cur, rfl, h2, h3, h4, _⟩
  · exact absurd (List.eq_nil_of_length_eq_zero h0) hl
  · refine ⟨g, cap, rfl, fun j c hc => ?_⟩
    exact World.ownsRow.cells h (g := g) rfl j (.int .u8 (c : Nat)) (by rw [flat_enB, List.getElem?_map, hc]; rfl)
theorem c3_put {w : World} {k : Nat} {o1 o2 o3 : Option Addr} {n1 n2 n3 k1 k2 k3 : Nat} (h : C3 w k (.slice none 0 0) (.slice none 0 0) (.slice none 0 0)) (a b d : Value) (W : World) (hW : W = ((w.setCell ⟨k, 0, none⟩ a).setCell ⟨k, 1, none⟩ b).setCell ⟨k, 2, none⟩ d) :
    Plain3 w W ∧ w.grownBy W (some k) ∧ W.cell? ⟨k, 0, none⟩ = some a ∧ W.cell? ⟨k, 1, none⟩ = some b ∧ W.cell? ⟨k, 2, none⟩ = some d := by
  have hp := plain3 h a b d
  obtain ⟨h0, h1, h2, h3, f1, f2, f3⟩ := h
  subst hW
  refine ⟨hp, ((grown_cell' w k 0 a).andThen (grown_cell' _ k 1 b) (fun j hj => Or.inr hj)).andThen (grown_cell' _ k 2 d) (fun j hj => Or.inr hj), by go_simp, by go_simp, by go_simp⟩

set_option maxHeartbeats 16000000 in
set_option maxRecDepth 100000 in
theorem stget_any (r : Nat) (v : Value) (B : List Nat) (w wb : World) (h : Rdr w r v B (0, 0)) (hB : ∀ c ∈ B, c < 256) (hT : Tabs wb) (hbw : Below wb.heap.size wb w) (hrb : wb.heap.size ≤ r) :
    Calls Tryz.prog 31 #[pR r] w (GetP r v B (getC B) w) := by
  have HBB := Lib.hid (show ∀ W, w.grownBy W (some r) → Below wb.heap.size wb W from fun W hg => hbw.grown hg hbw.size (fun j hj => by cases hj; exact hrb))
  have HTA := Lib.hid (show ∀ W, w.grownBy W (some r) → Tabs W from fun W hg => hT.below (HBB.out W hg))
  obtain ⟨ls, hls⟩ : ∃ x, x = listS B 400 (0, 0) := ⟨_, rfl⟩
  obtain ⟨hg0, hl0, hr0⟩ := getC_good B
  have hpos := listS_pos B 400 (0, 0) (Nat.zero_le _)
  obtain ⟨GC, hGC⟩ : ∃ x, x = getC B := ⟨_, rfl⟩
  rw [← hGC]
  have HGC := Lib.hid (show GC = if ls.2.2 = 0 then if bytesR (allF (Mut.leftOf ls.1)) = B.take ls.2.1 then (Mut.leftOf ls.1, ls.2) else (conE, (ls.2.1, 31)) else (conE, ls.2) from by rw [hGC]; unfold getC; rw [hls])
  have HLI := Lib.hid (show ∀ W, Rdr W r v B (0, 0) → w.grownBy W (some r) → Calls Tryz.prog 62 #[pR r, .int .i64 400] W (ListP r v B ls W) from fun W hr hg => by rw [hls]; exact list_any r v B 400 (0, 0) W wb hr hB hT (HBB.out W hg) hrb (by decide))
  rw [← hls] at hg0 hl0 hr0 hpos
  obtain ⟨c, hc⟩ : ∃ c, c = Mut.leftOf ls.1 := ⟨_, rfl⟩
  rw [← hc] at hg0 HGC
  have HOF := Lib.hid (show ∀ W v', w.grownBy W (some r) → Reads W v' ls.1 → Calls Tryz.prog 8 #[v'] W (RetC c W) from fun W v' hg hv => by rw [hc]; exact c_of (HTA.out W hg) hv (by omega) (fun m hm => small_right (hr0 m hm)))
  have HGO := Lib.hid hg0
  have hrw : r < w.heap.size := h.lt
  obtain ⟨L, qa, qy⟩ := ls
  simp only [] at HGC HLI HOF hpos
  have HPOS := Lib.hid hpos
  have HAT := Lib.hid (show ∀ W, Rdr W r v B (0, 0) → Calls Tryz.prog 33 #[pR r] W fun e w' => e = .returned (.int .i64 0) ∧ W = w' from fun W hr => at_any r v B (0, 0) W hr)
  have HWY := Lib.hid (fun (s : S) (w1 : World) (h : Rdr w1 r v B s) => why_any r v B s w1 h)
  have HFA := Lib.hid (fun (s : S) (y : Int) (w1 : World) (h : Rdr w1 r v B s) => fail_any r v B s y w1 h)
  have HVL := Lib.hid (show B ≠ [] → ∀ ad n c, v = .slice (some ad) n c → ad.block < w.heap.size from fun hb ad n c e => h.vlow hb ad n c e)
  obtain ⟨W0, hW0⟩ : ∃ W, W = w.alloc (.cells #[.slice none 0 0, .slice none 0 0, .slice none 0 0] 47) := ⟨_, rfl⟩
  obtain ⟨k2', hk2⟩ : ∃ k, k = w.heap.size := ⟨_, rfl⟩
  have hb0 : Below w.heap.size w W0 := by rw [hW0]; exact (Below.refl _ _).alloc (Nat.le_refl _) _
  have HZ0 := Lib.hid (show C3 W0 k2' (.slice none 0 0) (.slice none 0 0) (.slice none 0 0) from by rw [hW0, hk2]; exact C3.new w _ _ _)
  have HR0 := Lib.hid (h.below hb0)
  have HG0 := Lib.hid (show w.grownBy W0 (some r) from below_grown hb0)
  have HW0 := Lib.hid hW0
  have HK2 := Lib.hid hk2
  have hrk : r ≠ k2' := by rw [hk2]; omega
  clear h hT hbw hls hGC hl0 hr0 hpos hg0 hc hW0 hk2 hb0
  go_enter Tryz.func31, Tryz.ntmps31
  go_upto_region 1 with fail
  rw [← HW0.out, ← HK2.out]
  go_wp2_with fail
  refine (HAT.out W0 HR0.out).mono ?_
  rintro e w1 ⟨rfl, h1⟩
  subst h1
  go_wp2_with fail
  refine (HLI.out W0 HR0.out HG0.out).mono ?_
  rintro e w2 ⟨v2, R, rfl, hm2, hcp2, hr2, hg2⟩
  have HR2 := Lib.hid hr2
  have HG2 := Lib.hid (HG0.out.andThen hg2 (fun j hj => Or.inr hj))
  have HZ2 := Lib.hid (show C3 w2 k2' (.slice none 0 0) (.slice none 0 0) (.slice none 0 0) from HZ0.out.grown hg2 (by simpa using hrk))
  have HRD := Lib.hid (show Reads w2 v2 L from ⟨R, hm2, hcp2.mrow⟩)
  obtain ⟨vo2, vn2, vc2, rfl⟩ := HRD.out.slice
  clear hm2 hcp2 hr2 hg2
  go_wp2_with fail
  refine (HOF.out w2 _ HG2.out HRD.out).mono ?_
  rintro e w3 ⟨v3, rfl, hc3, hb3⟩
  obtain ⟨o1, n1, k1, o2, n2, k2, o3, n3, k3, rfl, hlc⟩ := hc3.form
  go_upto_region 3 with fail
  obtain ⟨WR, hWR⟩ : ∃ W, W = w3.alloc (.cells #[.slice o1 n1 k1, .slice o2 n2 k2, .slice o3 n3 k3] 47) := ⟨_, rfl⟩
  obtain ⟨k4, hk4⟩ : ∃ k, k = w3.heap.size := ⟨_, rfl⟩
  rw [← hWR, ← hk4]
  have hbR : Below w3.heap.size w3 WR := by rw [hWR]; exact (Below.refl _ _).alloc (Nat.le_refl _) _
  have hb2R : Below w2.heap.size w2 WR := below_then hb3 (Nat.le_refl _) hbR
  have HBX := Lib.hid (show C3 WR k4 (.slice o1 n1 k1) (.slice o2 n2 k2) (.slice o3 n3 k3) from by rw [hWR, hk4]; exact C3.new w3 _ _ _)
  have HIC := Lib.hid (show IsC c (.agg #[.slice o1 n1 k1, .slice o2 n2 k2, .slice o3 n3 k3]) WR from (hlc.below hbR).is)
  have HRR := Lib.hid (HR2.out.below hb2R)
  have HGR := Lib.hid (show w.grownBy WR (some r) from HG2.out.andThen (below_grown (row := some r) hb2R) (fun j hj => Or.inr hj))
  have HZR := Lib.hid (HZ2.out.below hb2R)
  clear hb3 hc3 hlc hWR hk4 hbR hb2R HR2 HG2 HZ2 HRD HR0 HG0 HZ0 HLI HOF HAT
  cases hy : ((qy : Int) == 0)
  · have hy' : ¬ qy = 0 := by simpa using hy
    have HE := Lib.hid (show GC = (conE, ((qa, qy) : S)) from by rw [HGC.out, if_neg hy'])
    have hne : (qy != (0 : Int)) = true := by simpa using hy'
    clear hy' HGC HPOS
    refine wp_region_calm (by kernel_rfl) (by kernel_rfl) ?_
    repeat (go_big_quiet_step ((go_at_call 32; exact calm_same (HWY.out _ _ (HRR.out.below (BW.below _))))))
    refine wpQuiet_nil ?_
    rintro _ ⟨y, rfl⟩
    have HRY := Lib.hid (HRR.out.below y.below)
    have HGY := Lib.hid (show w.grownBy y.at (some r) from HGR.out.andThen (below_grown (row := some r) y.below) (fun j hj => Or.inr hj))
    have HZY := Lib.hid (HZR.out.below y.below)
    go_wp2_with fail
    refine (HWY.out _ _ HRY.out).mono ?_
    rintro e w5 ⟨rfl, h1⟩
    subst h1
    obtain ⟨-, z0, z1, z2, f0, f1, f2⟩ := HZY.out
    obtain ⟨hp, hgp, u0, u1, u2⟩ := c3_put (o1 := none) (o2 := none) (o3 := none) (n1 := 0) (n2 := 0) (n3 := 0) (k1 := 0) (k2 := 0) (k3 := 0) HZY.out (.slice none 0 0) (.slice none 0 0) (.slice none 0 0) _ rfl
    have HF := Lib.hid (show GetP r v B (conE, ((qa, qy) : S)) w (.returned (.agg #[.slice none 0 0, .slice none 0 0, .slice none 0 0])) _ from ⟨_, rfl, (conE_lies _).is, HRY.out.apart hgp hrk (fun hb ad n c e => by have := HVL.out hb ad n c e; have := HK2.out; omega), HGY.out.andThen hgp (fun j hj => by cases hj; exact Or.inl (by rw [HK2.out]; exact Nat.le_refl _))⟩)
    clear hp hgp
    go_wp2_with fail
    refine bodyPost_ret (v := .agg #[.slice none 0 0, .slice none 0 0, .slice none 0 0]) (by simp [results, Tryz.f31, go_sem, u0, u1, u2]) rfl (by rw [HE.out]; exact HF.out)
  · have hy' : qy = 0 := by simpa using hy
    subst hy'
    obtain ⟨hq1, hq2⟩ := HPOS.out rfl
    obtain ⟨L1, hL1⟩ : ∃ l, l = bytesR (allF c) := ⟨_, rfl⟩
    obtain ⟨L2, hL2⟩ : ∃ l, l = B.take qa := ⟨_, rfl⟩
    have HE := Lib.hid (show GC = if L1 = L2 then (c, ((qa, (0 : Int)) : S)) else (conE, ((qa, (31 : Int)) : S)) from by rw [HGC.out, if_pos rfl, hL1, hL2])
    have HN1 := Lib.hid (show L1 ≠ [] from by rw [hL1]; exact bytesR_ne _)
    have HN2 := Lib.hid (show L2 ≠ [] from fun e => by
      have h := congrArg List.length e
      rw [hL2, List.length_take, List.length_nil] at h
      omega)
    have HST := Lib.hid (show strOf L1 = strOf L2 → L1 = L2 from fun e => strOf_inj (by rw [hL1]; exact bytesR_lt _) (by rw [hL2]; exact fun c hc => hB c (List.mem_of_mem_take hc)) e)
    have HPU := Lib.hid (show ∀ W, Below WR.heap.size WR W → Calls Tryz.prog 25 #[.slice none 0 0, .agg #[.slice o1 n1 k1, .slice o2 n2 k2, .slice o3 n3 k3]] W fun e w' => ∃ v', e = .returned v' ∧ OwnB w' W.heap.size v' L1 ∧ Below W.heap.size W w' from fun W hb => by
      have h := statePut_any (b := .slice none 0 0) (bs := []) (HIC.out.below hb) (HGO.out.more (by omega : 400 ≤ 420)) (by omega) (by simp) (fun W' k _ hk => put_nil W' k (by omega))
      rw [List.nil_append, ← hL1] at h
      exact h)
    have HTK := Lib.hid (show ∀ W, Below WR.heap.size WR W → Calls Tryz.prog 63 #[pR r, .int .i64 0] W fun e w' => ∃ v', e = .returned v' ∧ OwnB w' W.heap.size v' L2 ∧ Below W.heap.size W w' from fun W hb => by
      have h := taken_any r v B (qa, 0) 0 W (HRR.out.below hb) (Nat.zero_le _) hq1
      rw [hL2]
      simpa using h)
    have HBR := Lib.hid (show ∀ W, Below WR.heap.size WR W → WR.heap.size ≤ W.heap.size from fun W hb => hb.size)
    clear hL1 hL2 hy HGC HPOS hq1 hq2
    obtain ⟨ne, hne⟩ : ∃ b : Bool, b = ((strOf L1).toList != (strOf L2).toList) := ⟨_, rfl⟩
    have HNE := Lib.hid hne
    clear hne
    refine wp_region_told [] 12 [false, false, false, false, false, false, false, false, false, false, true, true, true, true, true, true, true, true, true, true, true, true, false, false, false, false, false, false, false, false]
      [sLit (pR r),
    sLit (.int .i64 0),
    sLit (.bool true),
    sLit (.bool true),
    sLit (.agg #[.slice o1 n1 k1, .slice o2 n2 k2, .slice o3 n3 k3]),
    sOne (fun v1 W => OwnB W WR.heap.size v1 L1) (fun _ _ _ h hb => h.below hb),
    sLit (.string (strOf L1)),
    sLit (pR r),
    sLit (.int .i64 0),
    sOne (fun v1 W => OwnB W WR.heap.size v1 L2) (fun _ _ _ h hb => h.below hb),
    sLit (.string (strOf L2)),
    sLit (.bool ne)] (by kernel_rfl) (by kernel_rfl) (by kernel_rfl) (fun F hF => ?_)
    simp only [over, overL, Nat.reduceAdd] at hF
    obtain rfl := funext hF
    clear hF
    refine ⟨⟨?_, ?_, ?_, ?_, ?_, ?_, ?_, ?_, ?_, ?_, ?_, ?_, trivial⟩, ?_⟩
    · intro V W hb hd K hK _
      clear hd
      go_wp2_with fail
      refine hK _ _ ?_ ?_ ?_ ?_
      · rfl
      · exact Below.refl _ _
      · exact rfl
      · trivial
    · intro V W hb hd K hK _
      have h0 : (V 10) = pR r := hd 0 (by kernel_rfl)
      clear hd
      have HCC := Lib.hid hb
      clear hb
      go_wp2_with fail
      refine (HWY.out _ W (HRR.out.below HCC.out)).mono ?_
      rintro e w1 ⟨rfl, h1⟩
      subst h1
      go_wp2_with fail
      refine hK _ _ ?_ ?_ ?_ ?_
      · rfl
      · exact Below.refl _ _
      · exact rfl
      · trivial
    · intro V W hb hd K hK _
      have h1 : (V 11) = .int .i64 0 := hd 1 (by kernel_rfl)
      clear hd
      go_wp2_with fail
      refine hK _ _ ?_ ?_ ?_ ?_
      · rfl
      · exact Below.refl _ _
      · exact rfl
      · trivial
    · intro V W hb hd K hK _
      have h2 : (V 12) = .bool true := hd 2 (by kernel_rfl)
      clear hd
      go_wp2_with fail
      refine hK _ _ ?_ ?_ ?_ ?_
      · rfl
      · exact Below.refl _ _
      · exact rfl
      · trivial
    · intro V W hb hd K hK _
      have h3 : (V 13) = .bool true := hd 3 (by kernel_rfl)
      clear hd
      obtain ⟨-, s0, s1, s2, -, -, -⟩ := (HBX.out.below hb)
      go_wp2_with fail
      refine hK _ _ ?_ ?_ ?_ ?_
      · rfl
      · exact Below.refl _ _
      · exact rfl
      · trivial
    · intro V W hb hd K hK _
      have h3 : (V 13) = .bool true := hd 3 (by kernel_rfl)
      have h4 : (V 14) = .agg #[.slice o1 n1 k1, .slice o2 n2 k2, .slice o3 n3 k3] := hd 4 (by kernel_rfl)
      clear hd
      have hbw : WR.heap.size ≤ W.heap.size := hb.size
      have HCC := Lib.hid hb
      clear hb
      go_wp2_with fail
      refine (HPU.out W HCC.out).mono ?_
      rintro e w1 ⟨v1, rfl, g1, g2⟩
      obtain ⟨vo1, vc1, rfl⟩ := g1.form
      go_wp2_with fail
      refine hK _ _ ?_ ?_ ?_ ?_
      · rfl
      · exact g2
      · exact own_base g1 hbw
      · trivial
    · intro V W hb hd K hK _
      have h3 : (V 13) = .bool true := hd 3 (by kernel_rfl)
      have h5 : OwnB W WR.heap.size (V 15) L1 := hd 5 (by kernel_rfl)
      clear hd
      obtain ⟨g, cc, e5, hcl⟩ := own_at0 h5 HN1.out
      have hcv := conv_bytes W ⟨g, 0, none⟩ L1 _ cc rfl hcl
      obtain ⟨nL, hnL⟩ : ∃ n, n = L1.length := ⟨_, rfl⟩
      rw [← hnL] at hcv e5
      clear hcl h5 hnL
      go_wp2_with fail
      refine hK _ _ ?_ ?_ ?_ ?_
      · rfl
      · exact Below.refl _ _
      · exact rfl
      · trivial
    · intro V W hb hd K hK _
      have h3 : (V 13) = .bool true := hd 3 (by kernel_rfl)
      clear hd
      go_wp2_with fail
      refine hK _ _ ?_ ?_ ?_ ?_
      · rfl
      · exact Below.refl _ _
      · exact rfl
      · trivial
    · intro V W hb hd K hK _
      have h3 : (V 13) = .bool true := hd 3 (by kernel_rfl)
      clear hd
      go_wp2_with fail
      refine hK _ _ ?_ ?_ ?_ ?_
      · rfl
      · exact Below.refl _ _
      · exact rfl
      · trivial
    · intro V W hb hd K hK _
      have h3 : (V 13) = .bool true := hd 3 (by kernel_rfl)
      have h7 : (V 17) = pR r := hd 7 (by kernel_rfl)
      have h8 : (V 18) = .int .i64 0 := hd 8 (by kernel_rfl)
      clear hd
      have hbw : WR.heap.size ≤ W.heap.size := hb.size
      have HCC := Lib.hid hb
      clear hb
      go_wp2_with fail
      refine (HTK.out W HCC.out).mono ?_
      rintro e w1 ⟨v1, rfl, g1, g2⟩
      obtain ⟨vo1, vc1, rfl⟩ := g1.form
      go_wp2_with fail
      refine hK _ _ ?_ ?_ ?_ ?_
      · rfl
      · exact g2
      · exact own_base g1 hbw
      · trivial
    · intro V W hb hd K hK _
      have h3 : (V 13) = .bool true := hd 3 (by kernel_rfl)
      have h9 : OwnB W WR.heap.size (V 19) L2 := hd 9 (by kernel_rfl)
      clear hd
      obtain ⟨g, cc, e9, hcl⟩ := own_at0 h9 HN2.out
      have hcv := conv_bytes W ⟨g, 0, none⟩ L2 _ cc rfl hcl
      obtain ⟨nL, hnL⟩ : ∃ n, n = L2.length := ⟨_, rfl⟩
      rw [← hnL] at hcv e9
      clear hcl h9 hnL
      go_wp2_with fail
      refine hK _ _ ?_ ?_ ?_ ?_
      · rfl
      · exact Below.refl _ _
      · exact rfl
      · trivial
    · intro V W hb hd K hK _
      have h3 : (V 13) = .bool true := hd 3 (by kernel_rfl)
      have h6 : (V 16) = .string (strOf L1) := hd 6 (by kernel_rfl)
      have h10 : (V 20) = .string (strOf L2) := hd 10 (by kernel_rfl)
      clear hd
      go_wp2_with fail
      refine hK _ _ ?_ ?_ ?_ ?_
      · rfl
      · exact Below.refl _ _
      · first | rfl | exact congrArg Value.bool HNE.out.symm | (show _ = Value.bool ne; rw [HNE.out]; rfl)
      · trivial
    · intro V W hb hd hap
      have h3 : (V 13) = .bool true := hd 3 (by decide)
      have h11 : (V 21) = .bool ne := hd 11 (by decide)
      clear hd hap
      simp only [List.drop_succ_cons, List.drop_zero]
      have HRY := Lib.hid (HRR.out.below hb)
      have HGY := Lib.hid (show w.grownBy W (some r) from HGR.out.andThen (below_grown (row := some r) hb) (fun j hj => Or.inr hj))
      have HZY := Lib.hid (HZR.out.below hb)
      have HXY := Lib.hid (HBX.out.below hb)
      have HIY := Lib.hid (HIC.out.below hb)
      clear hb
      cases ne
      · have hEq : L1 = L2 := HST.out (by
          have h := HNE.out
          have h2 : (strOf L1).toList = (strOf L2).toList := by simpa using h.symm
          exact Ord.bytes_ext h2)
        rw [if_pos hEq] at HE
        clear hEq
        go_wp2_with fail
        refine (HWY.out _ _ HRY.out).mono ?_
        rintro e w5 ⟨rfl, h1⟩
        subst h1
        obtain ⟨-, z0, z1, z2, f0, f1, f2⟩ := HZY.out
        obtain ⟨-, x0, x1, x2, -, -, -⟩ := HXY.out
        obtain ⟨hp, hgp, u0, u1, u2⟩ := c3_put (o1 := o1) (o2 := o2) (o3 := o3) (n1 := n1) (n2 := n2) (n3 := n3) (k1 := k1) (k2 := k2) (k3 := k3) HZY.out (.slice o1 n1 k1) (.slice o2 n2 k2) (.slice o3 n3 k3) _ rfl
        have HF := Lib.hid (show GetP r v B (c, ((qa, (0 : Int)) : S)) w (.returned (.agg #[.slice o1 n1 k1, .slice o2 n2 k2, .slice o3 n3 k3])) _ from ⟨_, rfl, HIY.out.plain3 hp, HRY.out.apart hgp hrk (fun hb ad n c e => by have := HVL.out hb ad n c e; have := HK2.out; omega), HGY.out.andThen hgp (fun j hj => by cases hj; exact Or.inl (by rw [HK2.out]; exact Nat.le_refl _))⟩)
        clear hp hgp
        go_wp2_with fail
        refine bodyPost_ret (v := .agg #[.slice o1 n1 k1, .slice o2 n2 k2, .slice o3 n3 k3]) (by simp [results, Tryz.f31, go_sem, u0, u1, u2]) rfl (by rw [HE.out]; exact HF.out)
      · have hEq : ¬ L1 = L2 := fun e => by
          have h := HNE.out
          rw [e] at h
          simp at h
        rw [if_neg hEq] at HE
        clear hEq
        go_wp2_with fail
        refine (HFA.out _ 31 _ HRY.out).mono ?_
        rintro e w5 ⟨rfl, hr5, hg5⟩
        have HR5 := Lib.hid (show Rdr w5 r v B (qa, (31 : Int)) from hr5)
        have HG5 := Lib.hid (HGY.out.andThen hg5 (fun j hj => Or.inr hj))
        have HZ5 := Lib.hid (show C3 w5 k2' (.slice none 0 0) (.slice none 0 0) (.slice none 0 0) from HZY.out.grown hg5 (by simpa using hrk))
        clear hr5 hg5
        go_wp2_with fail
        refine (HWY.out _ _ HR5.out).mono ?_
        rintro e w6 ⟨rfl, h1⟩
        subst h1
        obtain ⟨-, z0, z1, z2, f0, f1, f2⟩ := HZ5.out
        obtain ⟨hp, hgp, u0, u1, u2⟩ := c3_put (o1 := none) (o2 := none) (o3 := none) (n1 := 0) (n2 := 0) (n3 := 0) (k1 := 0) (k2 := 0) (k3 := 0) HZ5.out (.slice none 0 0) (.slice none 0 0) (.slice none 0 0) _ rfl
        have HF := Lib.hid (show GetP r v B (conE, ((qa, (31 : Int)) : S)) w (.returned (.agg #[.slice none 0 0, .slice none 0 0, .slice none 0 0])) _ from ⟨_, rfl, (conE_lies _).is, HR5.out.apart hgp hrk (fun hb ad n c e => by have := HVL.out hb ad n c e; have := HK2.out; omega), HG5.out.andThen hgp (fun j hj => by cases hj; exact Or.inl (by rw [HK2.out]; exact Nat.le_refl _))⟩)
        clear hp hgp
        go_wp2_with fail
        refine bodyPost_ret (v := .agg #[.slice none 0 0, .slice none 0 0, .slice none 0 0]) (by simp [results, Tryz.f31, go_sem, u0, u1, u2]) rfl (by rw [HE.out]; exact HF.out)
end Go.Proofs.YtemckpmedjennaaGreatDoor.Rd

namespace Go.Proofs.YtemckpmedjennaaGreatDoor.Spare
open Go Go.RowKit
section
variable {P : Program}
theorem run_append_full (w : World) (t ty e : TypeId) (i : TypeInfo) (z : Value) (zs : List Value) (bytes : Nat) (ht : P.underlying t = some (.slice e)) (hi : P.info? e = some i) (hz : i.zero = some z)
    (hzc : z.cells = zs.toArray) (hsize : i.size = zs.length) (hby : i.bytes = bytes) (hpos : 0 < zs.length)
    (ao : Option Addr) (n : Nat) (xs : List Value) (hx : xs.length = n * zs.length) (hn0 : ao = none → n = 0) (hread : ∀ ad, ao = some ad → ∀ j u, xs[j]? = some u → w.cell? (ad.add j) = some u)
    (a : Addr) (m c : Nat) (news : List Value) (hm0 : 0 < m) (hl : news.length = m * zs.length) (hnews : ∀ j u, news[j]? = some u → w.cell? (a.add j) = some u)
    (h63 : n + m ≤ maxLen) (hbytes : (n + m) * bytes ≤ 140737488355328) :
    ∃ v' w', (Builtin.append_ #[t, t] ty #[.slice ao n n, .slice (some a) m c]).run P w = .ok v' w' ∧ Spare w' w.heap.size e zs v' (n + m) (xs ++ news) ∧ Below w.heap.size w w' := by
  subst hby
  have hsmall : n + m ≤ 9223372036854775807 := by simp only [maxLen] at h63; omega
  have hlen : (xs ++ news).length = (n + m) * zs.length := by rw [List.length_append, hx, hl, Nat.add_mul]
  have anew : ∀ (old : Nat), ∃ w', w' = w.drew.alloc (.cells ((xs ++ news).toArray ++ Builtin.zeroCells zs.toArray (grownCap w (n + m) old e - (n + m))) e) ∧
      Spare w' w.heap.size e zs (.slice (some ⟨w.heap.size, 0, none⟩) (n + m) (grownCap w (n + m) old e)) (n + m) (xs ++ news) ∧ Below w.heap.size w w' := fun old =>
    ⟨_, rfl, (fresh_spare w.drew w.heap.size e zs hpos (n + m) _ (xs ++ news) hlen (grownCap_ge w (n + m) old e) (grownCap_le_maxLen w (n + m) old e h63) (Nat.le_refl _)),
      ((Below.refl _ w).drew).alloc (by simp) _⟩
  cases ao with
  | none =>
    have h0 := hn0 rfl
    subst h0
    have hxe : xs = [] := List.eq_nil_of_length_eq_zero (by simpa using hx)
    subst hxe
    have hr := run_append_nil (P := P) w t ty e i z ht hi hz a m c news (by rw [hsize]; exact hl) hnews hm0 (by omega) (by have hb := hbytes; rw [Nat.zero_add] at hb; omega)
    obtain ⟨w', hw, q1, q2⟩ := anew 0
    refine ⟨_, w', ?_, q1, q2⟩
    rw [hr, hw, hzc]
    simp only [Nat.zero_add, List.nil_append]
  | some ad =>
    have hr := run_append_grow (P := P) w t ty e i z ht hi hz ad n n xs (by rw [hsize]; exact hx) (hread ad rfl) a m c news (by rw [hsize]; exact hl) hnews (by omega) (by omega) (growslice_fits (by omega) hbytes)
    obtain ⟨w', hw, q1, q2⟩ := anew n
    refine ⟨_, w', ?_, q1, q2⟩
    rw [hr, hw, hzc]
    simp only [List.append_toArray]

theorem wpList_append_full {w : World} {ops : Array Oper} {rest : List Oper} {o : Oper} {a : Act} {Q : Exit → Act → World → Prop} (hgd : o.guard = none) (s x : Operand) (t : TypeId)
    (ho : o.op = .call { callee := .builtin .append, args := #[s, x], argTypes := #[t, t] })
    (e : TypeId) (i : TypeInfo) (z : Value) (zs : List Value) (bytes : Nat) (ht : P.underlying t = some (.slice e)) (hi : P.info? e = some i) (hz : i.zero = some z)
    (hzc : z.cells = zs.toArray) (hsize : i.size = zs.length) (hby : i.bytes = bytes) (hpos : 0 < zs.length)
    (ao : Option Addr) (n : Nat) (xs : List Value) (hs : a.eval s = .slice ao n n) (hx : xs.length = n * zs.length) (hn0 : ao = none → n = 0) (hread : ∀ ad, ao = some ad → ∀ j u, xs[j]? = some u → w.cell? (ad.add j) = some u)
    (ad : Addr) (m c : Nat) (news : List Value) (hx2 : a.eval x = .slice (some ad) m c) (hm0 : 0 < m) (hl : news.length = m * zs.length) (hnews : ∀ j u, news[j]? = some u → w.cell? (ad.add j) = some u)
    (h63 : n + m ≤ maxLen) (hbytes : (n + m) * bytes ≤ 140737488355328)
    (h : ∀ v' w', Spare w' w.heap.size e zs v' (n + m) (xs ++ news) → Below w.heap.size w w' → wpList P ops Q rest (a.put o.dst v') w') : wpList P ops Q (o :: rest) a w := by
  refine wpList_plain hgd fun K hK => ?_
  obtain ⟨v', w', hr, q1, q2⟩ := run_append_full (P := P) w t o.type e i z zs bytes ht hi hz hzc hsize hby hpos ao n xs hx hn0 hread ad m c news hm0 hl hnews h63 hbytes
  unfold Oper.wp execOp
  simp only [ho, resolve, invoke, builtin, Sem.run_bind, Sem.run_pure, Result.andThen_ok, List.map_toArray, List.map_cons, List.map_nil, hs, hx2, hr]
  exact hK _ _ (h v' w' q1 q2)
end
end Go.Proofs.YtemckpmedjennaaGreatDoor.Spare

namespace Go.Proofs.YtemckpmedjennaaGreatDoor.Mut
open Go.RowKit Go.Sort Go.Proofs.YtemckpmedjennaaGreatDoor.Ord
set_option linter.unusedSectionVars false
variable [Inhabited Lim]
/-- 'append(l[:len(l):len(l)], x)' at mutations: a row of its own. -/
theorem wpList_append_cut {w : World} {ops : Array Oper} {rest : List Oper} {o : Oper} {a : Act} {Q : Exit → Act → World → Prop} (hgd : o.guard = none) (s x : Operand)
    (ho : o.op = .call { callee := .builtin .append, args := #[s, x], argTypes := #[29, 29] }) (ao : Option Addr) (n : Nat) (R : List Ro) (hs : a.eval s = .slice ao n n) (hR : MRow w (.slice ao n n) R)
    (ad : Addr) (m c : Nat) (K : List Ro) (hx : a.eval x = .slice (some ad) m c) (hK : MRow w (.slice (some ad) m c) K) (hm0 : 0 < m) (hm : n + m ≤ 1000000)
    (h : ∀ v' w', MRow w' v' (R ++ K) → RowKit.Below w.heap.size w w' → wpList Tryz.prog ops Q rest (a.put o.dst v') w') : wpList Tryz.prog ops Q (o :: rest) a w := by
  obtain ⟨i0, hi, hz0, hz1, hz2⟩ := info_parts info_M
  have hnR : n = R.length := Lst.len hR.row
  have hmK : m = K.length := Lst.len hK.row
  subst hnR hmK
  refine Spare.wpList_append_full hgd s x 29 ho 28 i0 zeroM [.int .i64 0, .int .i64 0, .string ByteArray.empty, .string ByteArray.empty, .string ByteArray.empty, .int .i64 0, .int .i64 0, .int .i64 0, .int .i64 0, .slice none 0 0] 120 Tryz.underlying29 hi hz0 rfl hz1 hz2 (by decide)
    ao R.length (R.flatMap enM) hs (flatMap_len enM_len R) (fun e => ?_) (fun ad' e => ?_) ad K.length c (K.flatMap enM) hx hm0 (flatMap_len enM_len K) (Lst.news enM_len (by decide) hK.row) (by unfold maxLen; omega) (by omega) (fun v' w' h1 h2 => ?_)
  · cases hR0 : R with
    | nil => rfl
    | cons y l =>
      exfalso
      subst e
      obtain ⟨b, off, e, _⟩ := Lst.get hR.row (show 0 < R.length by rw [hR0]; simp)
      cases e
  · subst e
    exact Lst.news enM_len (by decide) hR.row
  · refine h v' w' ⟨Lst.owned enM_len (by decide) (show R.length + K.length = (R ++ K).length by simp) (by rw [List.flatMap_append]; exact h1.own), fun y hy => ?_⟩ h2
    rcases List.mem_append.1 hy with g | g
    · exact (hR.over y g).below h2
    · exact (hK.over y g).below h2
end Go.Proofs.YtemckpmedjennaaGreatDoor.Mut

namespace Go.Proofs.YtemckpmedjennaaGreatDoor.Mrk
open Go.RowKit Go.Proofs.YtemckpmedjennaaGreatDoor.Spare

def eqB (a b : List Nat) : Bool := decide (a = b)
theorem eqB_iff (a b : List Nat) : eqB a b = true ↔ a = b := by unfold eqB; simp
theorem eqB_self (a : List Nat) : eqB a a = true := (eqB_iff a a).2 rfl

set_option maxHeartbeats 400000 in
theorem equalB_any (ao bo : Option Addr) (ac bc : Nat) (a b : List Nat) (w : World) (ha : BRow w (.slice ao a.length ac) a) (hb : BRow w (.slice bo b.length bc) b) (h1 : a.length ≤ 100000) (h2 : b.length ≤ 100000) :
    Calls Tryz.prog 26 #[.slice ao a.length ac, .slice bo b.length bc] w fun e w' => e = .returned (.bool (eqB a b)) ∧ Below w.heap.size w w' := by
  have HA := Lib.hid ha
  have HB := Lib.hid hb
  clear ha hb
  cases hl : ((a.length : Int) != (b.length : Int))
  · have hll : a.length = b.length := by simp at hl; omega
    have HLL := Lib.hid hll
    obtain ⟨r, hr⟩ : ∃ r, r = eqB a b := ⟨_, rfl⟩
    rw [← hr]
    have HR := Lib.hid hr
    clear hr hll
    go_enter Tryz.func26, Tryz.ntmps26
    go_wp2_with fail
    go_loopw [13] (fun iv wr => ∃ (k nq : Nat), k ≤ a.length ∧ iv = .int .i64 k ∧ wr = w.drewN nq ∧ Hid (eqB (a.drop k) (b.drop k) = r)) (fun iv _ => a.length - (intOf iv).toNat)
    case atStart => exact ⟨0, 0, by omega, rfl, rfl, Lib.hid (by rw [HR.out]; simp)⟩
    case round =>
      obtain ⟨k, nq0, hk, rfl, rfl, hq0⟩ := hrel
      by_cases hlt : k < a.length
      · have hlb : k < b.length := by have := HLL.out; omega
        obtain ⟨ab, aoff, rfl, _, a0⟩ := byte_at HA.out (List.getElem?_eq_getElem hlt)
        obtain ⟨bb, boff, rfl, _, b0⟩ := byte_at HB.out (List.getElem?_eq_getElem hlb)
        have hda := List.drop_eq_getElem_cons hlt
        have hdb := List.drop_eq_getElem_cons hlb
        generalize a[k] = x at *
        generalize b[k] = y at *
        have HDA := Lib.hid hda
        have HDB := Lib.hid hdb
        clear hda hdb
        cases hqq : ((x : Int) != (y : Int))
        · have HQ := Lib.hid hqq
          go_wp2_with fail
          go_quiet (fail)
          go_wp2_with fail
          go_roundw
          case rel => exact ⟨k + 1, _, by omega, by go_num, rfl, Lib.hid (by have h1 := hq0.out; rw [HDA.out, HDB.out] at h1; have h2 : x = y := (by have h3 := HQ.out; simp at h3; omega); rw [← h1]; unfold eqB; simp [h2])⟩
          case measure => simp [intOf]; omega
        · have HQ := Lib.hid hqq
          go_wp2_with fail
          go_quiet (fail)
          go_wp2_with fail
          go_ret
          exact ⟨by have h1 := hq0.out; rw [HDA.out, HDB.out] at h1; have h2 : ¬ x = y := (by have h3 := HQ.out; simp at h3; omega); rw [← h1]; unfold eqB; simp [h2], by repeat (first | exact Below.refl _ _ | apply below_drewN)⟩
      · obtain rfl : k = a.length := by omega
        go_wp2_with fail
        go_ret
        exact ⟨by have := hq0.out; rw [List.drop_length, HLL.out, List.drop_length] at this; rw [← this]; rfl, by repeat (first | exact Below.refl _ _ | apply below_drewN)⟩
  · have hll : a.length ≠ b.length := by simp at hl; omega
    have : eqB a b = false := by
      cases h : eqB a b with
      | false => rfl
      | true => rw [eqB_iff] at h; exact (hll (by rw [h])).elim
    rw [this]
    clear hll this
    go_enter Tryz.func26, Tryz.ntmps26
    go_wp2_with fail
    go_ret
    exact ⟨rfl, Below.refl _ _⟩

theorem equalB_lit (q : Bool) (ao bo : Option Addr) (ac bc : Nat) (a b : List Nat) (w : World) (hq : eqB a b = q) (ha : BRow w (.slice ao a.length ac) a) (hb : BRow w (.slice bo b.length bc) b) (h1 : a.length ≤ 100000) (h2 : b.length ≤ 100000) :
    Calls Tryz.prog 26 #[.slice ao a.length ac, .slice bo b.length bc] w fun e w' => e = .returned (.bool q) ∧ Below w.heap.size w w' := by
  rw [← hq]; exact equalB_any ao bo ac bc a b w ha hb h1 h2


/-- These bytes, in a row of the call's own with spare zero cells. -/
abbrev SpB (w : World) (base : Nat) (v : Value) (l : List Nat) : Prop := Spare w base 5 [.int .u8 0] v l.length (l.flatMap enB)
theorem spB_own {w : World} {base : Nat} {v : Value} {l : List Nat} (h : SpB w base v l) : OwnB w base v l := by have h1 := Spare.own h; unfold OwnB; simpa using h1
theorem bytes_one (l : List Nat) : ∀ u ∈ l.flatMap enB, u.oneCell' = true := by
  intro u hu
  rw [flat_enB] at hu
  obtain ⟨c, _, rfl⟩ := List.mem_map.1 hu
  rfl

set_option maxHeartbeats 2000000 in
set_option maxRecDepth 100000 in
theorem cloneB_any (v : Value) (l : List Nat) (w : World) (ha : BRow w v l) (hl : l.length ≤ 1000000) :
    Calls Tryz.prog 29 #[v] w fun e w' => ∃ v', e = .returned v' ∧ SpB w' w.heap.size v' l ∧ Below w.heap.size w w' := by
  have q22 : ∀ (w : World) (a : Option Addr) (n c n' c' : Nat), (binOp .eql 74 (.slice a n c) (.slice none n' c')).run Tryz.prog w = .ok (.bool a.isNone) w := fun w a n c n' c' => Lib.run_eql_slice_nil w _ _ a n c n' c' Tryz.underlying74
  obtain ⟨i0, hi, hz0, hz1, hz2⟩ := info_parts_B
  have HI := Lib.hid (And.intro hi (And.intro hz0 (And.intro hz1 hz2)))
  clear hi hz0 hz1 hz2
  obtain ⟨ao, ac, rfl, -, -⟩ := Lst.form ha
  cases ao with
  | none =>
    have h0 : l = [] := by
      cases l with
      | nil => rfl
      | cons x l => obtain ⟨b, off, e, _⟩ := Lst.get ha (show 0 < (x :: l).length by simp); cases e
    subst h0
    clear ha
    go_enter Tryz.func29, Tryz.ntmps29
    go_wp2_with fail
    go_ret
    exact ⟨_, rfl, Spare.nil _ _ _ _, Below.refl _ _⟩
  | some a =>
    have HN := Lib.hid (Mut.lst_src enB_len (by decide) (ha.alloc (.cells #[] 5)))
    obtain ⟨n, hn⟩ : ∃ n, n = l.length := ⟨_, rfl⟩
    rw [← hn] at HN ha hl ⊢
    have HLN := Lib.hid hn
    have HSP := Lib.hid (Mut.spare_lit w w.heap.size 5 [.int .u8 0] (by decide) (Nat.le_refl _))
    clear ha hn
    go_enter Tryz.func29, Tryz.ntmps29
    go_wp2_with (at_builtin; refine wpList_append_spareAny rfl _ _ 74 rfl w.heap.size 5 i0 (.int .u8 0) [.int .u8 0] 1 Tryz.underlying74 HI.out.1 HI.out.2.1 rfl HI.out.2.2.1 HI.out.2.2.2 (by decide) (.slice (some ⟨w.heap.size, 0, none⟩) 0 0) 0 [] rfl HSP.out (some a) n ac (l.flatMap enB) rfl ?qc1 ?qc2 ?qc3 ?qc4 ?qc5 ?qc6 ?_)
    case qc1 => rw [flat_enB, List.length_map, ← HLN.out]; exact (Nat.mul_one _).symm
    case qc2 => exact HN.out
    case qc3 => exact bytes_one l
    case qc4 => unfold maxLen; omega
    case qc5 => omega
    case qc6 => simp
    intro v' w1 hown hgrow _ _
    have HE := Lib.hid (show SpB w1 w.heap.size v' l ∧ Below w.heap.size w w1 from ⟨by unfold SpB; rw [← HLN.out]; simpa using hown, ((Below.refl _ w).alloc (Nat.le_refl _) _).grown hgrow (by simp) (by intro k hk; simp [Value.ownBlock] at hk; omega)⟩)
    clear hown hgrow
    go_wp2_with fail
    go_ret
    exact ⟨_, rfl, HE.out.1, HE.out.2⟩
end Go.Proofs.YtemckpmedjennaaGreatDoor.Mrk

namespace Go.Proofs.YtemckpmedjennaaGreatDoor.Mrk
open Go.RowKit Go.Proofs.YtemckpmedjennaaGreatDoor.Spare

set_option maxHeartbeats 4000000 in
set_option maxRecDepth 100000 in
theorem put_seven (g k : Nat) (w : World) (h : w.heap[g]? = some (.cells #[.int .u8 7] 5 (0, 0))) (hk : k < 128) :
    Calls Tryz.prog 89 #[.slice (some ⟨g, 0, none⟩) 1 1, .int .i64 k] w fun e w' => ∃ v', e = .returned v' ∧ OwnB w' w.heap.size v' ([7] ++ putF k) ∧ Below w.heap.size w w' := by
  obtain ⟨i0, hi, hz0, hz1, hz2⟩ := info_parts_B
  have HI := Lib.hid (And.intro hi (And.intro hz0 (And.intro hz1 hz2)))
  have hgw := (Array.getElem?_eq_some_iff.1 h).1
  have H7 := Lib.hid (cell_of_row w g 0 _ _ (0, 0) h)
  have HPF := Lib.hid (show putF k = [k] from by unfold putF; rw [low_small hk]; simp [hi, Nat.mod_eq_of_lt hk]; rfl)
  have hm0 : max (k : Int) 0 = k := by omega
  clear hi hz0 hz1 hz2 h
  go_enter Tryz.func89, Tryz.ntmps89
  go_wp2_with fail
  go_loopw [1, 5, 6] (fun nv lv kv wr => (nv = .int .i64 k ∧ lv = .slice none 0 0 ∧ kv = .bool true ∧ wr = w) ∨ (nv = .int .i64 0 ∧ kv = .bool false ∧ ∃ b cap, lv = .slice (some ⟨b, 0, none⟩) 1 cap ∧ b < wr.heap.size ∧ wr.cell? ⟨b, 0, none⟩ = some (.int .u8 k) ∧ Hid (Below w.heap.size w wr))) (fun _ _ kv _ => match kv with | .bool true => 1 | _ => 0)
  case atStart => exact Or.inl ⟨rfl, rfl, rfl, rfl⟩
  case round =>
    rcases hrel with ⟨rfl, rfl, rfl, hwr⟩ | ⟨rfl, rfl, b, cap, rfl, hbw, hbc, hbl⟩
    · obtain ⟨wo, hwo⟩ : ∃ W : World, W = wr := ⟨_, rfl⟩
      subst hwo
      subst hwr
      have e1 : (k : Int) / 128 = 0 := by omega
      have e2 : bits .and .i64 (k : Int) 127 = (k : Int) := by rw [i64_and127]; omega
      have e3 := u8_nat k (by omega)
      go_wp2_with (at_builtin; refine wpList_append_own _ rfl _ _ 74 rfl wo.heap.size 5 i0 (.int .u8 0) 1 1 Tryz.underlying74 HI.out.1 HI.out.2.1 HI.out.2.2.1 HI.out.2.2.2 rfl (by decide) (.slice none 0 0) 0 [] rfl (World.ownsRow_nil _ _ _ _) ⟨_, 0, none⟩ 1 1 (enB k) rfl rfl ?c1 ?c2 ?c3 ?c4 ?c5 ?_)
      case c1 => exact new_cells _ (enB k) _
      case c2 => intro u hu; simp at hu; subst hu; rfl
      case c3 => unfold maxLen; omega
      case c4 => omega
      case c5 => simp
      intro v' w3 hown3 hgrow3 _
      have hbl3 : Below wo.heap.size wo w3 := ((Below.refl _ wo).alloc (Nat.le_refl _) _).grown hgrow3 (by simp) (fun k hk => by simp [Value.ownBlock] at hk)
      rcases hown3.2 with ⟨_, h00⟩ | ⟨gg, gc, cur, rfl, _, hgg, _⟩
      · omega
      have hcl := World.ownsRow.cells hown3 (g := gg) rfl 0 (.int .u8 k) rfl
      have hcl2 : w3.cell? ⟨gg, 0, none⟩ = some (.int .u8 k) := by rw [addr_add] at hcl; exact hcl
      have hgw3 := (Array.getElem?_eq_some_iff.1 hgg).1
      have HB3 := Lib.hid hbl3
      have HC3 := Lib.hid hcl2
      clear hown3 hgrow3 hcl hcl2 hbl3 hgg
      go_wp2_with fail
      go_roundw
      case rel => exact Or.inr ⟨by first | rfl | go_num, rfl, gg, gc, rfl, hgw3, HC3.out, HB3⟩
      case measure => simp
    · have HG7 := Lib.hid (show wr.cell? ⟨g, 0, none⟩ = some (.int .u8 7) from (hbl.out.cell (p := ⟨g, 0, none⟩) hgw).trans H7.out)
      have hgr : g < wr.heap.size := Nat.lt_of_lt_of_le hgw hbl.out.size
      go_wp2_with fail
      go_loopw [0, 7] (fun bv iv wr' => bv = .slice (some ⟨g, 0, none⟩) 1 1 ∧ iv = .int .i64 0 ∧ wr' = wr) (fun _ _ _ => 0)
      case atStart => exact ⟨rfl, rfl, rfl⟩
      case round =>
        obtain ⟨rfl, rfl, hwr⟩ := hrel
        obtain ⟨wo, hwo⟩ : ∃ W : World, W = wr := ⟨_, rfl⟩
        subst hwo
        subst hwr
        go_wp2_with (at_builtin; refine wpList_append_full rfl _ _ 74 rfl 5 i0 (.int .u8 0) [.int .u8 0] 1 Tryz.underlying74 HI.out.1 HI.out.2.1 rfl HI.out.2.2.1 HI.out.2.2.2 (by decide) (some ⟨g, 0, none⟩) 1 [.int .u8 7] rfl rfl (fun h => by cases h) ?c0 ⟨_, 0, none⟩ 1 1 (enB k) rfl (by decide) rfl ?c1 (by unfold maxLen; omega) (by omega) ?_)
        case c0 =>
          intro ad e j u hu
          cases e
          cases j with
          | zero =>
            simp at hu
            subst hu
            exact ((RowKit.Below.refl wo.heap.size wo).alloc (Nat.le_refl _) _).cell (p := ⟨g, 0, none⟩) hgr |>.trans HG7.out
          | succ j => simp at hu
        case c1 => exact new_cells _ (enB k) _
        intro v' w3 hs3 hb3
        have HE := Lib.hid (show OwnB w3 w.heap.size v' ([7] ++ putF k) ∧ Below w.heap.size w w3 from by
          have h1 := hs3.own
          have hsz := hbl.out.size
          refine ⟨?_, below_then hbl.out (Nat.le_refl _) (((Below.refl wo.heap.size wo).alloc (Nat.le_refl _) _).trans (hb3.mono (by simp)))⟩
          rw [HPF.out]
          unfold OwnB
          exact own_base h1 (by omega))
        clear hs3 hb3
        go_wp2_with fail
        go_ret
        exact ⟨_, rfl, HE.out.1, HE.out.2⟩
end Go.Proofs.YtemckpmedjennaaGreatDoor.Mrk

namespace Go.Proofs.YtemckpmedjennaaGreatDoor.Mut
open Go.RowKit Go.Sort Go.Proofs.YtemckpmedjennaaGreatDoor.Ord
set_option linter.unusedSectionVars false
variable [Inhabited Lim]

def kB : ByteArray := ⟨#[107]⟩
def vB : ByteArray := ⟨#[118]⟩
def wB : ByteArray := ⟨#[119]⟩
def mA : Mu := ⟨1, 1, kB, ⟨#[]⟩, vB, 0, ⟨2, 0, 0⟩, []⟩
def mB : Mu := ⟨1, 2, kB, ⟨#[]⟩, ⟨#[]⟩, 0, ⟨3, 0, 0⟩, []⟩
def mC : Mu := ⟨1, 1, kB, ⟨#[]⟩, wB, 0, ⟨1, 0, 0⟩, []⟩
theorem rightA : rightF mA = true := by kernel_rfl
theorem rightB : rightF mB = true := by kernel_rfl
theorem rightC : rightF mC = true := by kernel_rfl
theorem leA : muC mA mB ≤ 0 := of_decide_eq_true (by kernel_rfl)
theorem leB : muC mB mB ≤ 0 := of_decide_eq_true (by kernel_rfl)
theorem leC : muC mC mB ≤ 0 := of_decide_eq_true (by kernel_rfl)
theorem alive_reps : Reps (Fits [mA, mB, mC]) ⟨[mB], [], []⟩ where
  fit := fun m h => fit_of h.2
  cells := fun m h => by
    rw [List.mem_singleton] at h; subst h
    exact ⟨⟨by simp, rightB⟩, by show ¬ (1 : Int) = 2; decide, by show ¬ (2 : Int) = 3; decide⟩
  wipes := fun _ h => by cases h
  sibs := fun m => ⟨fun h => (by cases h), fun h => by
    obtain ⟨⟨h1, -⟩, h2⟩ := h
    simp only [List.mem_cons, List.not_mem_nil, or_false] at h1
    rcases h1 with rfl | rfl | rfl <;> exact absurd h2 (by show ¬ (1 : Int) = 2; decide)⟩
  rc := List.pairwise_singleton _ _
  rw_ := List.Pairwise.nil
  rs := List.Pairwise.nil
  free := fun _ _ w hw => by cases hw
  alone := fun _ h => by cases h
  domW := fun x h1 h2 => by
    obtain ⟨h1, -⟩ := h1
    simp only [List.mem_cons, List.not_mem_nil, or_false] at h1
    rcases h1 with rfl | rfl | rfl
    · exact absurd h2.2 (by show ¬ (1 : Int) = 3; decide)
    · exact absurd h2.2 (by show ¬ (2 : Int) = 3; decide)
    · exact absurd h2.2 (by show ¬ (1 : Int) = 3; decide)
  domC := fun x h1 h2 => by
    obtain ⟨h1, -⟩ := h1
    simp only [List.mem_cons, List.not_mem_nil, or_false] at h1
    rcases h1 with rfl | rfl | rfl
    · exact Or.inl ⟨mB, by simp, rfl, leA⟩
    · exact Or.inl ⟨mB, by simp, rfl, leB⟩
    · exact Or.inl ⟨mB, by simp, rfl, leC⟩
def rA : Ro := (mA, .slice none 0 0)
def rB : Ro := (mB, .slice none 0 0)
def rC : Ro := (mC, .slice none 0 0)
theorem alive_row (w : World) (t : TypeId) : MRow (w.alloc (.cells ⟨enM rA ++ enM rB ++ enM rC⟩ t)) (.slice (some ⟨w.heap.size, 0, none⟩) 3 3) [rA, rB, rC] := by
  refine ⟨⟨_, 3, rfl, by decide, by decide, Or.inr ⟨_, _, rfl, by simp, fun i x hi j hj => ?_⟩⟩, fun x hx => ?_⟩
  · rw [cells_at (heap_alloc_new w _), Nat.zero_add]
    have : [rA, rB, rC].flatMap enM = enM rA ++ enM rB ++ enM rC := by simp
    rw [← this]
    exact flatMap_get enM_len _ i x hi j hj
  · simp only [List.mem_cons, List.not_mem_nil, or_false] at hx
    rcases hx with rfl | rfl | rfl <;> exact ⟨Lst.nil _, ZN.none _ _⟩
theorem small_of_right : ∀ x ∈ [rA, rB, rC], Small x.1 := by
  intro x hx
  simp only [List.mem_cons, List.not_mem_nil, or_false] at hx
  rcases hx with rfl | rfl | rfl
  · exact small_right rightA
  · exact small_right rightB
  · exact small_right rightC

set_option maxHeartbeats 4000000 in
set_option maxRecDepth 100000 in
theorem alive_any (w : World) (hT : Tabs w) : Calls Tryz.prog 34 #[] w fun e w' => e = .returned (.bool true) ∧ RowKit.Below w.heap.size w w' := by
  have HT := Lib.hid hT
  clear hT
  go_enter Tryz.func34, Tryz.ntmps34
  go_wp2_with fail
  have hrow := alive_row w 28
  have hb0 := (Below.refl _ w).alloc (Nat.le_refl _) (.cells ⟨enM rA ++ enM rB ++ enM rC⟩ 28)
  have hof := of_any _ [rA, rB, rC] _ (HT.out.below hb0) hrow (by decide) small_of_right
  refine hof.mono ?_
  rintro e w1 ⟨va, vb, vd, c, rfl, hl, hr, ho, hb1⟩
  have hc : c = ⟨[mB], [], []⟩ := hr.unique (alive_reps.same fun m => Iff.rfl)
  subst hc
  have HB1 := Lib.hid (below_then hb0 (Nat.le_refl _) hb1)
  obtain ⟨o1, m1, k1, hv1⟩ := hl.cells.slice
  obtain ⟨o2, m2, k2, hv2⟩ := hl.wipes.slice
  obtain ⟨o3, m3, k3, hv3⟩ := hl.sibs.slice
  subst hv1 hv2 hv3
  obtain ⟨R, eR, hR⟩ := hl.cells
  have hRl : R.length = 1 := by have := congrArg List.length eR; simpa using this
  obtain ⟨x, hx⟩ : ∃ x, R[0]? = some x := ⟨R[0], List.getElem?_eq_getElem (by omega)⟩
  have hx1 : x.1 = mB := by
    have h1 : (R.map (·.1))[0]? = some x.1 := by rw [List.getElem?_map, hx]; rfl
    rw [eR] at h1
    simpa using h1.symm
  obtain ⟨_, _, e0, -, -⟩ := hR.form
  obtain ⟨rfl⟩ : m1 = R.length := by injection e0
  rw [hRl] at hR hl
  rw [hRl]
  obtain ⟨b, off, rfl, hat⟩ := hR.at_ hx
  obtain ⟨hlt, a0, a1, a2, a3, a4, a5, a6, a7, a8, a9⟩ := hat
  rw [hx1] at a1
  have a1' : w1.cell? ⟨b, off + 0 * 10 + 1, none⟩ = some (.int .i64 2) := a1
  rw [Nat.zero_mul, Nat.add_zero] at a1'
  have HAL := Lib.hid (fun (z : World) (h : RowKit.Below w1.heap.size w1 z) => all_any _ _ _ _ _ z (hl.below h) ho (by decide))
  clear e0 hx1 hx eR hRl hR a0 a1 a2 a3 a4 a5 a6 a7 a8 a9 hl hr ho hof hrow hb0 hb1
  go_wp2_with fail
  have hbc := (Below.refl _ w1).alloc (Nat.le_refl _) (.cells #[.slice (some ⟨b, off, none⟩) 1 k1, .slice o2 m2 k2, .slice o3 m3 k3] 47)
  have HBC := Lib.hid hbc
  clear hbc
  refine (HAL.out _ HBC.out).mono ?_
  rintro e w2 ⟨g, cap, R2, rfl, -, -, -, hb2⟩
  have hlen : (⟨[mB], [], []⟩ : Con).all.length = 1 := rfl
  rw [hlen]
  have HB2 := Lib.hid (below_then HB1.out (Nat.le_refl _) (below_then HBC.out (Nat.le_refl _) hb2))
  clear hb2 hlen
  go_wp2_with fail
  go_ret
  exact ⟨rfl, HB2.out⟩
end Go.Proofs.YtemckpmedjennaaGreatDoor.Mut

namespace Go.Proofs.YtemckpmedjennaaGreatDoor.Rd
open Go.RowKit Go.Proofs.YtemckpmedjennaaGreatDoor.Spare Go.Proofs.YtemckpmedjennaaGreatDoor.Mrk Go.Proofs.YtemckpmedjennaaGreatDoor.RegInv Go.Proofs.YtemckpmedjennaaGreatDoor.Mut
set_option linter.unusedSectionVars false
variable [Inhabited Lim]

theorem spare_one (w : World) (base : Nat) (hb : base ≤ w.heap.size) : Spare (w.alloc (.cells #[.int .u8 7] 5)) base 5 [.int .u8 0] (.slice (some ⟨w.heap.size, 0, none⟩) 1 1) 1 [.int .u8 7] := by
  have h := fresh_spare w base 5 [.int .u8 0] (by decide) 1 1 [.int .u8 7] (by simp) (Nat.le_refl _) (by decide) hb
  have e0 : (([.int .u8 7] : List Value).toArray ++ Builtin.zeroCells ([.int .u8 0] : List Value).toArray (1 - 1)) = #[.int .u8 7] := by simp [Builtin.zeroCells]
  rw [e0] at h
  exact h
theorem own_row {w : World} {base : Nat} {v : Value} {l : List Nat} (h : OwnB w base v l) : BRow w v l := row_of h
theorem row_take {w : World} {g : Addr} {n cap : Nat} {l : List Nat} (h : BRow w (.slice (some g) n cap) l) (k : Nat) (hk : k ≤ l.length) : BRow w (.slice (some g) k cap) (l.take k) := by
  obtain ⟨ao, c, e, h1, h2, h3⟩ := h
  cases e
  refine ⟨_, _, by rw [List.length_take, Nat.min_eq_left hk], by rw [List.length_take]; omega, h2, ?_⟩
  rcases h3 with h3 | ⟨b, off, e2, hb, hc⟩
  · left; rw [List.length_take]; omega
  · refine Or.inr ⟨b, off, e2, hb, fun i x hi j hj => ?_⟩
    rw [List.getElem?_take] at hi
    split at hi
    · exact hc i x hi j hj
    · cases hi

set_option maxHeartbeats 16000000 in
set_option maxRecDepth 100000 in
theorem bytes_any (vl vb : Value) (A : List Ro) (b : List Nat) (w : World) (hT : Tabs w) (hA : MRow w vl A) (zA : ∀ x ∈ A, x.1.key.size ≤ maxLen ∧ x.1.fin.size ≤ maxLen ∧ x.1.val.size ≤ maxLen) (hb : BRow w vb b) (hb8 : ∀ c ∈ b, c < 256) :
    Calls Tryz.prog 5 #[vl, vb] w (RetB true w) := by
  have HGa := Lib.hid (great_any vl A 40 w hA (by decide) zA)
  obtain ⟨ga, hga⟩ : ∃ q, q = greatF (A.map (·.1)) 40 := ⟨_, rfl⟩
  rw [← hga] at HGa
  obtain ⟨la, hla⟩ : ∃ l, l = A.map (·.1) := ⟨_, rfl⟩
  rw [← hla] at hga
  have HRA := Lib.hid (show Reads w vl la from ⟨A, hla.symm, hA⟩)
  obtain ⟨ao, ac, rfl, -, -⟩ := hA.form
  obtain ⟨na, hna⟩ : ∃ k, k = A.length := ⟨_, rfl⟩
  rw [← hna] at HGa HRA ⊢
  obtain ⟨bo, bc, rfl, hbcap, -⟩ := Lst.form hb
  obtain ⟨nb, hnb⟩ : ∃ k, k = b.length := ⟨_, rfl⟩
  rw [← hnb] at hb hbcap ⊢
  have HBV := Lib.hid hb
  have HB8 := Lib.hid hb8
  have HNB := Lib.hid hnb
  have HT := Lib.hid hT
  have HGG := Lib.hid hga
  clear hT hA zA hga hna hla hb hb8 hnb
  obtain ⟨x, hx⟩ : ∃ x, x = Mut.leftOf la := ⟨_, rfl⟩
  have HX := Lib.hid hx
  clear hx
  go_enter Tryz.func5, Tryz.ntmps5
  go_wp2_with fail
  refine HGa.out.mono ?_
  rintro e w1 ⟨rfl, h1⟩
  subst h1
  cases ga
  case true =>
    go_wp2_with fail
    go_ret
    exact ⟨rfl, Below.refl _ _⟩
  obtain ⟨lA, sA⟩ := great_small HGG.out.symm
  cases hq3 : decide ((nb : Int) > 3000)
  case true =>
    go_wp2_with fail
    go_ret
    exact ⟨rfl, Below.refl _ _⟩
  have hn3 : nb ≤ 3000 := by simp at hq3; omega
  have HOM := Lib.hid (show (∀ W, RowKit.Below w.heap.size w W → Calls Tryz.prog 8 #[.slice ao na ac] W (RetC x W)) ∧ ∀ W, RowKit.Below w.heap.size w W → Calls Tryz.prog 24 #[.slice ao na ac] W (RetC x W) from by
    rw [HX.out]
    exact ⟨fun W h => c_of (HT.out.below h) (HRA.out.below h) (by omega) sA, fun W h => c_refof (HT.out.below h) (HRA.out.below h) (by omega) sA⟩)
  have HG := Lib.hid (show Mut.Good x 40 from by rw [HX.out]; exact (Mut.leftOf_good la).more lA)
  clear lA sA HGG HGa HRA HX
  go_wp2_with fail
  refine (HOM.out.2 _ (Below.refl _ _)).mono ?_
  rintro e w1 ⟨vv, rfl, hl, hb1⟩
  obtain ⟨m1, i1, j1, m2, i2, j2, m3, i3, j3, rfl, hl1⟩ := hl.form
  go_upto_region 4 with fail
  obtain ⟨W2, hW2⟩ : ∃ W, W = w1.alloc (.cells #[.slice m1 i1 j1, .slice m2 i2 j2, .slice m3 i3 j3] 75) := ⟨_, rfl⟩
  obtain ⟨k5, hk5⟩ : ∃ k, k = w1.heap.size := ⟨_, rfl⟩
  rw [← hW2, ← hk5]
  have hb2 : RowKit.Below w1.heap.size w1 W2 := by rw [hW2]; exact (Below.refl _ _).alloc (Nat.le_refl _) _
  have HB2 := Lib.hid (below_then hb1 (Nat.le_refl _) hb2)
  have HC2 := Lib.hid (show C3 W2 k5 (.slice m1 i1 j1) (.slice m2 i2 j2) (.slice m3 i3 j3) from by rw [hW2, hk5]; exact C3.newR w1 _ _ _)
  have HM2 := Lib.hid (show IsC x (.agg #[.slice m1 i1 j1, .slice m2 i2 j2, .slice m3 i3 j3]) W2 from (hl1.below hb2).is)
  clear hb1 hl hl1 hW2 hk5 hb2
  go_wp2_with fail
  refine (HOM.out.1 _ HB2.out).mono ?_
  rintro e w3 ⟨vx, rfl, hx3, hb3⟩
  obtain ⟨L, hL⟩ : ∃ L, L = bytesR (allF x) := ⟨_, rfl⟩
  have HLL := Lib.hid (show L.length ≤ 50000 from by
    rw [hL]
    have h1 := bytesR_len (l := allF x) (fun m hm => HG.out.okc.right m (mem_allF.1 hm)) (by have := HG.out.okc.len; have := len_allF x; omega)
    have := HG.out.okc.len
    have := len_allF x
    omega)
  have HNE := Lib.hid (show L ≠ [] from by rw [hL]; exact bytesR_ne _)
  have HPN := Lib.hid (show ∀ W v, IsC x v W → Calls Tryz.prog 25 #[.slice none 0 0, v] W fun e w' => ∃ v', e = .returned v' ∧ OwnB w' W.heap.size v' L ∧ Below W.heap.size W w' from fun W v hv => by
    have h := statePut_any (b := .slice none 0 0) (bs := []) hv (HG.out.more (by omega : 40 ≤ 420)) (by omega) (by simp) (fun W' k _ hk => put_nil W' k (by omega))
    rw [List.nil_append, ← hL] at h
    exact h)
  have HRP := Lib.hid (show ∀ W v, IsC x v W → Calls Tryz.prog 27 #[v] W fun e w' => ∃ v', e = .returned v' ∧ OwnB w' W.heap.size v' L ∧ Below W.heap.size W w' from fun W v hv => by
    have h := refPut08_any hv (HG.out.more (by omega : 40 ≤ 420)) (by omega)
    rw [← hL] at h
    exact h)
  have HP7 := Lib.hid (show ∀ W v g, IsC x v W → W.heap[g]? = some (.cells #[.int .u8 7] 5 (0, 0)) → Calls Tryz.prog 25 #[.slice (some ⟨g, 0, none⟩) 1 1, v] W fun e w' => ∃ v', e = .returned v' ∧ OwnB w' W.heap.size v' ([7] ++ L) ∧ Below W.heap.size W w' from fun W v g hv hg => by
    have hgl := (Array.getElem?_eq_some_iff.1 hg).1
    have h := statePut_any (bs := [7]) hv HG.out (by omega) (by simp) (fun W' k hb hk => put_seven g k W' ((hb.block g hgl).trans hg) (by omega))
    rw [← hL] at h
    exact h)
  have HGB := Lib.hid (show ∀ post, getC (L ++ post) = (x, ((L.length, 0) : S)) from fun post => by rw [hL]; exact getC_back HG.out (by omega) post)
  have HL8 := Lib.hid (show ∀ c ∈ L, c < 256 from by rw [hL]; exact bytesR_lt _)
  clear hL
  go_wp2_with fail
  refine (HPN.out _ _ hx3).mono ?_
  rintro e w4 ⟨vown, rfl, ho4, hb4⟩
  obtain ⟨oo, oc, rfl⟩ := ho4.form
  obtain ⟨nL, hnL⟩ : ∃ n, n = L.length := ⟨_, rfl⟩
  have HNL := Lib.hid hnL
  have hb24 := below_then hb3 (Nat.le_refl _) hb4
  have HB4 := Lib.hid (below_then HB2.out (Nat.le_refl _) hb24)
  have HC4 := Lib.hid (HC2.out.below hb24)
  have HM4 := Lib.hid (HM2.out.below hb24)
  have HO4 := Lib.hid (show BRow w4 (.slice oo L.length oc) L from own_row ho4)
  obtain ⟨og, ogc, e4, hcells4⟩ := own_at0 ho4 HNE.out
  cases e4
  rw [← hnL]
  clear hx3 hb3 ho4 hb4 hb24 hnL hcells4 HB2 HC2 HM2
  obtain ⟨-, s0, s1, s2, -, -, -⟩ := HC4.out
  go_wp2_with fail
  refine (HRP.out w4 _ HM4.out).mono ?_
  rintro e w5 ⟨v5, rfl, ho5, hb5⟩
  obtain ⟨po, pc, rfl⟩ := ho5.form
  have HO5 := Lib.hid (own_row ho5)
  have HB5 := Lib.hid hb5
  have HOW := Lib.hid (HO4.out.below hb5)
  rw [← HNL.out]
  clear ho5 hb5 s0 s1 s2
  go_wp2_with fail
  have h := equalB_lit true (some ⟨og, 0, none⟩) po oc pc L L w5 (eqB_self _) HOW.out HO5.out (by have := HLL.out; omega) (by have := HLL.out; omega)
  rw [← HNL.out] at h
  refine h.mono ?_
  rintro e w6 ⟨rfl, hb6⟩
  have HB6 := Lib.hid (below_then HB5.out (Nat.le_refl _) hb6)
  clear h hb6 HO5 HOW HB5
  have HO6 := Lib.hid (HO4.out.below HB6.out)
  have HB7 := Lib.hid (below_then HB4.out (Nat.le_refl _) HB6.out)
  obtain ⟨i0, hi, hz0, hz1, hz2⟩ := info_parts_B
  have HI := Lib.hid (And.intro hi (And.intro hz0 (And.intro hz1 hz2)))
  clear hi hz0 hz1 hz2
  obtain ⟨L7, hL7⟩ : ∃ l, l = [7] ++ L := ⟨_, rfl⟩
  have HL7 := Lib.hid hL7
  have HN7 := Lib.hid (show L7.length = 1 + nL from by rw [hL7, List.length_append, HNL.out]; rfl)
  have HP7 := Lib.hid (show ∀ W v g, IsC x v W → W.heap[g]? = some (.cells #[.int .u8 7] 5 (0, 0)) → Calls Tryz.prog 25 #[.slice (some ⟨g, 0, none⟩) 1 1, v] W fun e w' => ∃ v', e = .returned v' ∧ OwnB w' W.heap.size v' L7 ∧ Below W.heap.size W w' from by rw [hL7]; exact HP7.out)
  clear hL7
  have hnL5 : nL ≤ 50000 := by rw [HNL.out]; exact HLL.out
  go_wp2_with fail
  obtain ⟨W7, hW7⟩ : ∃ W, W = w6.alloc (.cells #[.int .u8 7] 5) := ⟨_, rfl⟩
  rw [← hW7]
  have hb67 : RowKit.Below w6.heap.size w6 W7 := by rw [hW7]; exact (Below.refl _ _).alloc (Nat.le_refl _) _
  have h7 : W7.heap[w6.heap.size]? = some (.cells #[.int .u8 7] 5 (0, 0)) := by rw [hW7]; exact heap_alloc_new w6 _
  refine (HOM.out.1 _ (below_then HB7.out (Nat.le_refl _) hb67)).mono ?_
  rintro e w8 ⟨vx8, rfl, hx8, hb8⟩
  have HX8 := Lib.hid hx8
  have HH8 := Lib.hid ((hb8.block w6.heap.size (Array.getElem?_eq_some_iff.1 h7).1).trans h7)
  have HB8 := Lib.hid (below_then HB6.out (Nat.le_refl _) (below_then hb67 (Nat.le_refl _) hb8))
  clear hx8 hb8 h7 hb67 hW7
  go_wp2_with fail
  refine (HP7.out _ _ _ HX8.out HH8.out).mono ?_
  rintro e w9 ⟨v9, rfl, ho9, hb9⟩
  obtain ⟨qo, qc, rfl⟩ := ho9.form
  have HB9 := Lib.hid (below_then HB8.out (Nat.le_refl _) hb9)
  have HO9 := Lib.hid (own_row ho9)
  have HNW := Lib.hid (Lst.news enB_len (by decide) (HO4.out.below (below_then HB9.out (Nat.le_refl _) ((Below.refl w9.heap.size w9).alloc (Nat.le_refl _) (.cells #[.int .u8 7] 5)))))
  have HSO := Lib.hid (spare_one w9 w9.heap.size (Nat.le_refl _))
  rw [HN7.out]
  clear ho9 hb9
  go_wp2_with (at_builtin; refine wpList_append_spareAnyG rfl (.tmp 33) (.tmp 34) 74 rfl w9.heap.size 5 i0 (.int .u8 0) [.int .u8 0] 1 Tryz.underlying74 HI.out.1 HI.out.2.1 rfl HI.out.2.2.1 HI.out.2.2.2 (by decide) _ 1 [.int .u8 7] rfl HSO.out (some ⟨og, 0, none⟩) nL oc (L.flatMap enB) rfl ?qa ?qb (bytes_one L) (by unfold maxLen; omega) (by omega) ?qd ?_; (case qa => (rw [flat_enB, List.length_map, ← HNL.out]; exact (Nat.mul_one _).symm)); (case qb => exact Or.inr ⟨_, rfl, HNW.out⟩); (case qd => simp))
  intro v10 w10 hs10 hg10 _ _
  have hb10 : Below w9.heap.size w9 w10 := ((Below.refl w9.heap.size w9).alloc (Nat.le_refl _) _).grown hg10 (by simp) (by intro k hk; simp [Value.ownBlock] at hk; omega)
  have ho10 : OwnB w10 w9.heap.size v10 L7 := by
    have h := hs10.own
    unfold OwnB
    rw [HN7.out, HL7.out, List.flatMap_append]
    exact h
  obtain ⟨ro, rc, rfl⟩ := ho10.form
  have HO10 := Lib.hid (own_row ho10)
  have HOQ := Lib.hid (HO9.out.below hb10)
  have HB10 := Lib.hid (below_then HB9.out (Nat.le_refl _) hb10)
  rw [HN7.out]
  clear hs10 hg10 ho10 hb10 HNW HSO
  go_wp2_with fail
  have h := equalB_lit true qo ro qc rc L7 L7 w10 (eqB_self _) HOQ.out HO10.out (by rw [HN7.out]; omega) (by rw [HN7.out]; omega)
  rw [HN7.out] at h
  refine h.mono ?_
  rintro e wB ⟨rfl, hbB⟩
  have HBB := Lib.hid (below_then HB10.out (Nat.le_refl _) hbB)
  clear h hbB HOQ HO10 HB10 HO9 HB9 HB8 HX8 HH8 HB7 HO6 HB6
  go_wp2_with fail
  have hcl := cloneB_any _ L wB (HO4.out.below HBB.out) (by have := HLL.out; omega)
  rw [← HNL.out] at hcl
  refine hcl.mono ?_
  clear hcl
  rintro e wC ⟨vC, rfl, hsC, hbC⟩
  have HSC := Lib.hid (show Spare wC wB.heap.size 5 [.int .u8 0] vC nL (L.flatMap enB) from by rw [HNL.out]; exact hsC)
  have HBC := Lib.hid hbC
  have HBSRC := Lib.hid (Mut.lst_src enB_len (by decide) (HBV.out.below (below_then HB4.out (Nat.le_refl _) (below_then HBB.out (Nat.le_refl _) hbC))))
  have hszC := hbC.size
  clear hsC hbC
  go_wp2_with (at_builtin; refine wpList_append_spareAny rfl (.tmp 40) (.tmp 41) 74 rfl wB.heap.size 5 i0 (.int .u8 0) [.int .u8 0] 1 Tryz.underlying74 HI.out.1 HI.out.2.1 rfl HI.out.2.2.1 HI.out.2.2.2 (by decide) vC nL (L.flatMap enB) rfl HSC.out bo nb bc (b.flatMap enB) rfl ?qa HBSRC.out (bytes_one b) (by unfold maxLen; omega) (by omega) hszC ?_; (case qa => (rw [flat_enB, List.length_map, ← HNB.out]; exact (Nat.mul_one _).symm)))
  intro vD wD hsD hgD _ _
  have hbD : Below wB.heap.size wB wD := HBC.out.grown hgD hszC (fun j hj => (World.ownsRow.lt HSC.out.own j hj).1)
  have hrD : BRow wD vD (L ++ b) := by
    have h := hsD.own
    refine own_row (base := wB.heap.size) ?_
    unfold OwnB
    rw [List.length_append, ← HNL.out, ← HNB.out, List.flatMap_append]
    exact h
  have HRD := Lib.hid hrD
  have HBD := Lib.hid (below_then HBB.out (Nat.le_refl _) hbD)
  have HLB := Lib.hid (show (L ++ b).length ≤ 100000000 from by rw [List.length_append, ← HNL.out, ← HNB.out]; omega)
  clear hsD hgD hbD hrD HBSRC HSC HBC
  go_wp2_with fail
  refine (new_any vD (L ++ b) wD HRD.out HLB.out).mono ?_
  rintro e wE ⟨rfl, hrE, hbE⟩
  obtain ⟨r, hr⟩ : ∃ k, k = wD.heap.size := ⟨_, rfl⟩
  rw [← hr] at hrE ⊢
  have HRE := Lib.hid hrE
  have HBE := Lib.hid (below_then HBD.out (Nat.le_refl _) hbE)
  have hr4 : w4.heap.size ≤ r := by rw [hr]; exact HBD.out.size
  have hrE2 : r < wE.heap.size := hrE.lt
  clear hrE hbE hr HRD HBD HBB hszC
  go_wp2_with fail
  refine (cloneB_any _ b wE (HBV.out.below (below_then HB4.out (Nat.le_refl _) HBE.out)) (by rw [← HNB.out]; omega)).mono ?_
  rintro e wF ⟨vF, rfl, hsF, hbF⟩
  have HRF := Lib.hid (own_row (spB_own hsF))
  have HVF := Lib.hid (show ∀ ad n c, vF = .slice (some ad) n c → ad.block ≠ r from fun ad n c e => by
    have h := (World.ownsRow.lt (spB_own hsF) ad.block (by rw [e]; rfl)).1
    omega)
  have HBF := Lib.hid hbF
  have HRr := Lib.hid (HRE.out.below hbF)
  clear hsF hbF
  go_wp2_with fail
  refine (new_any vF b wF HRF.out (by rw [← HNB.out]; omega)).mono ?_
  rintro e WS ⟨rfl, hrS, hbS⟩
  obtain ⟨rs, hrs⟩ : ∃ k, k = wF.heap.size := ⟨_, rfl⟩
  rw [← hrs] at hrS ⊢
  have HRS := Lib.hid hrS
  have HRR := Lib.hid (HRr.out.below hbS)
  have HBS := Lib.hid (below_then HBE.out (Nat.le_refl _) (below_then HBF.out (Nat.le_refl _) hbS))
  have hrrs : r < rs := by rw [hrs]; exact Nat.lt_of_lt_of_le hrE2 HBF.out.size
  clear hrS hbS hrs HRr HRE HBE HBF HRF
  have HBW := Lib.hid (show ∀ W, WS.grownBy W (some r) → Below w4.heap.size w4 W from fun W hg => HBS.out.grown hg HBS.out.size (fun j hj => by cases hj; exact hr4))
  have HBV2 := Lib.hid (show ∀ W, WS.grownBy W (some r) → Below w.heap.size w W from fun W hg => below_then HB4.out (Nat.le_refl _) (HBW.out W hg))
  have hrw : w.heap.size ≤ r := Nat.le_trans HB4.out.size hr4
  have HGT := Lib.hid (show ∀ W, Rdr W r vD (L ++ b) (0, 0) → WS.grownBy W (some r) → Calls Tryz.prog 31 #[pR r] W (GetP r vD (L ++ b) (x, ((nL, (0 : Int)) : S)) W) from fun W hr hg => by
    have h := stget_any r vD (L ++ b) W w hr (fun c hc => (List.mem_append.1 hc).elim (HL8.out c) (HB8.out c)) HT.out (HBV2.out W hg) hrw
    rw [HGB.out b, ← HNL.out] at h
    exact h)
  have HWYR := Lib.hid (show ∀ W, Rdr W r vD (L ++ b) (nL, 0) → Calls Tryz.prog 32 #[pR r] W fun e w' => e = .returned (.int .i64 0) ∧ W = w' from fun W hr => why_any r vD (L ++ b) (nL, 0) W hr)
  have HATR := Lib.hid (show ∀ W, Rdr W r vD (L ++ b) (nL, 0) → Calls Tryz.prog 33 #[pR r] W fun e w' => e = .returned (.int .i64 (nL : Nat)) ∧ W = w' from fun W hr => at_any r vD (L ++ b) (nL, 0) W hr)
  have HMM := Lib.hid (show ∀ W, WS.grownBy W (some r) → IsC x (.agg #[.slice m1 i1 j1, .slice m2 i2 j2, .slice m3 i3 j3]) W from fun W hg => HM4.out.below (HBW.out W hg))
  have HCC := Lib.hid (show ∀ W, WS.grownBy W (some r) → C3 W k5 (.slice m1 i1 j1) (.slice m2 i2 j2) (.slice m3 i3 j3) from fun W hg => HC4.out.below (HBW.out W hg))
  have hcm : ∀ wa wb : World, (fun W => WS.grownBy W (some r)) wa → Below wa.heap.size wa wb → (fun W => WS.grownBy W (some r)) wb := fun wa wb h hb => h.andThen (below_grown (row := some r) hb) (fun j hj => Or.inr hj)
  have hpr : ∀ (j : Nat) (wa wb : World), (j = 1 → (fun W => Rdr W r vD (L ++ b) (0, 0)) wa) → Below wa.heap.size wa wb → (j = 1 → (fun W => Rdr W r vD (L ++ b) (0, 0)) wb) := fun j wa wb h hb e => (h e).below hb
  go_upto_region 11 with fail
  refine RegLin.wp_region_lin (RegLin.useL []) (fun W => WS.grownBy W (some r)) (fun j W => j = 1 → (fun W => Rdr W r vD (L ++ b) (0, 0)) W) 16 [false, false, false, false, false, false, false, false, false, false, false, false, false, false, false, false, false, false, false, false, false, false, false, false, false, false, false, false, false, false, false, false, false, false, false, false, false, false, false, false, false, false, false, false, false, false, false, false, false, false, false, false, false, true, true, true, true, true, true, true, true, true, true, true, true, true, true, true, true, false, false, false, false, false, false, false, false, false, false, false, false, false, false, false, false, false, false, false, false, false, false, false, false, false, false, false, false, false, false, false]
    [sLit (pR r),
    sOne (fun v1 W => IsC x v1 W ∧ Rdr W r vD (L ++ b) (nL, 0)) (fun _ _ _ h hb => ⟨h.1.below hb, h.2.below hb⟩),
    sLit (.agg #[.slice m1 i1 j1, .slice m2 i2 j2, .slice m3 i3 j3]),
    sLit (.bool true),
    sLit (.bool false),
    sLit (.bool false),
    sLit (pR r),
    sLit (.int .i64 0),
    sLit (.bool false),
    sLit (.bool false),
    sLit (.bool false),
    sLit (pR r),
    sLit (.int .i64 (nL : Nat)),
    sLit (.slice (some ⟨og, 0, none⟩) nL oc),
    sLit (.int .i64 (nL : Nat)),
    sLit (.bool false)] (below_grown (Below.refl _ _).drew) (fun j _ _ => HRR.out.below (Below.refl _ _).drew) (by kernel_rfl) (by kernel_rfl) (by kernel_rfl) (by kernel_rfl) (fun F hF => ?_)
  simp only [over, overL, Nat.reduceAdd] at hF
  obtain rfl := funext hF
  clear hF
  refine ⟨⟨?_, ?_, ?_, ?_, ?_, ?_, ?_, ?_, ?_, ?_, ?_, ?_, ?_, ?_, ?_, ?_, trivial⟩, ?_⟩
  · intro V W hc hp hd K hK _
    clear hd
    go_wp2_with fail
    refine hK _ _ ?_ ?_ ?_
    · rfl
    · exact RegLin.keeps_below hcm hpr hc (Below.refl _ _)
    · exact rfl
  · intro V W hc hp hd K hK _
    have h0 : (V 53) = pR r := hd 0 (by decide) (by kernel_rfl) (RegLin.useL_ok (by kernel_rfl))
    clear hd
    skip
    have HP := Lib.hid (hp rfl)
    have HC := Lib.hid hc
    clear hp hc
    go_wp2_with fail
    refine (HGT.out W HP.out HC.out).mono ?_
    rintro e w1 ⟨v1, rfl, hi1, hr1, hg1⟩
    go_wp2_with fail
    refine hK _ _ ?_ ?_ ?_
    · rfl
    · refine RegLin.keeps_by (HC.out.andThen hg1 (fun j hj => Or.inr hj)) (by kernel_rfl) (fun j hj hne hl h => ?_)
      match j, hj, hne, hl, h with
      | 0, _, _, _, h => exact h
      | 1, _, hne, _, _ => exact absurd rfl hne
      | 2, _, _, _, h => exact h
      | 3, _, _, hl, _ => exact Bool.noConfusion (hl.symm.trans (show RegLin.liveB _ 16 [] 1 3 = false from by kernel_rfl))
      | 4, _, _, hl, _ => exact Bool.noConfusion (hl.symm.trans (show RegLin.liveB _ 16 [] 1 4 = false from by kernel_rfl))
      | 5, _, _, hl, _ => exact Bool.noConfusion (hl.symm.trans (show RegLin.liveB _ 16 [] 1 5 = false from by kernel_rfl))
      | 6, _, _, hl, _ => exact Bool.noConfusion (hl.symm.trans (show RegLin.liveB _ 16 [] 1 6 = false from by kernel_rfl))
      | 7, _, _, hl, _ => exact Bool.noConfusion (hl.symm.trans (show RegLin.liveB _ 16 [] 1 7 = false from by kernel_rfl))
      | 8, _, _, hl, _ => exact Bool.noConfusion (hl.symm.trans (show RegLin.liveB _ 16 [] 1 8 = false from by kernel_rfl))
      | 9, _, _, hl, _ => exact Bool.noConfusion (hl.symm.trans (show RegLin.liveB _ 16 [] 1 9 = false from by kernel_rfl))
      | 10, _, _, hl, _ => exact Bool.noConfusion (hl.symm.trans (show RegLin.liveB _ 16 [] 1 10 = false from by kernel_rfl))
      | 11, _, _, hl, _ => exact Bool.noConfusion (hl.symm.trans (show RegLin.liveB _ 16 [] 1 11 = false from by kernel_rfl))
      | 12, _, _, hl, _ => exact Bool.noConfusion (hl.symm.trans (show RegLin.liveB _ 16 [] 1 12 = false from by kernel_rfl))
      | 13, _, _, hl, _ => exact Bool.noConfusion (hl.symm.trans (show RegLin.liveB _ 16 [] 1 13 = false from by kernel_rfl))
      | 14, _, _, hl, _ => exact Bool.noConfusion (hl.symm.trans (show RegLin.liveB _ 16 [] 1 14 = false from by kernel_rfl))
      | 15, _, _, hl, _ => exact Bool.noConfusion (hl.symm.trans (show RegLin.liveB _ 16 [] 1 15 = false from by kernel_rfl))
      | j + 16, hj, _, _, _ => exact absurd hj (by omega)
    · exact ⟨hi1, hr1⟩
  · intro V W hc hp hd K hK _
    clear hd
    obtain ⟨-, s0, s1, s2, -, -, -⟩ := (HCC.out W hc)
    go_wp2_with fail
    refine hK _ _ ?_ ?_ ?_
    · rfl
    · exact RegLin.keeps_below hcm hpr hc (Below.refl _ _)
    · exact rfl
  · intro V W hc hp hd K hK _
    have h1 : IsC x (V 54) W ∧ Rdr W r vD (L ++ b) (nL, 0) := hd 1 (by decide) (by kernel_rfl) (RegLin.useL_ok (by kernel_rfl))
    have h2 : (V 55) = .agg #[.slice m1 i1 j1, .slice m2 i2 j2, .slice m3 i3 j3] := hd 2 (by decide) (by kernel_rfl) (RegLin.useL_ok (by kernel_rfl))
    clear hd
    obtain ⟨hi1, -⟩ := h1
    have HI1 := Lib.hid hi1
    have HC := Lib.hid hc
    clear hp hc hi1
    go_wp2_with fail
    refine (c_is true (iff_of_true rfl rfl) HI1.out HG.out (HMM.out W HC.out) HG.out).mono ?_
    rintro e w1 ⟨rfl, hb1⟩
    go_wp2_with fail
    refine hK _ _ ?_ ?_ ?_
    · rfl
    · exact RegLin.keeps_below hcm hpr HC.out hb1
    · exact rfl
  · intro V W hc hp hd K hK _
    have h3 : (V 56) = .bool true := hd 3 (by decide) (by kernel_rfl) (RegLin.useL_ok (by kernel_rfl))
    clear hd
    go_wp2_with fail
    refine hK _ _ ?_ ?_ ?_
    · rfl
    · exact RegLin.keeps_below hcm hpr hc (Below.refl _ _)
    · exact rfl
  · intro V W hc hp hd K hK _
    have h4 : (V 57) = .bool false := hd 4 (by decide) (by kernel_rfl) (RegLin.useL_ok (by kernel_rfl))
    clear hd
    go_wp2_with fail
    refine hK _ _ ?_ ?_ ?_
    · rfl
    · exact RegLin.keeps_below hcm hpr hc (Below.refl _ _)
    · exact rfl
  · intro V W hc hp hd K hK _
    have h5 : (V 58) = .bool false := hd 5 (by decide) (by kernel_rfl) (RegLin.useL_ok (by kernel_rfl))
    clear hd
    go_wp2_with fail
    refine hK _ _ ?_ ?_ ?_
    · rfl
    · exact RegLin.keeps_below hcm hpr hc (Below.refl _ _)
    · exact rfl
  · intro V W hc hp hd K hK _
    have h1 : IsC x (V 54) W ∧ Rdr W r vD (L ++ b) (nL, 0) := hd 1 (by decide) (by kernel_rfl) (RegLin.useL_ok (by kernel_rfl))
    have h5 : (V 58) = .bool false := hd 5 (by decide) (by kernel_rfl) (RegLin.useL_ok (by kernel_rfl))
    have h6 : (V 59) = pR r := hd 6 (by decide) (by kernel_rfl) (RegLin.useL_ok (by kernel_rfl))
    clear hd
    obtain ⟨-, hr1⟩ := h1
    have HR1 := Lib.hid hr1
    have HC := Lib.hid hc
    clear hp hc hr1
    go_wp2_with fail
    refine (HWYR.out W HR1.out).mono ?_
    rintro e w1 ⟨rfl, hw⟩
    subst hw
    go_wp2_with fail
    refine hK _ _ ?_ ?_ ?_
    · rfl
    · exact RegLin.keeps_below hcm hpr HC.out (Below.refl _ _)
    · exact rfl
  · intro V W hc hp hd K hK _
    have h5 : (V 58) = .bool false := hd 5 (by decide) (by kernel_rfl) (RegLin.useL_ok (by kernel_rfl))
    have h7 : (V 60) = .int .i64 0 := hd 7 (by decide) (by kernel_rfl) (RegLin.useL_ok (by kernel_rfl))
    clear hd
    go_wp2_with fail
    refine hK _ _ ?_ ?_ ?_
    · rfl
    · exact RegLin.keeps_below hcm hpr hc (Below.refl _ _)
    · exact rfl
  · intro V W hc hp hd K hK _
    have h5 : (V 58) = .bool false := hd 5 (by decide) (by kernel_rfl) (RegLin.useL_ok (by kernel_rfl))
    have h8 : (V 61) = .bool false := hd 8 (by decide) (by kernel_rfl) (RegLin.useL_ok (by kernel_rfl))
    clear hd
    go_wp2_with fail
    refine hK _ _ ?_ ?_ ?_
    · rfl
    · exact RegLin.keeps_below hcm hpr hc (Below.refl _ _)
    · exact rfl
  · intro V W hc hp hd K hK _
    have h9 : (V 62) = .bool false := hd 9 (by decide) (by kernel_rfl) (RegLin.useL_ok (by kernel_rfl))
    clear hd
    go_wp2_with fail
    refine hK _ _ ?_ ?_ ?_
    · rfl
    · exact RegLin.keeps_below hcm hpr hc (Below.refl _ _)
    · exact rfl
  · intro V W hc hp hd K hK _
    have h10 : (V 63) = .bool false := hd 10 (by decide) (by kernel_rfl) (RegLin.useL_ok (by kernel_rfl))
    clear hd
    go_wp2_with fail
    refine hK _ _ ?_ ?_ ?_
    · rfl
    · exact RegLin.keeps_below hcm hpr hc (Below.refl _ _)
    · exact rfl
  · intro V W hc hp hd K hK _
    have h1 : IsC x (V 54) W ∧ Rdr W r vD (L ++ b) (nL, 0) := hd 1 (by decide) (by kernel_rfl) (RegLin.useL_ok (by kernel_rfl))
    have h10 : (V 63) = .bool false := hd 10 (by decide) (by kernel_rfl) (RegLin.useL_ok (by kernel_rfl))
    have h11 : (V 64) = pR r := hd 11 (by decide) (by kernel_rfl) (RegLin.useL_ok (by kernel_rfl))
    clear hd
    obtain ⟨-, hr1⟩ := h1
    have HR1 := Lib.hid hr1
    have HC := Lib.hid hc
    clear hp hc hr1
    go_wp2_with fail
    refine (HATR.out W HR1.out).mono ?_
    rintro e w1 ⟨rfl, hw⟩
    subst hw
    go_wp2_with fail
    refine hK _ _ ?_ ?_ ?_
    · rfl
    · exact RegLin.keeps_below hcm hpr HC.out (Below.refl _ _)
    · exact rfl
  · intro V W hc hp hd K hK _
    have h10 : (V 63) = .bool false := hd 10 (by decide) (by kernel_rfl) (RegLin.useL_ok (by kernel_rfl))
    clear hd
    go_wp2_with fail
    refine hK _ _ ?_ ?_ ?_
    · rfl
    · exact RegLin.keeps_below hcm hpr hc (Below.refl _ _)
    · exact rfl
  · intro V W hc hp hd K hK _
    have h10 : (V 63) = .bool false := hd 10 (by decide) (by kernel_rfl) (RegLin.useL_ok (by kernel_rfl))
    have h13 : (V 66) = .slice (some ⟨og, 0, none⟩) nL oc := hd 13 (by decide) (by kernel_rfl) (RegLin.useL_ok (by kernel_rfl))
    clear hd
    go_wp2_with fail
    refine hK _ _ ?_ ?_ ?_
    · rfl
    · exact RegLin.keeps_below hcm hpr hc (Below.refl _ _)
    · exact rfl
  · intro V W hc hp hd K hK _
    have h10 : (V 63) = .bool false := hd 10 (by decide) (by kernel_rfl) (RegLin.useL_ok (by kernel_rfl))
    have h12 : (V 65) = .int .i64 (nL : Nat) := hd 12 (by decide) (by kernel_rfl) (RegLin.useL_ok (by kernel_rfl))
    have h14 : (V 67) = .int .i64 (nL : Nat) := hd 14 (by decide) (by kernel_rfl) (RegLin.useL_ok (by kernel_rfl))
    clear hd
    go_wp2_with fail
    refine hK _ _ ?_ ?_ ?_
    · rfl
    · exact RegLin.keeps_below hcm hpr hc (Below.refl _ _)
    · exact rfl
  · intro V W hc hd
    have h10 : (V 63) = .bool false := hd 10 (by decide) rfl
    have h15 : (V 68) = .bool false := hd 15 (by decide) rfl
    clear hd
    simp only [List.drop_succ_cons, List.drop_zero]
    have HG5 := Lib.hid hc
    clear hc
    have HRS5 := Lib.hid (show Rdr W rs vF b (0, 0) from HRS.out.apart HG5.out (by omega) (fun _ ad n c e => HVF.out ad n c e))
    clear HRR HRS HGT HWYR HATR HMM HCC HM4 HC4 HVF
    have HBW5 := Lib.hid (HBV2.out W HG5.out)
    have hrsw : w.heap.size ≤ rs := by omega
    obtain ⟨gc, hgc⟩ : ∃ q, q = getC b := ⟨_, rfl⟩
    have HGS := Lib.hid (show Calls Tryz.prog 31 #[pR rs] W (GetP rs vF b gc W) from by rw [hgc]; exact stget_any rs vF b W w HRS5.out HB8.out HT.out HBW5.out hrsw)
    have HOK := Lib.hid (show gc.2.2 = 0 → Mut.Good gc.1 400 ∧ bytesR (allF gc.1) = b.take gc.2.1 from by rw [hgc]; exact getC_ok b)
    have HBAD := Lib.hid (show gc.2.2 ≠ 0 → gc.1 = conE from by rw [hgc]; exact getC_bad b)
    obtain ⟨c, qa, qy⟩ := gc
    simp only [] at HOK HBAD
    clear hgc HBV2 HBW HG5 HRS5
    go_wp2_with fail
    refine HGS.out.mono ?_
    rintro e w13 ⟨vc, rfl, hi13, hr13, hg13⟩
    obtain ⟨o1, n1, k1, o2, n2, k2, o3, n3, k3, rfl, hlc⟩ := hi13.form
    simp only [] at hr13 hlc
    go_upto_region 14 with fail
    obtain ⟨WE, hWE⟩ : ∃ W, W = w13.alloc (.cells #[.slice o1 n1 k1, .slice o2 n2 k2, .slice o3 n3 k3] 47) := ⟨_, rfl⟩
    obtain ⟨k9, hk9⟩ : ∃ k, k = w13.heap.size := ⟨_, rfl⟩
    rw [← hWE, ← hk9]
    have hbE : RowKit.Below w13.heap.size w13 WE := by rw [hWE]; exact (Below.refl _ _).alloc (Nat.le_refl _) _
    have HBE := Lib.hid (below_then (HBW5.out.grown hg13 HBW5.out.size (fun j hj => by cases hj; exact hrsw)) (Nat.le_refl _) hbE)
    have HC9 := Lib.hid (show C3 WE k9 (.slice o1 n1 k1) (.slice o2 n2 k2) (.slice o3 n3 k3) from by rw [hWE, hk9]; exact C3.new w13 _ _ _)
    have HIC := Lib.hid (show Lies WE (.slice o1 n1 k1) (.slice o2 n2 k2) (.slice o3 n3 k3) c from hlc.below hbE)
    have HRE := Lib.hid (show Rdr WE rs vF b (qa, qy) from hr13.below hbE)
    have HWY := Lib.hid (fun (W : World) (h : Rdr W rs vF b (qa, qy)) => why_any rs vF b (qa, qy) W h)
    have HAL := Lib.hid (fun (W : World) (h : RowKit.Below w.heap.size w W) => alive_any W (HT.out.below h))
    clear hi13 hlc hr13 hg13 hWE hk9 hbE HGS HBW5
    cases hy : ((qy : Int) != 0)
    · have hy' : qy = 0 := by simpa using hy
      subst hy'
      obtain ⟨hgood, hbytes⟩ := HOK.out rfl
      have HGD := Lib.hid hgood
      have HBY := Lib.hid hbytes
      have hqa := HRE.out.at_
      clear HOK HBAD hgood hbytes
      obtain ⟨-, z0, z1, z2, -, -, -⟩ := HC9.out
      go_wp2_with fail
      refine (HWY.out WE HRE.out).mono ?_
      rintro e w15 ⟨rfl, h1⟩
      subst h1
      go_wp2_with fail
      refine (mine_any _ _ _ c WE HIC.out).mono ?_
      rintro e w16 ⟨rfl, hb16⟩
      go_upto_region 17 with fail
      obtain ⟨WL, hWL⟩ : ∃ W, W = w16.alloc (.cells #[.slice o1 n1 k1, .slice o2 n2 k2, .slice o3 n3 k3] 75) := ⟨_, rfl⟩
      obtain ⟨k10, hk10⟩ : ∃ k, k = w16.heap.size := ⟨_, rfl⟩
      rw [← hWL, ← hk10]
      have hbL : RowKit.Below w16.heap.size w16 WL := by rw [hWL]; exact (Below.refl _ _).alloc (Nat.le_refl _) _
      have hbEL := below_then hb16 (Nat.le_refl _) hbL
      have HBL := Lib.hid (below_then HBE.out (Nat.le_refl _) hbEL)
      have HC10 := Lib.hid (show C3 WL k10 (.slice o1 n1 k1) (.slice o2 n2 k2) (.slice o3 n3 k3) from by rw [hWL, hk10]; exact C3.newR w16 _ _ _)
      have HIL := Lib.hid (show IsC c (.agg #[.slice o1 n1 k1, .slice o2 n2 k2, .slice o3 n3 k3]) WL from (HIC.out.below hbEL).is)
      have HRL := Lib.hid (HRE.out.below hbEL)
      have hqa : qa ≤ b.length := hqa
      have hqn : qa ≤ nb := by rw [HNB.out]; exact hqa
      obtain ⟨T, hT2⟩ : ∃ T, T = b.take qa := ⟨_, rfl⟩
      have HTQ := Lib.hid (show T.length = qa from by rw [hT2, List.length_take]; omega)
      have hb0 : b ≠ [] := fun e => by
        have h := HBY.out
        rw [e, List.take_nil] at h
        exact bytesR_ne _ h
      obtain ⟨bg, boff, rfl⟩ : ∃ bg boff, bo = some ⟨bg, boff, none⟩ := by
        obtain ⟨g, off, e, -, -⟩ := Lst.get HBV.out (List.length_pos_iff.2 hb0)
        exact ⟨g, off, e⟩
      have HTR := Lib.hid (show ∀ W, Below WL.heap.size WL W → BRow W (.slice (some ⟨bg, boff, none⟩) qa bc) T from fun W h => by
        rw [hT2]
        exact row_take (HBV.out.below (below_then HBL.out (Nat.le_refl _) h)) qa hqa)
      have HRPc := Lib.hid (show ∀ W v, IsC c v W → Calls Tryz.prog 27 #[v] W fun e w' => ∃ v', e = .returned v' ∧ OwnB w' W.heap.size v' T ∧ Below W.heap.size W w' from fun W v hv => by
        have h := refPut08_any hv (HGD.out.more (by omega : 400 ≤ 420)) (by omega)
        rw [HBY.out, ← hT2] at h
        exact h)
      have HAF := Lib.hid (show (allF c).length ≤ 10000 ∧ (∀ m ∈ allF c, Small m) ∧ Mut.leftOf (allF c) = c from ⟨by have := HGD.out.okc.len; have := len_allF c; omega, fun m hm => small_right (HGD.out.okc.right m (mem_allF.1 hm)), left_allF HGD.out⟩)
      have HATS := Lib.hid (fun (W : World) (h : Rdr W rs vF b (qa, 0)) => at_any rs vF b (qa, 0) W h)
      have q0 : (0 : Int) ≤ (qa : Int) := by omega
      have q1 : (qa : Int) ≤ (bc : Int) := by omega
      have q2 : qa ≤ bc := by omega
      have hq1 : qa ≤ 3000 := by omega
      clear hT2 hb0 hb16 hbL hbEL hWL hk10 z0 z1 z2 HBY
      refine wp_region_told [] 17 [false, false, false, false, false, false, false, false, false, false, false, false, false, false, false, false, false, false, false, false, false, false, false, false, false, false, false, false, false, false, false, false, false, false, false, false, false, false, false, false, false, false, false, false, false, false, false, false, false, false, false, false, false, false, false, false, false, false, false, false, false, false, false, false, false, false, false, false, false, false, false, false, false, false, false, false, false, false, false, false, false, false, false, true, true, true, true, true, true, true, true, true, true, true, true, true, true, true, true, true]
        [sLit (.agg #[.slice o1 n1 k1, .slice o2 n2 k2, .slice o3 n3 k3]),
    sLit (.agg #[.slice o1 n1 k1, .slice o2 n2 k2, .slice o3 n3 k3]),
    sOne (fun v1 W => Reads W v1 (allF c)) (fun _ _ _ h hb => h.below hb),
    sOne (fun v1 W => IsC c v1 W) (fun _ _ _ h hb => h.below hb),
    sLit (.bool true),
    sLit (.bool true),
    sLit (.agg #[.slice o1 n1 k1, .slice o2 n2 k2, .slice o3 n3 k3]),
    sOne (fun v1 W => ∃ po pc, v1 = .slice po qa pc ∧ BRow W (.slice po qa pc) T) (fun _ _ _ h hb => by obtain ⟨po, pc, e, h⟩ := h; exact ⟨po, pc, e, Lst.below h hb⟩),
    sLit (.slice (some ⟨bg, boff, none⟩) nb bc),
    sLit (pR rs),
    sLit (.int .i64 (qa : Nat)),
    sLit (.slice (some ⟨bg, boff, none⟩) qa bc),
    sLit (.bool true),
    sLit (.bool true),
    sLit (.bool true),
    sLit (.bool true),
    sLit (.bool true)] (by kernel_rfl) (by kernel_rfl) (by kernel_rfl) (fun F hF => ?_)
      simp only [over, overL, Nat.reduceAdd] at hF
      obtain rfl := funext hF
      clear hF
      refine ⟨⟨?_, ?_, ?_, ?_, ?_, ?_, ?_, ?_, ?_, ?_, ?_, ?_, ?_, ?_, ?_, ?_, ?_, trivial⟩, ?_⟩
      · intro V W hb hd K hK _
        clear hd
        obtain ⟨-, s0, s1, s2, -, -, -⟩ := (HC10.out.below hb)
        go_wp2_with fail
        refine hK _ _ ?_ ?_ ?_ ?_
        · rfl
        · exact Below.refl _ _
        · exact rfl
        · trivial
      · intro V W hb hd K hK _
        clear hd
        obtain ⟨-, s0, s1, s2, -, -, -⟩ := (HC10.out.below hb)
        go_wp2_with fail
        refine hK _ _ ?_ ?_ ?_ ?_
        · rfl
        · exact Below.refl _ _
        · exact rfl
        · trivial
      · intro V W hb hd K hK _
        have h1 : (V 84) = .agg #[.slice o1 n1 k1, .slice o2 n2 k2, .slice o3 n3 k3] := hd 1 (by kernel_rfl)
        clear hd
        have HCC := Lib.hid hb
        clear hb
        go_wp2_with fail
        refine (c_refall (HIL.out.below HCC.out) HGD.out (by omega)).mono ?_
        rintro e w1 ⟨v1, rfl, g1, g2⟩
        go_wp2_with fail
        refine hK _ _ ?_ ?_ ?_ ?_
        · rfl
        · exact g2
        · exact g1
        · trivial
      · intro V W hb hd K hK _
        have h2 : Reads W (V 85) (allF c) := hd 2 (by kernel_rfl)
        clear hd
        have HCC := Lib.hid hb
        clear hb
        have H2 := Lib.hid h2
        clear h2
        go_wp2_with fail
        refine (c_refof (HT.out.below (below_then HBL.out (Nat.le_refl _) HCC.out)) H2.out HAF.out.1 HAF.out.2.1).mono ?_
        rintro e w1 ⟨v1, rfl, g1, g2⟩
        rw [HAF.out.2.2] at g1
        go_wp2_with fail
        refine hK _ _ ?_ ?_ ?_ ?_
        · rfl
        · exact g2
        · exact g1
        · trivial
      · intro V W hb hd K hK _
        have h0 : (V 83) = .agg #[.slice o1 n1 k1, .slice o2 n2 k2, .slice o3 n3 k3] := hd 0 (by kernel_rfl)
        have h3 : IsC c (V 86) W := hd 3 (by kernel_rfl)
        clear hd
        have HCC := Lib.hid hb
        clear hb
        have H3 := Lib.hid h3
        clear h3
        go_wp2_with fail
        refine (c_refsame true (iff_of_true rfl rfl) (HIL.out.below HCC.out) HGD.out H3.out HGD.out).mono ?_
        rintro e w1 ⟨rfl, g2⟩
        go_wp2_with fail
        refine hK _ _ ?_ ?_ ?_ ?_
        · rfl
        · exact g2
        · exact rfl
        · trivial
      · intro V W hb hd K hK _
        have h4 : (V 87) = .bool true := hd 4 (by kernel_rfl)
        clear hd
        go_wp2_with fail
        refine hK _ _ ?_ ?_ ?_ ?_
        · rfl
        · exact Below.refl _ _
        · exact rfl
        · trivial
      · intro V W hb hd K hK _
        have h5 : (V 88) = .bool true := hd 5 (by kernel_rfl)
        clear hd
        obtain ⟨-, s0, s1, s2, -, -, -⟩ := (HC10.out.below hb)
        go_wp2_with fail
        refine hK _ _ ?_ ?_ ?_ ?_
        · rfl
        · exact Below.refl _ _
        · exact rfl
        · trivial
      · intro V W hb hd K hK _
        have h5 : (V 88) = .bool true := hd 5 (by kernel_rfl)
        have h6 : (V 89) = .agg #[.slice o1 n1 k1, .slice o2 n2 k2, .slice o3 n3 k3] := hd 6 (by kernel_rfl)
        clear hd
        have HCC := Lib.hid hb
        clear hb
        go_wp2_with fail
        refine (HRPc.out W _ (HIL.out.below HCC.out)).mono ?_
        rintro e w1 ⟨v1, rfl, g1, g2⟩
        have g3 := own_row g1
        obtain ⟨po, pc, rfl⟩ := g1.form
        rw [HTQ.out] at g3 ⊢
        go_wp2_with fail
        refine hK _ _ ?_ ?_ ?_ ?_
        · rfl
        · exact g2
        · exact ⟨_, _, rfl, g3⟩
        · trivial
      · intro V W hb hd K hK _
        have h5 : (V 88) = .bool true := hd 5 (by kernel_rfl)
        clear hd
        go_wp2_with fail
        refine hK _ _ ?_ ?_ ?_ ?_
        · rfl
        · exact Below.refl _ _
        · exact rfl
        · trivial
      · intro V W hb hd K hK _
        have h5 : (V 88) = .bool true := hd 5 (by kernel_rfl)
        clear hd
        go_wp2_with fail
        refine hK _ _ ?_ ?_ ?_ ?_
        · rfl
        · exact Below.refl _ _
        · exact rfl
        · trivial
      · intro V W hb hd K hK _
        have h5 : (V 88) = .bool true := hd 5 (by kernel_rfl)
        have h9 : (V 92) = pR rs := hd 9 (by kernel_rfl)
        clear hd
        have HCC := Lib.hid hb
        clear hb
        go_wp2_with fail
        refine (HATS.out W (HRL.out.below HCC.out)).mono ?_
        rintro e w1 ⟨rfl, hw⟩
        subst hw
        go_wp2_with fail
        refine hK _ _ ?_ ?_ ?_ ?_
        · rfl
        · exact Below.refl _ _
        · exact rfl
        · trivial
      · intro V W hb hd K hK _
        have h5 : (V 88) = .bool true := hd 5 (by kernel_rfl)
        have h8 : (V 91) = .slice (some ⟨bg, boff, none⟩) nb bc := hd 8 (by kernel_rfl)
        have h10 : (V 93) = .int .i64 (qa : Nat) := hd 10 (by kernel_rfl)
        clear hd
        go_wp2_with fail
        all_goals
          refine hK _ _ ?_ ?_ ?_ ?_
          · rfl
          · exact Below.refl _ _
          · first | rfl | simp
          · trivial
      · intro V W hb hd K hK _
        have h5 : (V 88) = .bool true := hd 5 (by kernel_rfl)
        have h7 : ∃ po pc, (V 90) = .slice po qa pc ∧ BRow W (.slice po qa pc) T := hd 7 (by kernel_rfl)
        have h11 : (V 94) = .slice (some ⟨bg, boff, none⟩) qa bc := hd 11 (by kernel_rfl)
        clear hd
        have HCC := Lib.hid hb
        clear hb
        obtain ⟨po, pc, e7, h7⟩ := h7
        have H7 := Lib.hid h7
        clear h7
        go_wp2_with fail
        have h := equalB_lit true po (some ⟨bg, boff, none⟩) pc bc T T W (eqB_self _) (by rw [HTQ.out]; exact H7.out) (by rw [HTQ.out]; exact HTR.out W HCC.out) (by rw [HTQ.out]; omega) (by rw [HTQ.out]; omega)
        rw [HTQ.out] at h
        refine h.mono ?_
        clear h
        rintro e w1 ⟨rfl, g2⟩
        go_wp2_with fail
        refine hK _ _ ?_ ?_ ?_ ?_
        · rfl
        · exact g2
        · exact rfl
        · trivial
      · intro V W hb hd K hK _
        have h5 : (V 88) = .bool true := hd 5 (by kernel_rfl)
        have h12 : (V 95) = .bool true := hd 12 (by kernel_rfl)
        clear hd
        go_wp2_with fail
        refine hK _ _ ?_ ?_ ?_ ?_
        · rfl
        · exact Below.refl _ _
        · exact rfl
        · trivial
      · intro V W hb hd K hK _
        have h13 : (V 96) = .bool true := hd 13 (by kernel_rfl)
        clear hd
        go_wp2_with fail
        refine hK _ _ ?_ ?_ ?_ ?_
        · rfl
        · exact Below.refl _ _
        · exact rfl
        · trivial
      · intro V W hb hd K hK _
        have h14 : (V 97) = .bool true := hd 14 (by kernel_rfl)
        clear hd
        have HCC := Lib.hid hb
        clear hb
        go_wp2_with fail
        refine (HAL.out W (below_then HBL.out (Nat.le_refl _) HCC.out)).mono ?_
        rintro e w1 ⟨rfl, g2⟩
        go_wp2_with fail
        refine hK _ _ ?_ ?_ ?_ ?_
        · rfl
        · exact g2
        · exact rfl
        · trivial
      · intro V W hb hd K hK _
        have h14 : (V 97) = .bool true := hd 14 (by kernel_rfl)
        have h15 : (V 98) = .bool true := hd 15 (by kernel_rfl)
        clear hd
        go_wp2_with fail
        refine hK _ _ ?_ ?_ ?_ ?_
        · rfl
        · exact Below.refl _ _
        · exact rfl
        · trivial
      · intro V W hb hd hap
        have h16 : (V 99) = .bool true := hd 16 (by decide)
        clear hd hap
        simp only [List.drop_succ_cons, List.drop_zero]
        have HBZ := Lib.hid (below_then HBL.out (Nat.le_refl _) hb)
        clear hb
        go_wp2_with fail
        go_ret
        exact ⟨rfl, HBZ.out⟩
    · have hy' : ¬ qy = 0 := by simpa using hy
      have hcE := HBAD.out hy'
      subst hcE
      have HGE := Lib.hid (show Mut.Good conE 0 from Mut.leftOf_good [])
      have HZE := Lib.hid (fun (W : World) => (conE_lies W).is)
      clear hy' HOK HBAD
      obtain ⟨-, z0, z1, z2, -, -, -⟩ := HC9.out
      go_wp2_with fail
      refine (HWY.out WE HRE.out).mono ?_
      rintro e w15 ⟨rfl, h1⟩
      subst h1
      go_wp2_with fail
      refine (c_is true (iff_of_true rfl rfl) HIC.out.is HGE.out (HZE.out WE) HGE.out).mono ?_
      rintro e w16 ⟨rfl, hb16⟩
      have HB16 := Lib.hid (below_then HBE.out (Nat.le_refl _) hb16)
      clear hb16
      go_wp2_with fail
      refine (HAL.out w16 HB16.out).mono ?_
      rintro e w17 ⟨rfl, hb17⟩
      have HB17 := Lib.hid (below_then HB16.out (Nat.le_refl _) hb17)
      clear hb17
      go_wp2_with fail
      go_ret
      exact ⟨rfl, HB17.out⟩
end Go.Proofs.YtemckpmedjennaaGreatDoor.Rd
