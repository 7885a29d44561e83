/- Layer 30 (trace): nums.Text, nums.Stamp. -/
import Derived.Test.YtljlbkichcjlfaaGreatDoorBase
import Derived.Test.YtljlbkichcjlfaaGreatDoorRegApp
import Derived.Laws.BytesString
import Derived.Laws.Cells
set_option linter.unusedSimpArgs false
set_option linter.unusedVariables false
namespace Go.Proofs.YtljlbkichcjlfaaGreatDoor.Trc
open Go.RowKit Go.Proofs.YtljlbkichcjlfaaGreatDoor.RegInv

/-- The text of these bytes. -/
def strOf (l : List Nat) : ByteArray := (l.map fun c : Nat => (c : Int)).foldl (fun r n => r.push (UInt8.ofNat n.toNat)) ByteArray.empty
theorem conv_bytes (W : World) (ad : Addr) (L : List Nat) (n cc : Nat) (hn : n = L.length) (h : ∀ j c, L[j]? = some c → W.cell? (ad.add j) = some (.int .u8 (c : Nat))) :
    (convert 81 9 (.slice (some ad) n cc)).run Tryz.prog W = .ok (.string (strOf L)) W := by
  rw [run_convert_bytes_string W _ _ 5 (some ad) n cc Tryz.underlying81 Tryz.underlying5 Tryz.underlying9]
  refine run_bytesToString W ad n cc (L.map fun c : Nat => (c : Int)) ?_
  have h1 := run_loadCells_list (P := Tryz.prog) (w := W) ad (L.map fun c : Nat => Value.int .u8 (c : Int)) (fun j v hv => by
    rw [List.getElem?_map] at hv
    obtain ⟨c, hc, rfl⟩ := Option.map_eq_some_iff.1 hv
    exact h j c hc)
  rw [List.length_map, ← hn] at h1
  rw [h1, List.map_map]
  rfl
theorem strOf_size : ∀ (l : List Nat) (b : ByteArray), ((l.map fun c : Nat => (c : Int)).foldl (fun r n => r.push (UInt8.ofNat n.toNat)) b).size = b.size + l.length
  | [], b => rfl
  | x :: l, b => by
    rw [List.map_cons, List.foldl_cons, strOf_size l, ByteArray.size_push, List.length_cons]; omega
/-- Digits, ahead of what is there. -/
def digF : Nat → Nat → List Nat → List Nat
  | 0, _, acc => acc
  | f + 1, n, acc => if n / 10 = 0 then (48 + n % 10) :: acc else digF f (n / 10) ((48 + n % 10) :: acc)
theorem digF_len : ∀ (f n : Nat) (acc : List Nat), (digF f n acc).length ≤ f + acc.length
  | 0, _, _ => by simp [digF]
  | f + 1, n, acc => by
    unfold digF
    split
    · simp; omega
    · have := digF_len f (n / 10) ((48 + n % 10) :: acc)
      simp at this ⊢; omega
def textF (n : Int) : ByteArray := strOf (digF 20 (min (max n 0) 1125899906842624).toNat [])
theorem textF_size (n : Int) : (textF n).size ≤ 20 := by
  unfold textF strOf
  rw [strOf_size]
  have := digF_len 20 (min (max n 0) 1125899906842624).toNat []
  simp at this ⊢; omega
/-- The array of digits. -/
def DigF (w : World) (g at_ : Nat) (acc : List Nat) : Prop := w.rowIs g 80 20 (fun j => .int .u8 ((if j < at_ then 0 else acc.getD (j - at_) 0 : Nat) : Int))

set_option maxRecDepth 100000 in
set_option maxHeartbeats 4000000 in
theorem text_any (n : Int) (w : World) : Calls Tryz.prog 21 #[.int .i64 n] w fun e w' => e = .returned (.string (textF n)) ∧ Below w.heap.size w w' := by
  obtain ⟨m, hm⟩ : ∃ m : Nat, (m : Int) = min (max n 0) 1125899906842624 := ⟨(min (max n 0) 1125899906842624).toNat, by omega⟩
  have hT : textF n = strOf (digF 20 m []) := by
    unfold textF
    rw [← hm, Int.toNat_natCast]
  have hmb : m ≤ 1125899906842624 := by omega
  have HT := Lib.hid hT
  rw [HT.out]
  clear hT
  go_enter Tryz.func21, Tryz.ntmps21
  go_wp2_with fail
  go_loopw [0, 4, 5] (fun nv av bv wr => ∃ (k at_ : Nat) (acc : List Nat) (b : Bool), nv = .int .i64 k ∧ av = .int .i64 at_ ∧ bv = .bool b ∧ at_ ≤ 20 ∧ acc.length + at_ = 20 ∧ Hid (DigF wr w.heap.size at_ acc) ∧ Hid (Below w.heap.size w wr) ∧ Hid (k < 10 ^ at_) ∧ k ≤ m ∧ Hid (if b then 1 ≤ at_ ∧ digF at_ k acc = digF 20 m [] else at_ < 20 ∧ acc = digF 20 m [])) (fun _ av bv _ => (intOf av).toNat)
  case atStart =>
    refine ⟨m, 20, [], true, by rw [hm], rfl, rfl, by omega, rfl, Lib.hid ?_, Lib.hid ((Below.refl _ _).alloc (Nat.le_refl _) _), Lib.hid (by omega), by omega, Lib.hid ⟨by omega, rfl⟩⟩
    refine World.rowIs_alloc w _ _ _ ?_
    intro i hi
    have hi' : i < 20 := hi
    rw [if_pos hi']
    rcases i with _|_|_|_|_|_|_|_|_|_|_|_|_|_|_|_|_|_|_|_|i <;> first | rfl | omega
  case round =>
    obtain ⟨k, at_, acc, b, rfl, rfl, rfl, hat, hal, hdig, hbl, hpw, hkm, hb⟩ := hrel
    have hgl := World.rowIs.lt hdig.out
    cases b
    · have h20 : at_ < 20 := hb.out.1
      have HB := Lib.hid (show acc = digF 20 m [] from hb.out.2)
      have hal2 : Tryz.prog.arrayLen 80 = 20 := by kernel_rfl
      have hsl : ∀ W, (Instr.sliceAt 80 (.pointer (some ⟨w.heap.size, 0, none⟩)) (some (.int .i64 at_)) none none).run Tryz.prog W = .ok (.slice (some ⟨w.heap.size, at_, none⟩) (20 - at_) (20 - at_)) W := fun W => by
        rw [run_sliceAt_array_l W 80 ⟨w.heap.size, 0, none⟩ (by kernel_rfl) .i64 at_ (by omega) (by rw [hal2]; omega)]
        rw [hal2, show Tryz.prog.elem 80 = 5 from by kernel_rfl]
        go_simp
        simp [slicedAt, show ¬ 20 = at_ by omega, Addr.add_lit]
      have hc : ∀ j c, acc[j]? = some c → wr.cell? ((⟨w.heap.size, at_, none⟩ : Addr).add j) = some (.int .u8 (c : Nat)) := fun j c hj => by
        obtain ⟨hlt, e⟩ := List.getElem?_eq_some_iff.1 hj
        rw [Addr.add_lit]
        have h := World.rowIs.cell hdig.out (i := at_ + j) (by omega)
        rw [h, if_neg (by omega), show at_ + j - at_ = j by omega, List.getD_eq_getElem?_getD, hj]; rfl
      have hcv := conv_bytes wr ⟨w.heap.size, at_, none⟩ acc (20 - at_) (20 - at_) (by omega) hc
      rw [HB.out] at hcv
      have HBL := Lib.hid hbl.out
      clear hc hb hpw hdig hbl
      go_wp2_with fail
      go_ret
      exact ⟨rfl, HBL.out⟩
    · obtain ⟨h1, h2⟩ := hb.out
      obtain ⟨a, rfl⟩ : ∃ a, at_ = a + 1 := ⟨at_ - 1, by omega⟩
      have ck := World.rowIs.cell hdig.out (i := a) (by omega)
      have fk := World.rowIs.frozen hdig.out a
      have hr : (k : Int).tmod 10 = ((k % 10 : Nat) : Int) := by simp [Int.tmod]
      have hq : (k : Int).tdiv 10 = ((k / 10 : Nat) : Int) := by simp [Int.tdiv]
      have HR2 := Lib.hid (show DigF (wr.setCell ⟨w.heap.size, a, none⟩ (.int .u8 ((48 + k % 10 : Nat) : Int))) w.heap.size a ((48 + k % 10) :: acc) from
        World.rowIs.congr (World.rowIs.set hdig.out a _) (fun j hj => by
          by_cases e : j = a
          · subst e; simp
          · by_cases h : j < a
            · rw [if_neg e, if_pos (by omega), if_pos h]
            · rw [if_neg e, if_neg (by omega), if_neg h, show j - a = (j - (a + 1)) + 1 by omega]; rfl))
      have HB2 := Lib.hid (hbl.out.setCell (p := ⟨w.heap.size, a, none⟩) (Nat.le_refl _) (.int .u8 ((48 + k % 10 : Nat) : Int)))
      have HPW := Lib.hid (show k / 10 < 10 ^ a from by
        have h := hpw.out
        rw [Nat.pow_succ] at h
        exact Nat.div_lt_of_lt_mul (by omega))
      have HST := Lib.hid h2
      have HC := Lib.hid (show (48 : Int) + (k : Int) % 10 = ((48 + k % 10 : Nat) : Int) from by omega)
      clear hdig hbl hpw hb h1 h2
      go_wp2_with fail
      go_roundw
      case rel =>
        rw [HC.out]
        refine ⟨k / 10, a, (48 + k % 10) :: acc, decide (0 < k / 10), by simp, rfl, congrArg Value.bool (decide_eq_decide.2 (by omega)), by omega, by simp; omega, HR2, HB2, HPW, by omega, Lib.hid ?_⟩
        have h := HST.out
        rw [digF] at h
        by_cases e : k / 10 = 0
        · rw [if_pos e] at h
          rw [if_neg (by simp; omega)]
          exact ⟨by omega, h⟩
        · rw [if_neg e] at h
          rw [if_pos (by simp; omega)]
          refine ⟨?_, h⟩
          rcases Nat.eq_zero_or_pos a with rfl | h0
          · have := HPW.out
            simp at this
            omega
          · exact h0
      case measure => simp [intOf]
end Go.Proofs.YtljlbkichcjlfaaGreatDoor.Trc
