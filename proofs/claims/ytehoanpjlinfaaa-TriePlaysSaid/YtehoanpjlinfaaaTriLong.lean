/- The trie's walks: Longest. -/
import Derived.Test.YtehoanpjlinfaaaTriCount
import Derived.Laws.Cover4
namespace Go.Proofs.Ytehoanpjlinfaaa.Tri
open Go.RowKit

/-- Runes as a string. -/
def enc1 (r : Int) : ByteArray := Utf8.encode r
def encs (l : Tx) : ByteArray := l.foldl (fun s r => s ++ enc1 r) ByteArray.empty
theorem run_enc1 (r : Int) (W : World) : (convert 21 9 (.int .i32 r)).run Try.prog W = .ok (.string (enc1 r)) W := by
  simp only [convert, Sem.run_bind, run_underlying Try.underlying21, run_underlying Try.underlying9, Result.andThen_ok]
  rfl
theorem encs_snoc (l : Tx) (r : Int) : encs (l ++ [r]) = encs l ++ enc1 r := by unfold encs; rw [List.foldl_append]; rfl

theorem encs_size (l : Tx) : (encs l).size ≤ 4 * l.length := by
  have := foldl_size_le l ByteArray.empty
  unfold encs enc1
  simpa using this

/-- The longest text that one begins with. -/
def longD (D : Dict) : Tx → Tx → Option (Tx × Int) → Option (Tx × Int)
  | [], _, best => best
  | r :: s, ahead, best => longD (sub D r) s (ahead ++ [r]) (match D [r] with
    | some n => some (ahead ++ [r], n)
    | none => best)
theorem longD_emp : ∀ (s : Tx) {D : Dict} (ahead : Tx) (best : Option (Tx × Int)), (∀ k, D k = none) → longD D s ahead best = best
  | [], _, _, _, _ => rfl
  | r :: s, D, ahead, best, h => by
    rw [longD, h [r]]
    exact longD_emp s _ _ fun k => h (r :: k)

def long (D : Dict) (s : Tx) : Option (Tx × Int) := longD D s [] (match D [] with
  | some n => some ([], n)
  | none => none)

def LongPost (o : Option (Tx × Int)) (w : World) (e : Ending) (w' : World) : Prop :=
  e = .returned (match o with
    | some p => .tuple #[.string (encs p.1), .int .i64 p.2, .bool true]
    | none => .tuple #[.string ByteArray.empty, .int .i64 0, .bool false]) ∧ Below w.heap.size w w'

/-- What the walk holds of the best one. -/
def Best (o : Option (Tx × Int)) (sv nv bv : Value) : Prop := match o with
  | some p => sv = .string (encs p.1) ∧ nv = .int .i64 p.2 ∧ bv = .bool true
  | none => bv = .bool false
theorem below_iter2 {n : Nat} {w wr : World} (h : Below n w wr) (q : Nat) : Below n w (wr.drewN q) := below_drewN h q

set_option maxHeartbeats 8000000 in
set_option maxRecDepth 100000 in
theorem longest_any (t : Nat) (s : ByteArray) (D : Dict) (d β N : Nat) (many : Int) (σ : Store) (w : World) (H : Says w β t d N σ D many) (hN : N ≤ 99999) (hz : s.size ≤ 1000000) :
    Calls Try.prog 14 #[enP t, .string s] w (LongPost (long D (runesOf s)) w) := by
  obtain ⟨x0, hx0, hok0, hown0⟩ := H.rep.at
  have hn0 := H.at_.heap.at_ t x0 hx0
  have hc2 := hn0.c2
  have hc3 := hn0.c3
  have ht := hn0.lt
  have HH := Lib.hid H
  have hb0 : Hid (Best (match D [] with
    | some n => some ([], n)
    | none => none) (.string ByteArray.empty) (.int .i64 x0.n) (.bool x0.is)) := by
    rw [← hown0]
    unfold Node.own
    cases x0.is
    · exact rfl
    · exact ⟨rfl, rfl, rfl⟩
  clear H hx0 hok0 hown0 hn0
  go_enter Try.func14, Try.ntmps14
  go_wp2_with fail
  go_quiet (fail)
  go_wp2_with fail
  clear hc2 hc3
  go_loopw [7, 8, 9, 10, 11] (fun at_ av sv nv bv wr => ∃ (pos fuel c e : Nat) (ahead : Tx) (best : Option (Tx × Int)) (E : Dict), at_ = enP c ∧ av = .string (encs ahead) ∧ Hid (Best best sv nv bv) ∧ wr.heap[w.heap.size]? = some (.stringIter s pos) ∧ Hid (Below w.heap.size w wr) ∧
    Hid (Rep e σ c E) ∧ Hid (longD E (runesFrom s fuel pos) ahead best = long D (runesOf s)) ∧ s.size ≤ pos + fuel ∧ ahead.length ≤ pos) (fun _ _ _ _ _ wr => s.size - wr.iterPos w.heap.size)
  case atStart => exact ⟨0, s.size, t, d, [], _, D, rfl, rfl, hb0, World.iter_heap w s 0, Lib.hid (by first | exact below_drewN ((Below.refl _ _).alloc (Nat.le_refl _) _) _ | exact (below_drewN (Below.refl _ _) _).alloc (Nat.le_refl _) _), Lib.hid HH.out.rep, Lib.hid rfl, by omega, by simp⟩
  case round =>
    obtain ⟨pos, fuel, c, e, ahead, best, E, rfl, rfl, hbest, hit, hB, hR, hL, hf, hal⟩ := hrel
    have hpos0 := iter_pos hit
    by_cases hp : pos < s.size
    · have hnx : ∀ ty, (Instr.next (.pointer (some ⟨w.heap.size, 0, none⟩)) true ty).run Try.prog wr = _ := fun ty => Lib.run_next_any_at wr w.heap.size s pos ty hit hp
      have hwd := width_pos s pos hp
      obtain ⟨fuel, rfl⟩ : ∃ f', fuel = f' + 1 := ⟨fuel - 1, by omega⟩
      have hst := runesFrom_step s fuel hp
      obtain ⟨W1, hW1⟩ : ∃ W1, W1 = wr.iterAt w.heap.size s (pos + (Utf8.decode s pos).2) := ⟨_, rfl⟩
      have hit2 : W1.heap[w.heap.size]? = some (.stringIter s (pos + (Utf8.decode s pos).2)) := by rw [hW1]; exact Lib.iterAt_heap wr w.heap.size s pos _ hit
      have hB1 : Below w.heap.size w W1 := by rw [hW1]; exact Lib.below_iterAt hB.out (Nat.le_refl _) s _
      rw [← hW1] at hnx
      rw [hst] at hL
      have hlt2 : pos < pos + (Utf8.decode s pos).2 := by omega
      generalize (Utf8.decode s pos).1 = r at *
      generalize pos + (Utf8.decode s pos).2 = pos2 at *
      have HI2 := Lib.hid hit2
      have HB1 := Lib.hid hB1
      have HP0 := Lib.hid hpos0
      have HL := Lib.hid hL.out
      obtain ⟨x, hx, hok, hown⟩ := hR.out.at
      have hHW := HH.out.at_.heap.below hB1
      have hn := hHW.at_ c x hx
      have hsl : x.runes.length ≤ 100000 := by have := HH.out.slim c x hx; omega
      cases hto : x.to r with
      | none =>
        have hnr := next_out c x r β W1 hn hsl ((hok.to_none r).1 hto)
        have NR := Lib.hid hnr
        have hemp : ∀ k, E ((r : Int) :: k) = none := fun k => hR.out.none_at hx ((hok.to_none r).1 hto) k
        have HL2 := Lib.hid (show best = long D (runesOf s) by
          have h := HL.out
          rw [longD, hemp [], longD_emp (D := sub E (r : Int)) _ _ _ hemp] at h
          exact h)
        cases best with
        | none =>
          have hbe : _ = Value.bool false := hbest.out
          subst hbe
          clear hW1 hit hB hL hit2 hB1 hst hwd hpos0 hn hsl hnr hto hx hok hown hHW hemp hR HL
          go_wp2_with fail
          refine NR.out.mono ?_
          rintro en w2 ⟨rfl, rfl⟩
          go_wp2_with fail
          go_ret3
          exact ⟨by rw [← HL2.out]; rfl, HB1.out⟩
        | some p =>
          obtain ⟨rfl, rfl, rfl⟩ := hbest.out
          clear hW1 hit hB hL hit2 hB1 hst hwd hpos0 hn hsl hnr hto hx hok hown hHW hemp hR HL
          go_wp2_with fail
          refine NR.out.mono ?_
          rintro en w2 ⟨rfl, rfl⟩
          go_wp2_with fail
          go_ret3
          exact ⟨by rw [← HL2.out]; rfl, HB1.out⟩
      | some c2 =>
        obtain ⟨e, rfl, hR2⟩ := hR.out.step hx hto
        obtain ⟨y, hy, hyok, hyown⟩ := hR2.at
        have hyn := hHW.at_ c2 y hy
        have hy2 := hyn.c2
        have hy3 := hyn.c3
        have hyl := hyn.lt
        have hnr := next_in c x r c2 β W1 hn hsl hto
        have NR := Lib.hid hnr
        have HR2 := Lib.hid hR2
        have hen := encs_snoc ahead (r : Int)
        have HEN := Lib.hid hen
        have hcv := run_enc1 (r : Int)
        obtain ⟨es, hes⟩ : ∃ es, es = enc1 (r : Int) := ⟨_, rfl⟩
        have hno : ¬ (9223372036854775807 < (encs ahead).size + es.size) := by
          have h1 := encs_size ahead
          have h2 : es.size ≤ 4 := by rw [hes]; exact encode_size_le _
          omega
        rw [← hes] at hcv HEN
        clear hes
        cases hyi : y.is
        · have HL2 := Lib.hid (show longD (sub E (r : Int)) (runesFrom s fuel pos2) (ahead ++ [(r : Int)]) best = long D (runesOf s) by
            have h := HL.out
            rw [longD, show E [(r : Int)] = none from by rw [show E [(r : Int)] = sub E (r : Int) [] from rfl, ← hyown]; simp [Node.own, hyi]] at h
            exact h)
          rw [hyi] at hy3
          clear hW1 hit hB hL hit2 hB1 hst hwd hpos0 hn hsl hnr hto hx hok hown hHW hR HL hR2 hy hyok hyown hyn hyi hen
          go_wp2_with fail
          refine NR.out.mono ?_
          rintro en w2 ⟨rfl, rfl⟩
          go_wp2_with fail
          go_roundw
          case rel => exact ⟨pos2, fuel, c2, e, ahead ++ [(r : Int)], best, sub E (r : Int), rfl, by rw [HEN.out], hbest, HI2.out, HB1, HR2, HL2, by omega, by simp; omega⟩
          case measure => rw [iter_pos HI2.out, HP0.out]; omega
        · have HL2 := Lib.hid (show longD (sub E (r : Int)) (runesFrom s fuel pos2) (ahead ++ [(r : Int)]) (some (ahead ++ [(r : Int)], y.n)) = long D (runesOf s) by
            have h := HL.out
            rw [longD, show E [(r : Int)] = some y.n from by rw [show E [(r : Int)] = sub E (r : Int) [] from rfl, ← hyown]; simp [Node.own, hyi]] at h
            exact h)
          rw [hyi] at hy3
          clear hW1 hit hB hL hst hwd hpos0 hn hsl hnr hto hx hok hown hHW hR HL hR2 hy hyok hyown hyn hyi hen hit2 hB1
          go_wp2_with fail
          refine NR.out.mono ?_
          rintro en w2 ⟨rfl, rfl⟩
          go_wp2_with fail
          go_quiet (fail)
          go_wp2_with fail
          go_roundw
          case rel => exact ⟨pos2, fuel, c2, e, ahead ++ [(r : Int)], some (ahead ++ [(r : Int)], y.n), sub E (r : Int), rfl, by rw [HEN.out], Lib.hid ⟨by rw [HEN.out], rfl, rfl⟩, HI2.out, Lib.hid (below_drewN HB1.out _), HR2, HL2, by omega, by simp; omega⟩
          case measure => rw [show World.iterPos (World.drewN W1 _) w.heap.size = W1.iterPos w.heap.size from rfl, iter_pos HI2.out, HP0.out]; omega
    · have hnx : ∀ ty, (Instr.next (.pointer (some ⟨w.heap.size, 0, none⟩)) true ty).run Try.prog wr = _ := fun ty => Lib.run_next_end_at wr w.heap.size s pos ty hit hp
      rw [runesFrom_end s fuel hp] at hL
      have HL2 := Lib.hid (show best = long D (runesOf s) from hL.out)
      cases best with
      | none =>
        have hbe : _ = Value.bool false := hbest.out
        subst hbe
        clear hit hL hpos0 hR
        go_wp2_with fail
        go_ret3
        exact ⟨by rw [← HL2.out]; rfl, hB.out⟩
      | some p =>
        obtain ⟨rfl, rfl, rfl⟩ := hbest.out
        clear hit hL hpos0 hR
        go_wp2_with fail
        go_ret3
        exact ⟨by rw [← HL2.out]; rfl, hB.out⟩
end Go.Proofs.Ytehoanpjlinfaaa.Tri
