/- The law's step, walked: a call of both. -/
import Derived.Test.YtehoanpjlinfaaaTriWith
namespace Go.Proofs.Ytehoanpjlinfaaa.Tri
open Go.RowKit

set_option maxHeartbeats 4000000 in
set_option maxRecDepth 100000 in
theorem get_any (t : Nat) (s : ByteArray) (D : Dict) (d β N : Nat) (many : Int) (σ : Store) (w : World) (H : Says w β t d N σ D many) (hN : N ≤ 99999) :
    Calls Try.prog 45 #[enP t, .string s] w fun e w' => e = .returned (.tuple #[.int .i64 ((D (runesOf s)).getD 0), .bool (D (runesOf s)).isSome]) ∧ Below w.heap.size w w' := by
  have hfind := find_any t s β N σ w H.at_.heap H.at_.root H.slim hN
  obtain ⟨hf1, hf2⟩ := H.rep.find (s := runesOf s)
  have HF := Lib.hid hfind
  have HH := Lib.hid H
  clear hfind H
  cases hfc : findF σ t (runesOf s) with
  | none =>
    rw [hfc] at HF
    have hD := Lib.hid (hf1 hfc)
    clear hf1 hf2 hfc
    go_enter Try.func45, Try.ntmps45
    go_wp2_with fail
    refine HF.out.mono ?_
    rintro en w1 ⟨rfl, hb⟩
    have HB := Lib.hid hb
    clear hb
    unfold ptr
    go_wp2_with fail
    go_ret2
    exact ⟨by rw [hD.out]; rfl, HB.out⟩
  | some c =>
    rw [hfc] at HF
    obtain ⟨x, hx, ho⟩ := hf2 c hfc
    clear hf1 hf2 hfc
    have HX := Lib.hid hx
    cases his : x.is
    · have hD := Lib.hid (show D (runesOf s) = none by rw [← ho]; simp [Node.own, his])
      have HI := Lib.hid his
      clear ho hx his
      go_enter Try.func45, Try.ntmps45
      go_wp2_with fail
      refine HF.out.mono ?_
      rintro en w1 ⟨rfl, hb⟩
      have hxn := (HH.out.at_.heap.below hb).at_ c x HX.out
      have hc3 := hxn.c3
      rw [HI.out] at hc3
      have HB := Lib.hid hb
      clear hb hxn
      unfold ptr
      go_wp2_with fail
      go_ret2
      exact ⟨by rw [hD.out]; rfl, HB.out⟩
    · have hD := Lib.hid (show D (runesOf s) = some x.n by rw [← ho]; simp [Node.own, his])
      have HI := Lib.hid his
      clear ho hx his
      go_enter Try.func45, Try.ntmps45
      go_wp2_with fail
      refine HF.out.mono ?_
      rintro en w1 ⟨rfl, hb⟩
      have hxn := (HH.out.at_.heap.below hb).at_ c x HX.out
      have hc3 := hxn.c3
      have hc2 := hxn.c2
      rw [HI.out] at hc3
      have HB := Lib.hid hb
      clear hb hxn
      unfold ptr
      go_wp2_with fail
      go_ret2
      exact ⟨by rw [hD.out]; rfl, HB.out⟩
end Go.Proofs.Ytehoanpjlinfaaa.Tri
