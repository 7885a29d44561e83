/- Layer 11 (disk): how many bytes there are, of one file at most. -/
import Derived.Test.YtihfcohebgemdaaDoorDskFiles
import Derived.Test.YtihfcohebgemdaaDoorDskShelf
set_option linter.unusedSimpArgs false
set_option linter.unusedVariables false
namespace Go.Proofs.YtihfcohebgemdaaDoor.Dsk
open Go.RowKit Go.Maps Go.Sort

def UsedP (n : Nat) (w : World) (e : Ending) (w' : World) : Prop := e = .returned (.int .i64 n) ∧ Below w.heap.size w w'
theorem entr_has {f : Option (ByteArray × Nat)} {kl : Lit} (h : Maps.has (.map (entr f)) kl = true) : ∃ s F, f = some (s, F) ∧ kl = .string s.data.toList := by
  cases f with
  | none => simp [entr, Maps.has_eq] at h
  | some p =>
    obtain ⟨s, F⟩ := p
    refine ⟨s, F, rfl, ?_⟩
    simp only [entr, Maps.has_eq, List.any_cons, List.any_nil, Bool.or_false] at h
    cases kl <;> simp [Lit.sameKey] at h
    rw [h]

set_option maxRecDepth 100000 in
set_option maxHeartbeats 1000000 in
theorem used_any (d m : Nat) (room : Int) (s : St) (f : Option (ByteArray × Nat)) (n : Nat) (w : World) (h : DkAt w d m room s) (hF : Files w m f) (hf : ∀ nm F, f = some (nm, F) → ∃ bo bc k, FAt w F (.slice bo n bc) k) (h0 : f = none → n = 0) (hn : n ≤ 1000000) :
    Calls Tryd.prog 15 #[.pointer (some ⟨d, 0, none⟩)] w (UsedP n w) := by
  unfold DkAt at h
  have c0 : w.cell? ⟨d, 0, none⟩ = some (.map (some m)) := by rw [cell_of_row w d 0 _ _ (0, 0) h]; rfl
  have HF := Lib.hid hF
  have HFA := Lib.hid hf
  have H0 := Lib.hid h0
  have HL := Lib.hid (show m < w.heap.size from hF.lt)
  clear h hF hf h0
  go_enter Tryd.func15, Tryd.ntmps15
  go_wp2_with (first
    | (at_range; refine wpList_range_own _ rfl _ 37 rfl 9 40 law Tryd.underlying37 ptrR m _ _ rfl HF.out ?_; intro w0 hrg0 hg0 hs0))
  have HB0 := Lib.hid (show Below w.heap.size w w0 from ⟨hg0.os, hg0.tape, hg0.output, hg0.size, fun i hi => hg0.block i hi (by simp)⟩)
  clear hg0
  go_frame
  go_loopw [3] (fun nv wr => ∃ (left : Lit → Bool) (cnt acc : Nat), nv = .int .i64 acc ∧ wr.ranges Tryd.prog 9 ptrR m w.heap.size (entr f).length (.map (entr f)) left cnt ∧ Hid (Below w.heap.size w wr) ∧ Hid ((acc = 0 ∧ left = Maps.has (.map (entr f)) ∧ cnt = (entr f).length) ∨ (acc = n ∧ cnt = 0))) (fun _ wr => wr.rangeLeft m w.heap.size)
  case atStart => exact ⟨_, _, 0, rfl, hrg0, HB0, Lib.hid (Or.inl ⟨rfl, rfl, rfl⟩)⟩
  case round =>
    obtain ⟨left, cnt, acc, rfl, hrg, hb, hst⟩ := hrel
    go_wp2_with (first
      | (at_next; refine wpList_next_ranges _ rfl _ rfl 9 law ptrR encStr mkP (fun key kl hk => by obtain ⟨x, hx, _⟩ := Maps.keyOf_str Tryd.underlying9 hk; exact ⟨x, hx⟩) (fun v y hv => ptrR_inv hv) m w.heap.size _ _ _ _ rfl hrg ?_ ?_))
    · intro hc0 hl0
      have ha : acc = n := by
        rcases hst.out with ⟨h1, -, h3⟩ | ⟨h1, -⟩
        · cases f with
          | none => rw [h1, H0.out rfl]
          | some p => obtain ⟨s, F⟩ := p; simp [entr] at h3; omega
        · exact h1
      subst ha
      clear hc0 hl0
      go_wp2_with fail
      go_ret
      exact ⟨rfl, hb.out⟩
    · intro x c kl y1 y2 w2 cnt2 hkey hlk hv hat hrg2 hlt hg2 hs2 hen
      rcases hst.out with ⟨rfl, h2, h3⟩ | ⟨-, h3⟩
      · rw [h2] at hlk
        obtain ⟨nm, F, rfl, rfl⟩ := entr_has hlk
        obtain ⟨bo, bc, k, hfa⟩ := HFA.out nm F rfl
        have hy : y1 = .lit (.int .u64 F) := by rw [← hat (.nil), at_one]
        subst hy
        have hm := ptrR_some hv
        have hFl : F < w.heap.size := (Array.getElem?_eq_some_iff.1 hfa).1
        have hsz := hb.out.size
        have hb2 : w2.heap[F]? = w.heap[F]? := (hg2.block F (by omega) (fun e => by injection e with e; omega)).trans (hb.out.block F hFl)
        have hfa2 : FAt w2 F (.slice bo n bc) k := hb2.trans hfa
        unfold FAt at hfa2
        have q0 : w2.cell? ⟨F, 0, none⟩ = some (.slice bo n bc) := by rw [cell_of_row w2 F 0 _ _ (0, 0) hfa2]; rfl
        have HB2 := Lib.hid (show Below w.heap.size w w2 from hb.out.grown hg2 hb.out.size (fun j hj => by cases hj; exact Nat.le_refl _))
        have hc2 : cnt2 = 0 := by simp [entr] at h3; omega
        have HR2 := Lib.hid hrg2
        have hR1 := Lib.hid hrg
        clear hfa2 hb2 hfa hg2 hs2 hkey hlk hv hat hrg2 h2 hst hrg
        rw [hm] at hen ⊢
        have HLT := Lib.hid hlt
        clear hlt hm
        go_wp2_with fail
        go_roundw
        case rel => exact ⟨_, cnt2, n, by simp, HR2.out, HB2, Lib.hid (Or.inr ⟨rfl, hc2⟩)⟩
        case measure => rw [HR2.out.left_eq, hR1.out.left_eq]; exact HLT.out
      · omega
end Go.Proofs.YtihfcohebgemdaaDoor.Dsk
