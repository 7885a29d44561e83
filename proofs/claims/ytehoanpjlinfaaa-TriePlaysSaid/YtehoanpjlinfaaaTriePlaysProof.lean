/- cenotaphlaw45.TriePlays returns true for every input, and its arguments read behind the call as before. No condition. -/
import Derived.Test.YtehoanpjlinfaaaKit
import Derived.Test.YtehoanpjlinfaaaTriPlay
namespace Go.Proofs.Ytehoanpjlinfaaa.triePlaysDone
open Go.ChangeShapes Go.WideShapes Go.ChangeAt Go.RowKit Go.Deep Go.Proofs.Ytehoanpjlinfaaa.Kit

theorem own : ownKnob Try.prog.godebug = none := by kernel_rfl
theorem laidOut : laidOutB Try.prog = true := by kernel_rfl

set_option maxRecDepth 100000 in
theorem lifted (os : Os) (started : os.Started) (H : Type) (enc : TypeId × Value → H) :
    ReturnsInHanded {} Try.checked os 3 .any (Rows.triePlaysSpec.pre6 enc Try.prog Try.f3 Rows.triePlaysRow.domain false) (Rows.triePlaysSpec.post enc Try.prog Try.f3 false true false false) := by
  refine law_lifted (C := Try.checked) (tb := 4) own started (by kernel_rfl) Try.func3 laidOut (by kernel_rfl) rfl rfl Try.underlying4 ?_
    (ChangeSpec.witness6 (enc := enc) (C := Try.checked) false ⟨#[], #[.slice none 0 0, .string ByteArray.empty], []⟩ 8 (by kernel_rfl) (by kernel_rfl) (by kernel_rfl) (by kernel_rfl)) ?_
  · intro ds hd
    match ds, hd with
    | [d1, d2], _ => rfl
  · intro W args ha0
    have ha : Args enc Try.prog W Try.f3.params.toList args.toList := ha0
    rw [Try.params3] at ha
    obtain ⟨v0, v1, rfl, h0, h1⟩ := args2 ha
    obtain ⟨ao, cap, l, rfl, hl, _, hg⟩ := arg_lst (α := Tri.OpX) (en := Tri.enO) (good := fun x => x.kind ≤ 9223372036854775807) Try.underlying22 (show Try.prog.cellsOf 32 = 3 by kernel_rfl) (by decide) (fun cs hr => by
      obtain ⟨u0, u1, u2, rfl, r0, r1, r2⟩ := rd_struct3 Try.underlying32 (by kernel_rfl) (by kernel_rfl) hr
      obtain ⟨a, rfl, _, ha2⟩ := rd_i64 Try.underlying3 r0
      obtain ⟨b, rfl, _, _⟩ := rd_i64 Try.underlying3 r1
      obtain ⟨c, ec, _⟩ := rd_string Try.underlying9 r2
      cases ec
      exact ⟨⟨a, b, c⟩, rfl, ha2⟩) h0
    obtain ⟨s, rfl, _⟩ := arg_string Try.underlying9 h1
    exact Tri.triePlays_any ao cap l s W hl hg

theorem holds : Rows.TriePlaysSaid :=
  OpenClaim.holds_of_wide 3 Try.f3 rfl rfl rfl rfl rfl rfl rfl ⟨rfl, rfl, rfl, rfl, rfl⟩ rfl rfl rfl rfl rfl (by kernel_rfl) Try.func3 (by kernel_rfl)
    (of_decide_eq_true (by kernel_rfl)) (by unfold Func.isWrapper; first | (rw [if_pos (by decide +kernel)]; kernel_rfl) | (rw [if_neg (by decide +kernel)]; exact ⟨rfl, rfl⟩))
    (fun os started H enc _ => lifted os started H enc)
#print axioms holds
end Go.Proofs.Ytehoanpjlinfaaa.triePlaysDone
