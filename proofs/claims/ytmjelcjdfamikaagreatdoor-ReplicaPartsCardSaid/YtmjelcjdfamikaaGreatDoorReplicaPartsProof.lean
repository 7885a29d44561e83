/- cenotaphlaw27.ReplicaParts returns true for every input, and its arguments read behind the call as before. Condition: the two tables of Go's UTF-8 decoder read as the program's text lays them (tied by the card). -/
import Derived.Test.YtmjelcjdfamikaaGreatDoorKitLaid
import Derived.Test.YtmjelcjdfamikaaGreatDoorCards
import Derived.Test.YtmjelcjdfamikaaGreatDoorTie
import Derived.Test.YtmjelcjdfamikaaGreatDoorConArg
import Derived.Test.YtmjelcjdfamikaaGreatDoorPkF
namespace Go.Proofs.YtmjelcjdfamikaaGreatDoor.replicaPartsDone
open Go Go.ChangeShapes Go.WideShapes Go.ChangeAt Go.RowKit Go.Deep Go.Proofs.YtmjelcjdfamikaaGreatDoor.Kit

theorem own : ownKnob Tryz.prog.godebug = none := by kernel_rfl
theorem laidOut : laidOutB Tryz.prog = true := by kernel_rfl

set_option maxRecDepth 100000 in
theorem lifted (os : Os) (started : os.Started) (H : Type) (enc : TypeId × Value → H) :
    ReturnsInHanded {} Tryz.checked os 3 .any (fun w args => (Rows.replicaPartsSpec.pre enc Tryz.prog Tryz.f3 [] false w args ∧ laidMetH Tryz.prog Rows.replicaPartsRow.laid w) ∧ sizedMet enc Tryz.prog Tryz.f3 (OpenSpec.ofChange Rows.replicaPartsSpec) false w args)
      (Rows.replicaPartsSpec.post enc Tryz.prog Tryz.f3 false true false false) := by
  refine law_lifted_laid (C := Tryz.checked) (tb := 4) own started (by kernel_rfl) Tryz.func3 laidOut (by kernel_rfl) rfl rfl Tryz.underlying4 ?_
    (ChangeSpec.witness_shaped (enc := enc) (C := Tryz.checked) (os := os) (X := fun w _ => laidMetH Tryz.prog Rows.replicaPartsRow.laid w) false (World.laidAll Tryz.prog os Rows.replicaPartsRow.laid) #[.slice none 0 0, .string ByteArray.empty, .string ByteArray.empty] 8 (World.laidAll_os _ _ _)
      (World.shaped_of_ZipB (by kernel_rfl) (by kernel_rfl)) (by kernel_rfl) (by kernel_rfl) (by kernel_rfl)
      (by rw [MakeChecks.laidMetH_plain _ _ _ (by kernel_rfl)]; exact laidMet_laidAll _ (by kernel_rfl) (by kernel_rfl))) ?_
  · intro ds hd
    match ds, hd with
    | [d1, d2, d3], _ => rfl
  · intro W args ha0 hL
    letI : Inhabited Mut.Lim := ⟨⟨W.heap.size⟩⟩
    have hT : Mut.Tabs W := tabs_of_laid hL
    have ha : Args enc Tryz.prog W Tryz.f3.params.toList args.toList := ha0
    rw [Tryz.params3] at ha
    obtain ⟨v0, v1, v2, rfl, h0, h1, h2⟩ := args3 ha
    obtain ⟨A, hA, zA⟩ := Mut.arg_muts h0
    obtain ⟨fr, rfl, -⟩ := arg_string Tryz.underlying9 h1
    obtain ⟨tt, rfl, -⟩ := arg_string Tryz.underlying9 h2
    exact Rpl.parts_any v0 A fr tt W hT hA (fun x hx => ⟨(zA x hx).key, (zA x hx).fin, (zA x hx).val⟩)

theorem row_holds : Rows.ReplicaPartsSaid :=
  OpenClaim.holds_of_wide 3 Tryz.f3 rfl rfl rfl rfl rfl rfl rfl ⟨rfl, rfl, rfl, rfl, rfl⟩ rfl rfl rfl rfl rfl (by kernel_rfl) Tryz.func3 (by kernel_rfl)
    (of_decide_eq_true (by kernel_rfl)) (by unfold Func.isWrapper; first | (rw [if_pos (by decide +kernel)]; kernel_rfl) | (rw [if_neg (by decide +kernel)]; exact ⟨rfl, rfl⟩))
    (fun os started H enc _ => lifted os started H enc)
theorem holds : Rows.ReplicaPartsCardSaid :=
  Claim7.holds_tied_plain_at .later [] [.data, .pinned] true _ _ row_holds (fun _ h => by cases h) (by kernel_rfl) (fun _ h => by cases h) replicaParts_row_tie rfl ⟨rfl, rfl⟩ (by kernel_rfl) rfl
    (fun f fn hf hfn => by
      obtain rfl : f = 3 := Option.some.inj ((show Tryz.prog.funcNamed "cenotaph/cenotaphlaw27.ReplicaParts" = some 3 by kernel_rfl).symm.trans hf) |>.symm
      obtain rfl : fn = Tryz.f3 := (Option.some.inj (Tryz.func3.symm.trans hfn)).symm
      exact ⟨by kernel_rfl, fun j t ht => by
        have hm : t ∈ Tryz.f3.params.toList := by simpa using Array.mem_of_getElem? ht
        have hall : (Tryz.f3.params.toList.all fun u => !Tryz.prog.wantsStandIn u) = true := by kernel_rfl
        exact (show Tryz.prog.wantsStandIn t = false by simpa using List.all_eq_true.1 hall t hm)⟩)
    (by kernel_rfl)
#print axioms holds
end Go.Proofs.YtmjelcjdfamikaaGreatDoor.replicaPartsDone
