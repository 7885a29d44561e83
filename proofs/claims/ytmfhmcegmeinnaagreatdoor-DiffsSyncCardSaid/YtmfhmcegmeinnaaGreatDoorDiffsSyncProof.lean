/- cenotaphlaw36.DiffsSync returns true for every input, and its arguments read behind the call as before. Condition: the two tables of Go's UTF-8 decoder read as the program's text lays them (tied by the card). -/
import Derived.Test.YtmfhmcegmeinnaaGreatDoorKitLaid
import Derived.Test.YtmfhmcegmeinnaaGreatDoorCards
import Derived.Test.YtmfhmcegmeinnaaGreatDoorTie
import Derived.Test.YtmfhmcegmeinnaaGreatDoorKitLaid
import Derived.Test.YtmfhmcegmeinnaaGreatDoorSyncLaw
import Derived.Test.YtmfhmcegmeinnaaGreatDoorConArg
namespace Go.Proofs.YtmfhmcegmeinnaaGreatDoor.diffsSyncDone
open Go Go.ChangeShapes Go.WideShapes Go.ChangeAt Go.RowKit Go.Deep Go.Proofs.YtmfhmcegmeinnaaGreatDoor.Kit

theorem own : ownKnob Tryz.prog.godebug = none := by kernel_rfl
theorem laidOut : laidOutB Tryz.prog = true := by kernel_rfl

set_option maxRecDepth 100000 in
theorem lifted (os : Os) (started : os.Started) (H : Type) (enc : TypeId × Value → H) :
    ReturnsInHanded {} Tryz.checked os 7 .any (fun w args => (Rows.diffsSyncSpec.pre enc Tryz.prog Tryz.f7 [] false w args ∧ laidMetH Tryz.prog Rows.diffsSyncRow.laid w) ∧ sizedMet enc Tryz.prog Tryz.f7 (OpenSpec.ofChange Rows.diffsSyncSpec) false w args)
      (Rows.diffsSyncSpec.post enc Tryz.prog Tryz.f7 false true false false) := by
  refine law_lifted_laid (C := Tryz.checked) (tb := 4) own started (by kernel_rfl) Tryz.func7 laidOut (by kernel_rfl) rfl rfl Tryz.underlying4 ?_
    (ChangeSpec.witness_shaped (enc := enc) (C := Tryz.checked) (os := os) (X := fun w _ => laidMetH Tryz.prog Rows.diffsSyncRow.laid w) false (World.laidAll Tryz.prog os Rows.diffsSyncRow.laid) #[.slice none 0 0, .slice none 0 0] 8 (World.laidAll_os _ _ _)
      (World.shaped_of_ZipB (by kernel_rfl) (by kernel_rfl)) (by kernel_rfl) (by kernel_rfl) (by kernel_rfl)
      (by rw [MakeChecks.laidMetH_plain _ _ _ (by kernel_rfl)]; exact laidMet_laidAll _ (by kernel_rfl) (by kernel_rfl))) ?_
  · intro ds hd
    match ds, hd with
    | [d1, d2], _ => rfl
  · intro W args ha0 hL
    letI : Inhabited Mut.Lim := ⟨⟨W.heap.size⟩⟩
    have hT : Mut.Tabs W := tabs_of_laid hL
    have ha : Args enc Tryz.prog W Tryz.f7.params.toList args.toList := ha0
    rw [Tryz.params7] at ha
    obtain ⟨v0, v1, rfl, h0, h1⟩ := args2 ha
    obtain ⟨A, hA, zA⟩ := Mut.arg_muts h0
    obtain ⟨B, hB, zB⟩ := Mut.arg_muts h1
    exact Mut.dsync_any v0 v1 A B W hT hA (fun x hx => ⟨(zA x hx).key, (zA x hx).fin, (zA x hx).val⟩) hB (fun x hx => ⟨(zB x hx).key, (zB x hx).fin, (zB x hx).val⟩)

theorem row_holds : Rows.DiffsSyncSaid :=
  OpenClaim.holds_of_wide 7 Tryz.f7 rfl rfl rfl rfl rfl rfl rfl ⟨rfl, rfl, rfl, rfl, rfl⟩ rfl rfl rfl rfl rfl (by kernel_rfl) Tryz.func7 (by kernel_rfl)
    (of_decide_eq_true (by kernel_rfl)) (by unfold Func.isWrapper; first | (rw [if_pos (by decide +kernel)]; kernel_rfl) | (rw [if_neg (by decide +kernel)]; exact ⟨rfl, rfl⟩))
    (fun os started H enc _ => lifted os started H enc)
theorem holds : Rows.DiffsSyncCardSaid :=
  Claim7.holds_tied_plain_at .later [] [.data, .pinned] true _ false row_holds (fun _ h => by cases h) (by kernel_rfl) (fun _ h => by cases h) diffsSync_row_tie rfl ⟨rfl, rfl⟩ (by kernel_rfl) rfl
    (fun f fn hf hfn => by
      obtain rfl : f = 7 := Option.some.inj ((show Tryz.prog.funcNamed "cenotaph/cenotaphlaw36.DiffsSync" = some 7 by kernel_rfl).symm.trans hf) |>.symm
      obtain rfl : fn = Tryz.f7 := (Option.some.inj (Tryz.func7.symm.trans hfn)).symm
      exact ⟨by kernel_rfl, fun j t ht => by
        have hm : t ∈ Tryz.f7.params.toList := by simpa using Array.mem_of_getElem? ht
        have hall : (Tryz.f7.params.toList.all fun u => !Tryz.prog.wantsStandIn u) = true := by kernel_rfl
        exact (show Tryz.prog.wantsStandIn t = false by simpa using List.all_eq_true.1 hall t hm)⟩)
    (by kernel_rfl)
#print axioms holds
end Go.Proofs.YtmfhmcegmeinnaaGreatDoor.diffsSyncDone
