/- cenotaphlaw22.NetSays returns true for every input, and its arguments read behind the call as before. Condition: the two tables of Go's UTF-8 decoder read as the program's text lays them (tied by the card). -/
import Derived.Test.YtkdgbkhnnehedaaDoorKitLaid
import Derived.Test.YtkdgbkhnnehedaaDoorCards
import Derived.Test.YtkdgbkhnnehedaaDoorTie
import Derived.Test.YtkdgbkhnnehedaaDoorNetLaw
namespace Go.Proofs.YtkdgbkhnnehedaaDoor.netSaysDone
open Go Go.ChangeShapes Go.WideShapes Go.ChangeAt Go.RowKit Go.Deep Go.Proofs.YtkdgbkhnnehedaaDoor.Kit

theorem own : ownKnob Tryd.prog.godebug = none := by kernel_rfl
theorem laidOut : laidOutB Tryd.prog = true := by kernel_rfl

set_option maxRecDepth 100000 in
theorem lifted (os : Os) (started : os.Started) (H : Type) (enc : TypeId × Value → H) :
    ReturnsInHanded {} Tryd.checked os 4 .any (fun w args => (Rows.netSaysSpec.pre enc Tryd.prog Tryd.f4 [] false w args ∧ laidMetH Tryd.prog Rows.netSaysRow.laid w) ∧ sizedMet enc Tryd.prog Tryd.f4 (OpenSpec.ofChange Rows.netSaysSpec) false w args)
      (Rows.netSaysSpec.post enc Tryd.prog Tryd.f4 false true false false) := by
  refine law_lifted_laid (C := Tryd.checked) (tb := 4) own started (by kernel_rfl) Tryd.func4 laidOut (by kernel_rfl) rfl rfl Tryd.underlying4 ?_
    (ChangeSpec.witness_shaped (enc := enc) (C := Tryd.checked) (os := os) (X := fun w _ => laidMetH Tryd.prog Rows.netSaysRow.laid w) false (World.laidAll Tryd.prog os Rows.netSaysRow.laid) #[.int .i64 0] 8 (World.laidAll_os _ _ _)
      (World.shaped_of_ZipB (by kernel_rfl) (by kernel_rfl)) (by kernel_rfl) (by kernel_rfl) (by kernel_rfl)
      (by rw [MakeChecks.laidMetH_plain _ _ _ (by kernel_rfl)]; exact laidMet_laidAll _ (by kernel_rfl) (by kernel_rfl))) ?_
  · intro ds hd
    match ds, hd with
    | [d1], _ => rfl
  · intro W args ha0 hL
    letI : Inhabited Mut.Lim := ⟨⟨W.heap.size⟩⟩
    have hT : Mut.Tabs W := tabs_of_laid hL
    have ha : Args enc Tryd.prog W Tryd.f4.params.toList args.toList := ha0
    rw [Tryd.params4] at ha
    obtain ⟨v0, rfl, h0⟩ := args1 ha
    obtain ⟨n, rfl, _⟩ := arg_i64 Tryd.underlying3 h0
    exact NetW.netSays_any n W

theorem row_holds : Rows.NetSaysSaid :=
  OpenClaim.holds_of_wide 4 Tryd.f4 rfl rfl rfl rfl rfl rfl rfl ⟨rfl, rfl, rfl, rfl, rfl⟩ rfl rfl rfl rfl rfl (by kernel_rfl) Tryd.func4 (by kernel_rfl)
    (of_decide_eq_true (by kernel_rfl)) (by unfold Func.isWrapper; first | (rw [if_pos (by decide +kernel)]; kernel_rfl) | (rw [if_neg (by decide +kernel)]; exact ⟨rfl, rfl⟩))
    (fun os started H enc _ => lifted os started H enc)
theorem holds : Rows.NetSaysCardSaid :=
  Claim7.holds_tied_plain_at .later [] [.data, .pinned] true _ _ row_holds (fun _ h => by cases h) (by kernel_rfl) (fun _ h => by cases h) netSays_row_tie rfl ⟨rfl, rfl⟩ (by kernel_rfl) rfl
    (fun f fn hf hfn => by
      obtain rfl : f = 4 := Option.some.inj ((show Tryd.prog.funcNamed "cenotaph/cenotaphlaw22.NetSays" = some 4 by kernel_rfl).symm.trans hf) |>.symm
      obtain rfl : fn = Tryd.f4 := (Option.some.inj (Tryd.func4.symm.trans hfn)).symm
      exact ⟨by kernel_rfl, fun j t ht => by
        have hm : t ∈ Tryd.f4.params.toList := by simpa using Array.mem_of_getElem? ht
        have hall : (Tryd.f4.params.toList.all fun u => !Tryd.prog.wantsStandIn u) = true := by kernel_rfl
        exact (show Tryd.prog.wantsStandIn t = false by simpa using List.all_eq_true.1 hall t hm)⟩)
    (by kernel_rfl)
#print axioms holds
end Go.Proofs.YtkdgbkhnnehedaaDoor.netSaysDone
