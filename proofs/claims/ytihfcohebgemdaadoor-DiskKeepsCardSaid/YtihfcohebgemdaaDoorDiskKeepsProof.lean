/- cenotaphlaw11.DiskKeeps returns true for every input, and its arguments read behind the call as before. Condition: the two tables of Go's UTF-8 decoder read as the program's text lays them (tied by the card). -/
import Derived.Test.YtihfcohebgemdaaDoorKitLaid
import Derived.Test.YtihfcohebgemdaaDoorCards
import Derived.Test.YtihfcohebgemdaaDoorTie
import Derived.Test.YtihfcohebgemdaaDoorDskLaw
import Derived.Test.YtihfcohebgemdaaDoorArgLst
namespace Go.Proofs.YtihfcohebgemdaaDoor.diskKeepsDone
open Go Go.ChangeShapes Go.WideShapes Go.ChangeAt Go.RowKit Go.Deep Go.Proofs.YtihfcohebgemdaaDoor.Kit

theorem own : ownKnob Tryd.prog.godebug = none := by kernel_rfl
theorem laidOut : laidOutB Tryd.prog = true := by kernel_rfl

set_option maxRecDepth 100000 in
theorem lifted (os : Os) (started : os.Started) (H : Type) (enc : TypeId × Value → H) :
    ReturnsInHanded {} Tryd.checked os 3 .any (fun w args => (Rows.diskKeepsSpec.pre enc Tryd.prog Tryd.f3 [] false w args ∧ laidMetH Tryd.prog Rows.diskKeepsRow.laid w) ∧ sizedMet enc Tryd.prog Tryd.f3 (OpenSpec.ofChange Rows.diskKeepsSpec) false w args)
      (Rows.diskKeepsSpec.post enc Tryd.prog Tryd.f3 false true false false) := by
  refine law_lifted_laid (C := Tryd.checked) (tb := 4) own started (by kernel_rfl) Tryd.func3 laidOut (by kernel_rfl) rfl rfl Tryd.underlying4 ?_
    (ChangeSpec.witness_shaped (enc := enc) (C := Tryd.checked) (os := os) (X := fun w _ => laidMetH Tryd.prog Rows.diskKeepsRow.laid w) false (World.laidAll Tryd.prog os Rows.diskKeepsRow.laid) #[.slice none 0 0, .slice none 0 0, .agg #[.int .i64 0, .int .i64 0]] 8 (World.laidAll_os _ _ _)
      (World.shaped_of_ZipB (by kernel_rfl) (by kernel_rfl)) (by kernel_rfl) (by kernel_rfl) (by kernel_rfl)
      (by rw [MakeChecks.laidMetH_plain _ _ _ (by kernel_rfl)]; exact laidMet_laidAll _ (by kernel_rfl) (by kernel_rfl))) ?_
  · intro ds hd
    match ds, hd with
    | [d1, d2, d3], _ => rfl
  · intro W args ha0 hL
    letI : Inhabited Mut.Lim := ⟨⟨W.heap.size⟩⟩
    have hT : Mut.Tabs W := tabs_of_laid hL
    have ha : Args enc Tryd.prog W Tryd.f3.params.toList args.toList := ha0
    rw [Tryd.params3] at ha
    obtain ⟨v0, v1, v2, rfl, h0, h1, h2⟩ := args3 ha
    have e8 : ∀ (cs : List Value), Rd enc Tryd.prog W 5 cs → ∃ c, cs = Mrk.enB c ∧ c < 256 := fun cs hr => by
      obtain ⟨n, h, hw⟩ := rd_int Tryd.underlying5 hr
      have hw2 : 0 ≤ n ∧ n < 256 := by
        simp only [Lit.wf, Bool.and_eq_true, decide_eq_true_eq] at hw
        have e1 : IntKind.u8.min = 0 := by decide
        have e2 : IntKind.u8.max = 255 := by decide
        rw [e1, e2] at hw
        omega
      obtain ⟨k, rfl⟩ := Int.eq_ofNat_of_zero_le hw2.1
      exact ⟨k, h, by omega⟩
    obtain ⟨ao, ac, A, rfl, hA, -, -⟩ := arg_lst (α := Nat) (en := Mrk.enB) (good := fun c => c < 256) Tryd.underlying22 (show Tryd.prog.cellsOf 5 = 1 by kernel_rfl) (by decide) e8 h0
    obtain ⟨bo, bc, B, rfl, hB, -, -⟩ := arg_lst (α := Nat) (en := Mrk.enB) (good := fun c => c < 256) Tryd.underlying22 (show Tryd.prog.cellsOf 5 = 1 by kernel_rfl) (by decide) e8 h1
    obtain ⟨cs, rfl, hcs⟩ := arg_agg Tryd.underlying24 h2
    obtain ⟨x0, x1, rfl, r0, r1⟩ := rd_struct2 Tryd.underlying24 (by kernel_rfl) (by kernel_rfl) hcs
    obtain ⟨after, rfl, ha1, ha2⟩ := rd_i64 Tryd.underlying3 r0
    obtain ⟨keep, rfl, hk1, hk2⟩ := rd_i64 Tryd.underlying3 r1
    exact Dsk.diskKeeps_any _ _ A B after keep W hT hA hB ⟨ha1, ha2⟩ ⟨hk1, hk2⟩

theorem row_holds : Rows.DiskKeepsSaid :=
  OpenClaim.holds_of_wide 3 Tryd.f3 rfl rfl rfl rfl rfl rfl rfl ⟨rfl, rfl, rfl, rfl, rfl⟩ rfl rfl rfl rfl rfl (by kernel_rfl) Tryd.func3 (by kernel_rfl)
    (of_decide_eq_true (by kernel_rfl)) (by unfold Func.isWrapper; first | (rw [if_pos (by decide +kernel)]; kernel_rfl) | (rw [if_neg (by decide +kernel)]; exact ⟨rfl, rfl⟩))
    (fun os started H enc _ => lifted os started H enc)
theorem holds : Rows.DiskKeepsCardSaid :=
  Claim7.holds_tied_plain_at .later [] [.data, .pinned] true _ _ row_holds (fun _ h => by cases h) (by kernel_rfl) (fun _ h => by cases h) diskKeeps_row_tie rfl ⟨rfl, rfl⟩ (by kernel_rfl) rfl
    (fun f fn hf hfn => by
      obtain rfl : f = 3 := Option.some.inj ((show Tryd.prog.funcNamed "cenotaph/cenotaphlaw11.DiskKeeps" = some 3 by kernel_rfl).symm.trans hf) |>.symm
      obtain rfl : fn = Tryd.f3 := (Option.some.inj (Tryd.func3.symm.trans hfn)).symm
      exact ⟨by kernel_rfl, fun j t ht => by
        have hm : t ∈ Tryd.f3.params.toList := by simpa using Array.mem_of_getElem? ht
        have hall : (Tryd.f3.params.toList.all fun u => !Tryd.prog.wantsStandIn u) = true := by kernel_rfl
        exact (show Tryd.prog.wantsStandIn t = false by simpa using List.all_eq_true.1 hall t hm)⟩)
    (by kernel_rfl)
#print axioms holds
end Go.Proofs.YtihfcohebgemdaaDoor.diskKeepsDone
