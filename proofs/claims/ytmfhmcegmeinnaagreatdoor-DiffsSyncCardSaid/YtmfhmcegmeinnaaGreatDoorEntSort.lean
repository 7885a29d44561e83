/- slices.SortFunc at entries, by the library's contract (layer 36). PRINTED by wip/genentsort.py. -/
import Derived.Shelf.SlSortCmp.WholeK
import Derived.Ground.SlsfProg
import Derived.Test.YtmfhmcegmeinnaaGreatDoorSortRow
import Derived.Test.YtmfhmcegmeinnaaGreatDoorMutRows
import Derived.Test.YtmfhmcegmeinnaaGreatDoorEntPlain
import Derived.Test.YtmfhmcegmeinnaaGreatDoorEntPut
set_option linter.unusedSimpArgs false
set_option linter.unusedVariables false
namespace Go.Proofs.YtmfhmcegmeinnaaGreatDoor.Diffs
open Go.RowKit Go.Shelf Go.Sort

def layEnt_ren : Go.Shelf.Ren := ⟨fun | 6 => 78 | 15 => 140 | 14 => 139 | 28 => 187 | 29 => 188 | 20 => 179 | 21 => 180 | 22 => 181 | 23 => 182 | 24 => 183 | 25 => 184 | 26 => 185 | 27 => 186 | 46 => 207 | 47 => 208 | 48 => 209 | 49 => 210 | 50 => 211 | 57 => 218 | n => n, fun | 22 => 65 | 24 => 72 | 25 => 118 | 3 => 3 | 39 => 131 | 0 => 0 | 53 => 191 | 55 => 84 | 4 => 4 | 46 => 185 | 45 => 184 | 50 => 120 | 5 => 5 | 9 => 9 | 66 => 205 | 70 => 208 | 76 => 218 | 77 => 219 | n => n, fun | n => n⟩
theorem layEnt : Go.Proofs.SlLaysF0.n6 Tryz.prog layEnt_ren := {
  mixed := by kernel_rfl
  f6 := ⟨Tryz.f78.name, by decide, Tryz.func78.trans (congrArg some (by kernel_rfl))⟩
  f14 := ⟨Tryz.f139.name, by decide, Tryz.func139.trans (congrArg some (by kernel_rfl))⟩
  f15 := Tryz.func140.trans (congrArg some (by kernel_rfl))
  f20 := ⟨Tryz.f179.name, by decide, Tryz.func179.trans (congrArg some (by kernel_rfl))⟩
  f21 := ⟨Tryz.f180.name, by decide, Tryz.func180.trans (congrArg some (by kernel_rfl))⟩
  f22 := ⟨Tryz.f181.name, by decide, Tryz.func181.trans (congrArg some (by kernel_rfl))⟩
  f23 := ⟨Tryz.f182.name, by decide, Tryz.func182.trans (congrArg some (by kernel_rfl))⟩
  f24 := ⟨Tryz.f183.name, by decide, Tryz.func183.trans (congrArg some (by kernel_rfl))⟩
  f25 := ⟨Tryz.f184.name, by decide, Tryz.func184.trans (congrArg some (by kernel_rfl))⟩
  f26 := ⟨Tryz.f185.name, by decide, Tryz.func185.trans (congrArg some (by kernel_rfl))⟩
  f27 := ⟨Tryz.f186.name, by decide, Tryz.func186.trans (congrArg some (by kernel_rfl))⟩
  f28 := Tryz.func187.trans (congrArg some (by kernel_rfl))
  f29 := Tryz.func188.trans (congrArg some (by kernel_rfl))
  f46 := ⟨Tryz.f207.name, by decide, Tryz.func207.trans (congrArg some (by kernel_rfl))⟩
  f47 := Tryz.func208.trans (congrArg some (by kernel_rfl))
  f48 := Tryz.func209.trans (congrArg some (by kernel_rfl))
  f49 := ⟨Tryz.f210.name, by decide, Tryz.func210.trans (congrArg some (by kernel_rfl))⟩
  f50 := ⟨Tryz.f211.name, by decide, Tryz.func211.trans (congrArg some (by kernel_rfl))⟩
  f57 := ⟨Tryz.f218.name, by decide, Tryz.func218.trans (congrArg some (by kernel_rfl))⟩
  t0 := Tryz.underlying0
  a0 := Tryz.isAgg0
  z0 := Tryz.sizeOf0
  v0 := Tryz.zeroValue0
  t3 := Tryz.underlying3
  a3 := Tryz.isAgg3
  z3 := Tryz.sizeOf3
  v3 := Tryz.zeroValue3
  t4 := Tryz.underlying4
  a4 := Tryz.isAgg4
  z4 := Tryz.sizeOf4
  v4 := Tryz.zeroValue4
  t5 := Tryz.underlying5
  a5 := Tryz.isAgg5
  z5 := Tryz.sizeOf5
  v5 := Tryz.zeroValue5
  t9 := Tryz.underlying9
  a9 := Tryz.isAgg9
  z9 := Tryz.sizeOf9
  v9 := Tryz.zeroValue9
  t22 := Tryz.underlying65
  a22 := Tryz.isAgg65
  z22 := Tryz.sizeOf65
  v22 := Tryz.zeroValue65
  t25 := Tryz.underlying118
  a25 := Tryz.isAgg118
  z25 := Tryz.sizeOf118
  v25 := Tryz.zeroValue118
  t39 := Tryz.underlying131
  a39 := Tryz.isAgg131
  z39 := Tryz.sizeOf131
  v39 := Tryz.zeroValue131
  t45 := Tryz.underlying184
  a45 := Tryz.isAgg184
  z45 := Tryz.sizeOf184
  v45 := Tryz.zeroValue184
  t46 := Tryz.underlying185
  a46 := Tryz.isAgg185
  z46 := Tryz.sizeOf185
  v46 := Tryz.zeroValue185
  t50 := Tryz.underlying120
  a50 := Tryz.isAgg120
  z50 := Tryz.sizeOf120
  v50 := Tryz.zeroValue120
  t53 := Tryz.underlying191
  a53 := Tryz.isAgg191
  z53 := Tryz.sizeOf191
  v53 := Tryz.zeroValue191
  t55 := Tryz.underlying84
  a55 := Tryz.isAgg84
  z55 := Tryz.sizeOf84
  v55 := Tryz.zeroValue84
  t66 := Tryz.underlying205
  a66 := Tryz.isAgg205
  z66 := Tryz.sizeOf205
  v66 := Tryz.zeroValue205
  t70 := Tryz.underlying208
  a70 := Tryz.isAgg208
  z70 := Tryz.sizeOf208
  v70 := Tryz.zeroValue208
  t76 := Tryz.underlying218
  a76 := Tryz.isAgg218
  z76 := Tryz.sizeOf218
  v76 := Tryz.zeroValue218
  t77 := Tryz.underlying219
  a77 := Tryz.isAgg219
  z77 := Tryz.sizeOf219
  v77 := Tryz.zeroValue219 }

theorem orL_eq : ∀ l : List Int, Cmp.orL l = Ord.orL l
  | [] => rfl
  | x :: l => by unfold Cmp.orL Ord.orL; rw [orL_eq l]
theorem entC_ord (a b : Ent) : entC a b = Ord.orL [Ord.cmpS a.k b.k, Mut.stC ⟨a.p, a.l, a.h⟩ ⟨b.p, b.l, b.h⟩] := by
  unfold entC stE Cmp.stC Mut.stC
  rw [orL_eq, orL_eq]
  rfl

set_option maxHeartbeats 1000000 in
/-- As compare_any: it draws orders and makes memory, no more. -/
theorem compareL_any (a b : Ent) (w : World) :
    Calls Tryz.prog 79 #[.agg #[.string a.k, .int .i64 a.p, .int .i64 a.l, .int .i64 a.h], .agg #[.string b.k, .int .i64 b.p, .int .i64 b.l, .int .i64 b.h]] w fun e w' => e = .returned (.int .i64 (entC a b)) ∧ Lays w w' := by
  rw [entC_ord]
  have HS := Lib.hid (fun w => Mut.stamp_any ⟨a.p, a.l, a.h⟩ ⟨b.p, b.l, b.h⟩ w)
  obtain ⟨c2, hc2⟩ : ∃ c, c = Mut.stC ⟨a.p, a.l, a.h⟩ ⟨b.p, b.l, b.h⟩ := ⟨_, rfl⟩
  obtain ⟨c1, hc1⟩ : ∃ c, c = Ord.cmpS a.k b.k := ⟨_, rfl⟩
  rw [← hc2] at HS ⊢
  have HC := Lib.hid (fun w => Mut.cmpS_any a.k b.k w)
  rw [← hc1] at HC ⊢
  clear hc1 hc2
  unfold Mut.vS at HS
  simp only [] at HS
  go_enter Tryz.func79, Tryz.ntmps79
  go_wp2_with fail
  obtain ⟨W, hW⟩ : ∃ W, W = ((w.alloc (.cells #[.string a.k, .int .i64 a.p, .int .i64 a.l, .int .i64 a.h] 72)).alloc (.cells #[.string b.k, .int .i64 b.p, .int .i64 b.l, .int .i64 b.h] 72)) := ⟨_, rfl⟩
  have hl0 : Lays w W := by rw [hW]; exact ((Lays.refl _).alloc _).alloc _
  have a0 : W.cell? ⟨w.heap.size, 0, none⟩ = some (.string a.k) := by rw [hW]; go_simp
  have a1 : W.cell? ⟨w.heap.size, 1, none⟩ = some (.int .i64 a.p) := by rw [hW]; go_simp
  have a2 : W.cell? ⟨w.heap.size, 2, none⟩ = some (.int .i64 a.l) := by rw [hW]; go_simp
  have a3 : W.cell? ⟨w.heap.size, 3, none⟩ = some (.int .i64 a.h) := by rw [hW]; go_simp
  have b0 : W.cell? ⟨w.heap.size + 1, 0, none⟩ = some (.string b.k) := by rw [hW]; go_simp
  have b1 : W.cell? ⟨w.heap.size + 1, 1, none⟩ = some (.int .i64 b.p) := by rw [hW]; go_simp
  have b2 : W.cell? ⟨w.heap.size + 1, 2, none⟩ = some (.int .i64 b.l) := by rw [hW]; go_simp
  have b3 : W.cell? ⟨w.heap.size + 1, 3, none⟩ = some (.int .i64 b.h) := by rw [hW]; go_simp
  have hsz : w.heap.size + 1 < W.heap.size := by rw [hW]; simp
  rw [← hW]
  have HL := Lib.hid hl0
  clear hW hl0
  obtain ⟨g, hg⟩ : ∃ g, g = w.heap.size := ⟨_, rfl⟩
  rw [← hg] at a0 a1 a2 a3 b0 b1 b2 b3 hsz ⊢
  have hs1 : g < W.heap.size := by omega
  clear hg
  refine wp_region_lays_tail 10 (by kernel_rfl) (by kernel_rfl) ?_
  simp only [List.take_succ_cons, List.take_zero, List.drop_succ_cons, List.drop_zero]
  repeat (go_big_quiet_step (first | (go_at_call 142; exact laid_same (HC.out _)) | (go_at_call 143; exact laid (HS.out _))))
  refine wpQuiet_nil ?_
  rintro _ ⟨y, rfl⟩
  go_wp2_with fail
  refine (Mut.or_any y.at.heap.size 0 2 [c1, c2] _ (Mut.ints_new _ _ [c1, c2]) (by simp)).mono ?_
  rintro e w2 ⟨rfl, rfl⟩
  go_wp2_with fail
  go_ret
  exact ⟨rfl, (HL.out.trans y.lays).alloc _⟩

theorem entO : SWO (ltOf entC) where
  irrefl x := by
    show decide (entC x x < 0) = false
    rw [entC_self]; rfl
  trans x y z h1 h2 := by
    unfold ltOf at *
    simp only [decide_eq_true_eq] at *
    exact entC_trans h1 h2
  ntrans x y z h1 h2 := by
    unfold ltOf at *
    simp only [decide_eq_false_iff_not] at *
    intro h3
    have e1 : ∀ a b : Ent, ¬ entC a b < 0 → entC b a < 0 ∨ a = b := fun a b h => by
      rcases Int.lt_trichotomy (entC a b) 0 with g | g | g
      · exact absurd g h
      · exact Or.inr ((entC_zero a b).1 g)
      · exact Or.inl ((entC_gt a b).1 g)
    rcases e1 x y h1 with g1 | rfl
    · exact h2 (entC_trans g1 h3)
    · exact h2 h3
instance sortInh : Inhabited Ent := ⟨⟨ByteArray.empty, 0, 0, 0⟩⟩
def SortP (base : Nat) (w : World) (v : Value) (R : List Ent) (e : Ending) (w' : World) : Prop :=
  e = .returned (.tuple #[]) ∧ ∃ R' : List Ent, R'.Perm R ∧ R'.Pairwise (fun a b => entC a b ≤ 0) ∧ w'.ownsRow base 72 4 v R'.length (R'.flatMap enE) ∧ w.grownBy w' v.ownBlock
theorem compare_enters : ∀ args w, (callFunc 79 args).run Tryz.prog w = .ok (.enter 79 args) w := enters_of Tryz.func79 (by kernel_rfl) rfl
theorem sort_some (base g cap : Nat) (R : List Ent) (w : World) (hown : w.ownsRow base 72 4 (.slice (some ⟨g, 0, none⟩) R.length cap) R.length (R.flatMap enE)) (hn : R.length ≤ 1000000) :
    Calls Tryz.prog 78 #[.slice (some ⟨g, 0, none⟩) R.length cap, .func (.func 79) #[] #[]] w (SortP base w (.slice (some ⟨g, 0, none⟩) R.length cap) R) := by
  obtain ⟨-, -, cur, h4, -, -, -, -⟩ := owned_parts hown
  have hlt : g < w.heap.size := (Array.getElem?_eq_some_iff.1 h4).1
  have hC : CmpLays Tryz.prog 79 #[] enE 4 entC g 0 R.toArray.size w := fun m os dk hdk x y => compareL_any x y _
  have hcon := AnyQ.slices_SortFunc layEnt 4 (fun w => Tryz.isAgg72 w) (fun w => Tryz.sizeOf72 w) enE enE_len enE_one entC entO 79 #[] g 0 cap R.toArray w compare_enters hC (holds_owned enE_len hown) hlt (by simp; omega)
  have e0 : R.toArray.size = R.length := by simp
  rw [e0] at hcon
  refine hcon.mono ?_
  rintro e w' ⟨rfl, d', n, os, hp, hs, rfl⟩
  have hds : d'.size = R.length := by have := hp.1; simpa using this
  have hq := owned_put (cap := cap) enE_len hown d' hds n os
  refine ⟨rfl, d'.toList, ?_, ?_, ?_, hq.2⟩
  · have h := hp.2.2
    have x1 : (d'.extract 0 R.length).toList = d'.toList := by rw [← hds]; simp
    have x2 : (R.toArray.extract 0 R.length).toList = R := by simp
    rw [x1, x2] at h
    exact h
  · rw [List.pairwise_iff_getElem]
    intro i j hi hj hij
    have h := hs i j (Nat.zero_le _) hij (by simpa [hds] using hj)
    rw [getElem!_pos d' i (by simpa using hi), getElem!_pos d' j (by simpa using hj)] at h
    unfold ltOf at h
    simp only [decide_eq_false_iff_not] at h
    show entC d'.toList[i] d'.toList[j] ≤ 0
    simp only [Array.getElem_toList]
    rcases Int.lt_trichotomy (entC d'[i] d'[j]) 0 with g1 | g1 | g1
    · omega
    · omega
    · exact absurd ((entC_gt _ _).1 g1) h
  · have := hq.1
    rw [show d'.toList.length = R.length by simp [hds]]
    exact this
end Go.Proofs.YtmfhmcegmeinnaaGreatDoor.Diffs
