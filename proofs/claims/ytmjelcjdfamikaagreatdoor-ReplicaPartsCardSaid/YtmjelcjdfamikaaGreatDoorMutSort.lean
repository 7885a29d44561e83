/- slices.SortFunc and slices.Reverse at mutations, by the library's contracts (the layings: lay-plain.mjs's print, turned). -/
import Derived.Shelf.SlSortCmp.WholeK
import Derived.Shelf.SlicesQ.Reverse
import Derived.Ground.SlsfProg
import Derived.Ground.SlgnProg
import Derived.Test.YtmjelcjdfamikaaGreatDoorSortRow
import Derived.Test.YtmjelcjdfamikaaGreatDoorMutRows
set_option linter.unusedSimpArgs false
set_option linter.unusedVariables false
namespace Go.Proofs.YtmjelcjdfamikaaGreatDoor.Mut
open Go.RowKit Go.Shelf Go.Sort Go.Proofs.YtmjelcjdfamikaaGreatDoor.Ord
set_option linter.unusedSectionVars false
variable [Inhabited Lim]

def laySort_ren : Go.Shelf.Ren := ⟨fun | 6 => 64 | 15 => 103 | 14 => 102 | 28 => 152 | 29 => 153 | 20 => 144 | 21 => 145 | 22 => 146 | 23 => 147 | 24 => 148 | 25 => 149 | 26 => 150 | 27 => 151 | 46 => 190 | 47 => 191 | 48 => 192 | 49 => 193 | 50 => 194 | 57 => 224 | n => n, fun | 22 => 22 | 24 => 40 | 25 => 76 | 3 => 3 | 39 => 119 | 0 => 0 | 53 => 157 | 55 => 171 | 4 => 4 | 46 => 164 | 45 => 163 | 50 => 79 | 5 => 5 | 9 => 9 | 66 => 223 | 70 => 227 | 76 => 263 | 77 => 264 | n => n, fun | n => n⟩
theorem laySort : Go.Proofs.SlLaysF0.n6 Tryz.prog laySort_ren := {
  mixed := by kernel_rfl
  f6 := ⟨Tryz.f64.name, by decide, Tryz.func64.trans (congrArg some (by kernel_rfl))⟩
  f14 := ⟨Tryz.f102.name, by decide, Tryz.func102.trans (congrArg some (by kernel_rfl))⟩
  f15 := Tryz.func103.trans (congrArg some (by kernel_rfl))
  f20 := ⟨Tryz.f144.name, by decide, Tryz.func144.trans (congrArg some (by kernel_rfl))⟩
  f21 := ⟨Tryz.f145.name, by decide, Tryz.func145.trans (congrArg some (by kernel_rfl))⟩
  f22 := ⟨Tryz.f146.name, by decide, Tryz.func146.trans (congrArg some (by kernel_rfl))⟩
  f23 := ⟨Tryz.f147.name, by decide, Tryz.func147.trans (congrArg some (by kernel_rfl))⟩
  f24 := ⟨Tryz.f148.name, by decide, Tryz.func148.trans (congrArg some (by kernel_rfl))⟩
  f25 := ⟨Tryz.f149.name, by decide, Tryz.func149.trans (congrArg some (by kernel_rfl))⟩
  f26 := ⟨Tryz.f150.name, by decide, Tryz.func150.trans (congrArg some (by kernel_rfl))⟩
  f27 := ⟨Tryz.f151.name, by decide, Tryz.func151.trans (congrArg some (by kernel_rfl))⟩
  f28 := Tryz.func152.trans (congrArg some (by kernel_rfl))
  f29 := Tryz.func153.trans (congrArg some (by kernel_rfl))
  f46 := ⟨Tryz.f190.name, by decide, Tryz.func190.trans (congrArg some (by kernel_rfl))⟩
  f47 := Tryz.func191.trans (congrArg some (by kernel_rfl))
  f48 := Tryz.func192.trans (congrArg some (by kernel_rfl))
  f49 := ⟨Tryz.f193.name, by decide, Tryz.func193.trans (congrArg some (by kernel_rfl))⟩
  f50 := ⟨Tryz.f194.name, by decide, Tryz.func194.trans (congrArg some (by kernel_rfl))⟩
  f57 := ⟨Tryz.f224.name, by decide, Tryz.func224.trans (congrArg some (by kernel_rfl))⟩
  t0 := Tryz.underlying0
  a0 := Tryz.isAgg0
  z0 := Tryz.sizeOf0
  v0 := Tryz.zeroValue0
  t3 := Tryz.underlying3
  a3 := Tryz.isAgg3
  z3 := Tryz.sizeOf3
  v3 := Tryz.zeroValue3
  t4 := Tryz.underlying4
  a4 := Tryz.isAgg4
  z4 := Tryz.sizeOf4
  v4 := Tryz.zeroValue4
  t5 := Tryz.underlying5
  a5 := Tryz.isAgg5
  z5 := Tryz.sizeOf5
  v5 := Tryz.zeroValue5
  t9 := Tryz.underlying9
  a9 := Tryz.isAgg9
  z9 := Tryz.sizeOf9
  v9 := Tryz.zeroValue9
  t22 := Tryz.underlying22
  a22 := Tryz.isAgg22
  z22 := Tryz.sizeOf22
  v22 := Tryz.zeroValue22
  t25 := Tryz.underlying76
  a25 := Tryz.isAgg76
  z25 := Tryz.sizeOf76
  v25 := Tryz.zeroValue76
  t39 := Tryz.underlying119
  a39 := Tryz.isAgg119
  z39 := Tryz.sizeOf119
  v39 := Tryz.zeroValue119
  t45 := Tryz.underlying163
  a45 := Tryz.isAgg163
  z45 := Tryz.sizeOf163
  v45 := Tryz.zeroValue163
  t46 := Tryz.underlying164
  a46 := Tryz.isAgg164
  z46 := Tryz.sizeOf164
  v46 := Tryz.zeroValue164
  t50 := Tryz.underlying79
  a50 := Tryz.isAgg79
  z50 := Tryz.sizeOf79
  v50 := Tryz.zeroValue79
  t53 := Tryz.underlying157
  a53 := Tryz.isAgg157
  z53 := Tryz.sizeOf157
  v53 := Tryz.zeroValue157
  t55 := Tryz.underlying171
  a55 := Tryz.isAgg171
  z55 := Tryz.sizeOf171
  v55 := Tryz.zeroValue171
  t66 := Tryz.underlying223
  a66 := Tryz.isAgg223
  z66 := Tryz.sizeOf223
  v66 := Tryz.zeroValue223
  t70 := Tryz.underlying227
  a70 := Tryz.isAgg227
  z70 := Tryz.sizeOf227
  v70 := Tryz.zeroValue227
  t76 := Tryz.underlying263
  a76 := Tryz.isAgg263
  z76 := Tryz.sizeOf263
  v76 := Tryz.zeroValue263
  t77 := Tryz.underlying264
  a77 := Tryz.isAgg264
  z77 := Tryz.sizeOf264
  v77 := Tryz.zeroValue264 }
def layRev_ren : Go.Shelf.Ren := ⟨fun | 35 => 189 | n => n, fun | 22 => 22 | 23 => 40 | 3 => 3 | 4 => 4 | 0 => 0 | n => n, fun | n => n⟩
theorem layRev : Go.Proofs.SlLaysE0.n35 Tryz.prog layRev_ren := {
  mixed := by kernel_rfl
  f35 := ⟨Tryz.f189.name, by decide, Tryz.func189.trans (congrArg some (by kernel_rfl))⟩
  t0 := Tryz.underlying0
  a0 := Tryz.isAgg0
  z0 := Tryz.sizeOf0
  v0 := Tryz.zeroValue0
  t3 := Tryz.underlying3
  a3 := Tryz.isAgg3
  z3 := Tryz.sizeOf3
  v3 := Tryz.zeroValue3
  t4 := Tryz.underlying4
  a4 := Tryz.isAgg4
  z4 := Tryz.sizeOf4
  v4 := Tryz.zeroValue4
  t22 := Tryz.underlying22
  a22 := Tryz.isAgg22
  z22 := Tryz.sizeOf22
  v22 := Tryz.zeroValue22 }

/-- Its stamps don't lie in the block. -/
def Off (w : World) (row : Option Nat) (x : Ro) : Prop := ∀ w', w.grownBy w' row → Over w' x
theorem Off.over {w : World} {row : Option Nat} {x : Ro} (h : Off w row x) : Over w x := h w ⟨rfl, rfl, rfl, Nat.le_refl _, fun _ _ _ => rfl⟩
/-- What lay in a world ahead of the row. -/
theorem Off.old {w0 w : World} {row : Option Nat} {x : Ro} (h : Over w0 x) (hb : RowKit.Below w0.heap.size w0 w) (hr : ∀ k, row = some k → w0.heap.size ≤ k) : Off w row x := fun w' hg =>
  h.below ⟨hg.os.trans hb.os, hg.tape.trans hb.tape, hg.output.trans hb.output, Nat.le_trans hb.size hg.size, fun i hi => (hg.block i (Nat.lt_of_lt_of_le hi hb.size) (fun e => by have := hr i e.symm; omega)).trans (hb.block i hi)⟩
/-- What lies in a block of stamps. -/
theorem Off.own {w : World} {base g : Nat} {x : Ro} {cur : Array Value} (h : w.ownsRow base 37 3 x.2 x.1.over.length (x.1.over.flatMap enS)) (hg : w.heap[g]? = some (.cells cur 40 (0, 0))) : Off w (some g) x := fun w' hgr =>
  Over.own (World.ownsRow.kept h hgr (Or.inr fun e => by
    obtain ⟨h1, ⟨h2, -⟩ | ⟨g', cap', cur', h2, h3, h4, h5⟩⟩ := h
    · rw [h2] at e; cases e
    · rw [h2] at e
      have : g' = g := by injection e
      subst this
      rw [hg] at h4
      injection h4 with h4
      injection h4 with _ h4
      exact absurd h4 (by decide)))

/-- What the sort is told of a mutation of the row. -/
def Okay (w : World) (row : Option Nat) (x : Ro) : Prop := Off w row x ∧ x.1.over.length ≤ 1000000
abbrev SubR (w : World) (row : Option Nat) : Type := { x : Ro // Okay w row x }
instance (w : World) (row : Option Nat) : Inhabited (SubR w row) := ⟨⟨⟨⟨0, 0, ByteArray.empty, ByteArray.empty, ByteArray.empty, 0, ⟨0, 0, 0⟩, []⟩, .slice none 0 0⟩, fun _ _ => ⟨Lst.nil _, ZN.none _ _⟩, by simp⟩⟩
def subs {w : World} {row : Option Nat} : (R : List Ro) → (∀ x ∈ R, Okay w row x) → List (SubR w row)
  | [], _ => []
  | x :: R, h => ⟨x, h x (by simp)⟩ :: subs R (fun y hy => h y (List.mem_cons_of_mem _ hy))
theorem subs_val {w : World} {row : Option Nat} : ∀ (R : List Ro) (h : ∀ x ∈ R, Okay w row x), (subs R h).map (·.1) = R
  | [], _ => rfl
  | x :: R, h => by rw [subs, List.map_cons, subs_val R]
theorem map_flat {w : World} {row : Option Nat} (l : List (SubR w row)) : (l.flatMap fun x => enM x.1) = (l.map (·.1)).flatMap enM := by
  induction l with
  | nil => rfl
  | cons x l ih => rw [List.flatMap_cons, List.map_cons, List.flatMap_cons, ih]

theorem subO (w : World) (row : Option Nat) : SWO (ltOf fun x y : SubR w row => muC x.1.1 y.1.1) where
  irrefl x := by
    show decide (muC x.1.1 x.1.1 < 0) = false
    rw [muO.self]; rfl
  trans x y z h1 h2 := by
    unfold ltOf at *
    simp only [decide_eq_true_eq] at *
    exact muO.trans _ _ _ h1 h2
  ntrans x y z h1 h2 := by
    unfold ltOf at *
    simp only [decide_eq_false_iff_not] at *
    have h1' := muO.le_of.1 h1
    have h2' := muO.le_of.1 h2
    exact muO.le_of.2 (muO.le_le h2' h1')

def SortP (base : Nat) (w : World) (v : Value) (R : List Ro) (e : Ending) (w' : World) : Prop :=
  e = .returned (.tuple #[]) ∧ ∃ R' : List Ro, R'.Perm R ∧ R'.Pairwise (fun a b => muC a.1 b.1 ≤ 0) ∧ w'.ownsRow base 40 10 v R'.length (R'.flatMap enM) ∧ w.grownBy w' v.ownBlock

theorem compare_enters : ∀ args w, (callFunc 65 args).run Tryz.prog w = .ok (.enter 65 args) w := enters_of Tryz.func65 (by kernel_rfl) rfl

theorem sort_some (base g cap : Nat) (R : List Ro) (w : World) (hown : w.ownsRow base 40 10 (.slice (some ⟨g, 0, none⟩) R.length cap) R.length (R.flatMap enM)) (hoff : ∀ x ∈ R, Okay w (some g) x) (hn : R.length ≤ 1000000) :
    Calls Tryz.prog 64 #[.slice (some ⟨g, 0, none⟩) R.length cap, .func (.func 65) #[] #[]] w (SortP base w (.slice (some ⟨g, 0, none⟩) R.length cap) R) := by
  obtain ⟨L, hL⟩ : ∃ L : List (SubR w (some g)), L.map (·.1) = R := ⟨subs R hoff, subs_val R hoff⟩
  subst hL
  have hlen : (L.map (·.1)).length = L.length := by simp
  rw [hlen] at hown hn ⊢
  rw [← map_flat] at hown
  have hk : ∀ x : SubR w (some g), (enM x.1).length = 10 := fun _ => rfl
  have h1 : ∀ x : SubR w (some g), ∀ v ∈ enM x.1, v.oneCell' = true := fun x v hv => by
    obtain ⟨ao, c, e, -, -⟩ := x.2.1.over.form
    unfold enM at hv
    rw [e] at hv
    simp at hv
    rcases hv with rfl | rfl | rfl | rfl | rfl | rfl | rfl | rfl | rfl | rfl <;> rfl
  obtain ⟨-, -, cur, h4, -, -, -, -⟩ := owned_parts hown
  have hlt : g < w.heap.size := (Array.getElem?_eq_some_iff.1 h4).1
  have hC : CmpLays Tryz.prog 65 #[] (fun x : SubR w (some g) => enM x.1) 10 (fun x y => muC x.1.1 y.1.1) g 0 L.toArray.size w := fun m os dk hdk x y => by
    have hg := (owned_put (cap := cap) hk hown dk (by simpa using hdk) m os).2
    have := compare_any x.1 y.1 (sortWorldK (fun x : SubR w (some g) => enM x.1) 10 w g 0 m dk os) (x.2.1 _ hg) (y.2.1 _ hg) x.2.2 y.2.2
    rw [vM_eq, vM_eq] at this
    exact this
  have hcon := AnyQ.slices_SortFunc laySort 10 (fun w => Tryz.isAgg40 w) (fun w => Tryz.sizeOf40 w) (fun x : SubR w (some g) => enM x.1) hk h1 (fun x y => muC x.1.1 y.1.1) (subO w (some g)) 65 #[] g 0 cap L.toArray w compare_enters hC (holds_owned hk hown) hlt (by simp; omega)
  have e0 : L.toArray.size = L.length := by simp
  rw [e0] at hcon
  refine hcon.mono ?_
  rintro e w' ⟨rfl, d', n, os, hp, hs, rfl⟩
  have hds : d'.size = L.length := by have := hp.1; simpa using this
  have hq := owned_put (cap := cap) hk hown d' hds n os
  have hdl : d'.toList.length = L.length := by simpa using hds
  refine ⟨rfl, d'.toList.map (·.1), ?_, ?_, ?_, hq.2⟩
  · have h := hp.2.2
    have x1 : (d'.extract 0 L.length).toList = d'.toList := by rw [← hds]; simp
    have x2 : (L.toArray.extract 0 L.length).toList = L := by simp
    rw [x1, x2] at h
    exact h.map _
  · rw [List.pairwise_map, List.pairwise_iff_getElem]
    intro i j hi hj hij
    have h := hs i j (Nat.zero_le _) hij (by simpa [hds] using hj)
    rw [getElem!_pos d' i (by simpa using hi), getElem!_pos d' j (by simpa using hj)] at h
    unfold ltOf at h
    simp only [decide_eq_false_iff_not] at h
    exact muO.le_of.1 h
  · rw [← map_flat]
    have := hq.1
    rw [show (d'.toList.map (·.1)).length = L.length by simp [hds]]
    exact this

def RevP (base : Nat) (w : World) (v : Value) (R : List Ro) (e : Ending) (w' : World) : Prop :=
  e = .returned (.tuple #[]) ∧ w'.ownsRow base 40 10 v R.length (R.reverse.flatMap enM) ∧ w.grownBy w' v.ownBlock
theorem reverse_any (base : Nat) (v : Value) (R : List Ro) (w : World) (hown : w.ownsRow base 40 10 v R.length (R.flatMap enM)) (hf : ∀ x ∈ R, ∃ ao n cap, x.2 = .slice ao n cap) (hn : R.length ≤ 1000000) :
    Calls Tryz.prog 189 #[v] w (RevP base w v R) := by
  rcases hown.2 with ⟨rfl, hR⟩ | ⟨g, cap, cur, rfl, -⟩
  · obtain rfl : R = [] := List.length_eq_zero_iff.1 hR
    refine (AnyQ.slices_Reverse_empty layRev none 0 w).mono ?_
    rintro e w' ⟨rfl, rfl⟩
    exact ⟨rfl, hown, ⟨rfl, rfl, rfl, Nat.le_refl _, fun _ _ _ => rfl⟩⟩
  · let S := { x : Ro // ∃ ao n cap, x.2 = .slice ao n cap }
    haveI : Inhabited S := ⟨⟨⟨⟨0, 0, ByteArray.empty, ByteArray.empty, ByteArray.empty, 0, ⟨0, 0, 0⟩, []⟩, .slice none 0 0⟩, ⟨_, _, _, rfl⟩⟩⟩
    obtain ⟨L, hL⟩ : ∃ L : List S, L.map (·.1) = R := ⟨R.attach.map fun x => ⟨x.1, hf x.1 x.2⟩, by rw [List.map_map]; exact List.attach_map_subtype_val R⟩
    subst hL
    have mf : ∀ l : List S, (l.flatMap fun x => enM x.1) = (l.map (·.1)).flatMap enM := by
      intro l
      induction l with
      | nil => rfl
      | cons x l ih => rw [List.flatMap_cons, List.map_cons, List.flatMap_cons, ih]
    have hlen : (L.map (·.1)).length = L.length := by simp
    rw [hlen] at hown hn ⊢
    rw [← mf] at hown
    have hk : ∀ x : S, (enM x.1).length = 10 := fun _ => rfl
    have h1 : ∀ x : S, ∀ v ∈ enM x.1, v.oneCell' = true := fun x v hv => by
      obtain ⟨ao, n, c, e⟩ := x.2
      unfold enM at hv
      rw [e] at hv
      simp at hv
      rcases hv with rfl | rfl | rfl | rfl | rfl | rfl | rfl | rfl | rfl | rfl <;> rfl
    have hcon := AnyQ.slices_Reverse layRev 10 (fun w => Tryz.isAgg40 w) (fun w => Tryz.sizeOf40 w) (fun x : S => enM x.1) hk h1 g 0 cap L.toArray w (holds_owned hk hown) (by simp; omega)
    have e0 : L.toArray.size = L.length := by simp
    rw [e0] at hcon
    refine hcon.mono ?_
    rintro e w' ⟨rfl, n, rfl⟩
    have hq := owned_put (cap := cap) hk hown L.toArray.reverse (by simp) n #[]
    have e1 : sortWorldK (fun x : S => enM x.1) 10 w g 0 n L.toArray.reverse #[] = putRowK (fun x : S => enM x.1) 10 (Sort.ahead w n) g 0 L.toArray.reverse := by unfold sortWorldK; rw [grow_empty]
    rw [e1] at hq
    refine ⟨rfl, ?_, hq.2⟩
    have h := hq.1
    rw [mf] at h
    rw [show L.toArray.reverse.toList = L.reverse by simp, List.map_reverse] at h
    rw [hlen]
    exact h
end Go.Proofs.YtmjelcjdfamikaaGreatDoor.Mut
