/- slices.SortFunc and slices.Reverse at mutations, by the library's contracts (the layings: lay-plain.mjs's print, turned). -/
import Derived.Shelf.SlSortCmp.WholeK
import Derived.Shelf.SlicesQ.Reverse
import Derived.Ground.SlsfProg
import Derived.Ground.SlgnProg
import Derived.Test.YthdbilggnjjkhaaGreatDoorSortRow
import Derived.Test.YthdbilggnjjkhaaGreatDoorMutRows
set_option linter.unusedSimpArgs false
set_option linter.unusedVariables false
namespace Go.Proofs.YthdbilggnjjkhaaGreatDoor.Mut
open Go.RowKit Go.Shelf Go.Sort Go.Proofs.YthdbilggnjjkhaaGreatDoor.Ord
set_option linter.unusedSectionVars false
variable [Inhabited Lim]

def laySort_ren : Go.Shelf.Ren := ⟨fun | 6 => 57 | 15 => 44 | 14 => 106 | 28 => 77 | 29 => 78 | 20 => 137 | 21 => 138 | 22 => 139 | 23 => 140 | 24 => 141 | 25 => 142 | 26 => 143 | 27 => 144 | 46 => 152 | 47 => 118 | 48 => 119 | 49 => 153 | 50 => 154 | 57 => 158 | n => n, fun | 22 => 32 | 24 => 81 | 25 => 104 | 3 => 3 | 39 => 96 | 0 => 0 | 53 => 120 | 55 => 122 | 4 => 4 | 46 => 112 | 45 => 111 | 50 => 117 | 5 => 5 | 9 => 9 | 66 => 143 | 70 => 147 | 76 => 168 | 77 => 169 | n => n, fun | n => n⟩
theorem laySort : Go.Proofs.SlLaysF0.n6 Tryz.prog laySort_ren := {
  mixed := by kernel_rfl
  f6 := ⟨Tryz.f57.name, by decide, Tryz.func57.trans (congrArg some (by kernel_rfl))⟩
  f14 := ⟨Tryz.f106.name, by decide, Tryz.func106.trans (congrArg some (by kernel_rfl))⟩
  f15 := Tryz.func44.trans (congrArg some (by kernel_rfl))
  f20 := ⟨Tryz.f137.name, by decide, Tryz.func137.trans (congrArg some (by kernel_rfl))⟩
  f21 := ⟨Tryz.f138.name, by decide, Tryz.func138.trans (congrArg some (by kernel_rfl))⟩
  f22 := ⟨Tryz.f139.name, by decide, Tryz.func139.trans (congrArg some (by kernel_rfl))⟩
  f23 := ⟨Tryz.f140.name, by decide, Tryz.func140.trans (congrArg some (by kernel_rfl))⟩
  f24 := ⟨Tryz.f141.name, by decide, Tryz.func141.trans (congrArg some (by kernel_rfl))⟩
  f25 := ⟨Tryz.f142.name, by decide, Tryz.func142.trans (congrArg some (by kernel_rfl))⟩
  f26 := ⟨Tryz.f143.name, by decide, Tryz.func143.trans (congrArg some (by kernel_rfl))⟩
  f27 := ⟨Tryz.f144.name, by decide, Tryz.func144.trans (congrArg some (by kernel_rfl))⟩
  f28 := Tryz.func77.trans (congrArg some (by kernel_rfl))
  f29 := Tryz.func78.trans (congrArg some (by kernel_rfl))
  f46 := ⟨Tryz.f152.name, by decide, Tryz.func152.trans (congrArg some (by kernel_rfl))⟩
  f47 := Tryz.func118.trans (congrArg some (by kernel_rfl))
  f48 := Tryz.func119.trans (congrArg some (by kernel_rfl))
  f49 := ⟨Tryz.f153.name, by decide, Tryz.func153.trans (congrArg some (by kernel_rfl))⟩
  f50 := ⟨Tryz.f154.name, by decide, Tryz.func154.trans (congrArg some (by kernel_rfl))⟩
  f57 := ⟨Tryz.f158.name, by decide, Tryz.func158.trans (congrArg some (by kernel_rfl))⟩
  t0 := Tryz.underlying0
  a0 := Tryz.isAgg0
  z0 := Tryz.sizeOf0
  v0 := Tryz.zeroValue0
  t3 := Tryz.underlying3
  a3 := Tryz.isAgg3
  z3 := Tryz.sizeOf3
  v3 := Tryz.zeroValue3
  t4 := Tryz.underlying4
  a4 := Tryz.isAgg4
  z4 := Tryz.sizeOf4
  v4 := Tryz.zeroValue4
  t5 := Tryz.underlying5
  a5 := Tryz.isAgg5
  z5 := Tryz.sizeOf5
  v5 := Tryz.zeroValue5
  t9 := Tryz.underlying9
  a9 := Tryz.isAgg9
  z9 := Tryz.sizeOf9
  v9 := Tryz.zeroValue9
  t22 := Tryz.underlying32
  a22 := Tryz.isAgg32
  z22 := Tryz.sizeOf32
  v22 := Tryz.zeroValue32
  t25 := Tryz.underlying104
  a25 := Tryz.isAgg104
  z25 := Tryz.sizeOf104
  v25 := Tryz.zeroValue104
  t39 := Tryz.underlying96
  a39 := Tryz.isAgg96
  z39 := Tryz.sizeOf96
  v39 := Tryz.zeroValue96
  t45 := Tryz.underlying111
  a45 := Tryz.isAgg111
  z45 := Tryz.sizeOf111
  v45 := Tryz.zeroValue111
  t46 := Tryz.underlying112
  a46 := Tryz.isAgg112
  z46 := Tryz.sizeOf112
  v46 := Tryz.zeroValue112
  t50 := Tryz.underlying117
  a50 := Tryz.isAgg117
  z50 := Tryz.sizeOf117
  v50 := Tryz.zeroValue117
  t53 := Tryz.underlying120
  a53 := Tryz.isAgg120
  z53 := Tryz.sizeOf120
  v53 := Tryz.zeroValue120
  t55 := Tryz.underlying122
  a55 := Tryz.isAgg122
  z55 := Tryz.sizeOf122
  v55 := Tryz.zeroValue122
  t66 := Tryz.underlying143
  a66 := Tryz.isAgg143
  z66 := Tryz.sizeOf143
  v66 := Tryz.zeroValue143
  t70 := Tryz.underlying147
  a70 := Tryz.isAgg147
  z70 := Tryz.sizeOf147
  v70 := Tryz.zeroValue147
  t76 := Tryz.underlying168
  a76 := Tryz.isAgg168
  z76 := Tryz.sizeOf168
  v76 := Tryz.zeroValue168
  t77 := Tryz.underlying169
  a77 := Tryz.isAgg169
  z77 := Tryz.sizeOf169
  v77 := Tryz.zeroValue169 }
def layRev_ren : Go.Shelf.Ren := ⟨fun | 35 => 156 | n => n, fun | 22 => 32 | 23 => 81 | 3 => 3 | 4 => 4 | 0 => 0 | n => n, fun | n => n⟩
theorem layRev : Go.Proofs.SlLaysE0.n35 Tryz.prog layRev_ren := {
  mixed := by kernel_rfl
  f35 := ⟨Tryz.f156.name, by decide, Tryz.func156.trans (congrArg some (by kernel_rfl))⟩
  t0 := Tryz.underlying0
  a0 := Tryz.isAgg0
  z0 := Tryz.sizeOf0
  v0 := Tryz.zeroValue0
  t3 := Tryz.underlying3
  a3 := Tryz.isAgg3
  z3 := Tryz.sizeOf3
  v3 := Tryz.zeroValue3
  t4 := Tryz.underlying4
  a4 := Tryz.isAgg4
  z4 := Tryz.sizeOf4
  v4 := Tryz.zeroValue4
  t22 := Tryz.underlying32
  a22 := Tryz.isAgg32
  z22 := Tryz.sizeOf32
  v22 := Tryz.zeroValue32 }

/-- Its stamps don't lie in the block. -/
def Off (w : World) (row : Option Nat) (x : Ro) : Prop := ∀ w', w.grownBy w' row → Over w' x
theorem Off.over {w : World} {row : Option Nat} {x : Ro} (h : Off w row x) : Over w x := h w ⟨rfl, rfl, rfl, Nat.le_refl _, fun _ _ _ => rfl⟩
/-- What lay in a world ahead of the row. -/
theorem Off.old {w0 w : World} {row : Option Nat} {x : Ro} (h : Over w0 x) (hb : RowKit.Below w0.heap.size w0 w) (hr : ∀ k, row = some k → w0.heap.size ≤ k) : Off w row x := fun w' hg =>
  h.below ⟨hg.os.trans hb.os, hg.tape.trans hb.tape, hg.output.trans hb.output, Nat.le_trans hb.size hg.size, fun i hi => (hg.block i (Nat.lt_of_lt_of_le hi hb.size) (fun e => by have := hr i e.symm; omega)).trans (hb.block i hi)⟩
/-- What lies in a block of stamps. -/
theorem Off.own {w : World} {base g : Nat} {x : Ro} {cur : Array Value} (h : w.ownsRow base 23 3 x.2 x.1.over.length (x.1.over.flatMap enS)) (hg : w.heap[g]? = some (.cells cur 81 (0, 0))) : Off w (some g) x := fun w' hgr =>
  Over.own (World.ownsRow.kept h hgr (Or.inr fun e => by
    obtain ⟨h1, ⟨h2, -⟩ | ⟨g', cap', cur', h2, h3, h4, h5⟩⟩ := h
    · rw [h2] at e; cases e
    · rw [h2] at e
      have : g' = g := by injection e
      subst this
      rw [hg] at h4
      injection h4 with h4
      injection h4 with _ h4
      exact absurd h4 (by decide)))

/-- What the sort is told of a mutation of the row. -/
def Okay (w : World) (row : Option Nat) (x : Ro) : Prop := Off w row x ∧ x.1.over.length ≤ 1000000
abbrev SubR (w : World) (row : Option Nat) : Type := { x : Ro // Okay w row x }
instance (w : World) (row : Option Nat) : Inhabited (SubR w row) := ⟨⟨⟨⟨0, 0, ByteArray.empty, ByteArray.empty, ByteArray.empty, 0, ⟨0, 0, 0⟩, []⟩, .slice none 0 0⟩, fun _ _ => ⟨Lst.nil _, ZN.none _ _⟩, by simp⟩⟩
def subs {w : World} {row : Option Nat} : (R : List Ro) → (∀ x ∈ R, Okay w row x) → List (SubR w row)
  | [], _ => []
  | x :: R, h => ⟨x, h x (by simp)⟩ :: subs R (fun y hy => h y (List.mem_cons_of_mem _ hy))
theorem subs_val {w : World} {row : Option Nat} : ∀ (R : List Ro) (h : ∀ x ∈ R, Okay w row x), (subs R h).map (·.1) = R
  | [], _ => rfl
  | x :: R, h => by rw [subs, List.map_cons, subs_val R]
theorem map_flat {w : World} {row : Option Nat} (l : List (SubR w row)) : (l.flatMap fun x => enM x.1) = (l.map (·.1)).flatMap enM := by
  induction l with
  | nil => rfl
  | cons x l ih => rw [List.flatMap_cons, List.map_cons, List.flatMap_cons, ih]

theorem subO (w : World) (row : Option Nat) : SWO (ltOf fun x y : SubR w row => muC x.1.1 y.1.1) where
  irrefl x := by
    show decide (muC x.1.1 x.1.1 < 0) = false
    rw [muO.self]; rfl
  trans x y z h1 h2 := by
    unfold ltOf at *
    simp only [decide_eq_true_eq] at *
    exact muO.trans _ _ _ h1 h2
  ntrans x y z h1 h2 := by
    unfold ltOf at *
    simp only [decide_eq_false_iff_not] at *
    have h1' := muO.le_of.1 h1
    have h2' := muO.le_of.1 h2
    exact muO.le_of.2 (muO.le_le h2' h1')

def SortP (base : Nat) (w : World) (v : Value) (R : List Ro) (e : Ending) (w' : World) : Prop :=
  e = .returned (.tuple #[]) ∧ ∃ R' : List Ro, R'.Perm R ∧ R'.Pairwise (fun a b => muC a.1 b.1 ≤ 0) ∧ w'.ownsRow base 81 10 v R'.length (R'.flatMap enM) ∧ w.grownBy w' v.ownBlock

theorem compare_enters : ∀ args w, (callFunc 58 args).run Tryz.prog w = .ok (.enter 58 args) w := enters_of Tryz.func58 (by kernel_rfl) rfl

theorem sort_some (base g cap : Nat) (R : List Ro) (w : World) (hown : w.ownsRow base 81 10 (.slice (some ⟨g, 0, none⟩) R.length cap) R.length (R.flatMap enM)) (hoff : ∀ x ∈ R, Okay w (some g) x) (hn : R.length ≤ 1000000) :
    Calls Tryz.prog 57 #[.slice (some ⟨g, 0, none⟩) R.length cap, .func (.func 58) #[] #[]] w (SortP base w (.slice (some ⟨g, 0, none⟩) R.length cap) R) := by
  obtain ⟨L, hL⟩ : ∃ L : List (SubR w (some g)), L.map (·.1) = R := ⟨subs R hoff, subs_val R hoff⟩
  subst hL
  have hlen : (L.map (·.1)).length = L.length := by simp
  rw [hlen] at hown hn ⊢
  rw [← map_flat] at hown
  have hk : ∀ x : SubR w (some g), (enM x.1).length = 10 := fun _ => rfl
  have h1 : ∀ x : SubR w (some g), ∀ v ∈ enM x.1, v.oneCell' = true := fun x v hv => by
    obtain ⟨ao, c, e, -, -⟩ := x.2.1.over.form
    unfold enM at hv
    rw [e] at hv
    simp at hv
    rcases hv with rfl | rfl | rfl | rfl | rfl | rfl | rfl | rfl | rfl | rfl <;> rfl
  obtain ⟨-, -, cur, h4, -, -, -, -⟩ := owned_parts hown
  have hlt : g < w.heap.size := (Array.getElem?_eq_some_iff.1 h4).1
  have hC : CmpLays Tryz.prog 58 #[] (fun x : SubR w (some g) => enM x.1) 10 (fun x y => muC x.1.1 y.1.1) g 0 L.toArray.size w := fun m os dk hdk x y => by
    have hg := (owned_put (cap := cap) hk hown dk (by simpa using hdk) m os).2
    have := compare_any x.1 y.1 (sortWorldK (fun x : SubR w (some g) => enM x.1) 10 w g 0 m dk os) (x.2.1 _ hg) (y.2.1 _ hg) x.2.2 y.2.2
    rw [vM_eq, vM_eq] at this
    exact this
  have hcon := AnyQ.slices_SortFunc laySort 10 (fun w => Tryz.isAgg81 w) (fun w => Tryz.sizeOf81 w) (fun x : SubR w (some g) => enM x.1) hk h1 (fun x y => muC x.1.1 y.1.1) (subO w (some g)) 58 #[] g 0 cap L.toArray w compare_enters hC (holds_owned hk hown) hlt (by simp; omega)
  have e0 : L.toArray.size = L.length := by simp
  rw [e0] at hcon
  refine hcon.mono ?_
  rintro e w' ⟨rfl, d', n, os, hp, hs, rfl⟩
  have hds : d'.size = L.length := by have := hp.1; simpa using this
  have hq := owned_put (cap := cap) hk hown d' hds n os
  have hdl : d'.toList.length = L.length := by simpa using hds
  refine ⟨rfl, d'.toList.map (·.1), ?_, ?_, ?_, hq.2⟩
  · have h := hp.2.2
    have x1 : (d'.extract 0 L.length).toList = d'.toList := by rw [← hds]; simp
    have x2 : (L.toArray.extract 0 L.length).toList = L := by simp
    rw [x1, x2] at h
    exact h.map _
  · rw [List.pairwise_map, List.pairwise_iff_getElem]
    intro i j hi hj hij
    have h := hs i j (Nat.zero_le _) hij (by simpa [hds] using hj)
    rw [getElem!_pos d' i (by simpa using hi), getElem!_pos d' j (by simpa using hj)] at h
    unfold ltOf at h
    simp only [decide_eq_false_iff_not] at h
    exact muO.le_of.1 h
  · rw [← map_flat]
    have := hq.1
    rw [show (d'.toList.map (·.1)).length = L.length by simp [hds]]
    exact this

def RevP (base : Nat) (w : World) (v : Value) (R : List Ro) (e : Ending) (w' : World) : Prop :=
  e = .returned (.tuple #[]) ∧ w'.ownsRow base 81 10 v R.length (R.reverse.flatMap enM) ∧ w.grownBy w' v.ownBlock
theorem reverse_any (base : Nat) (v : Value) (R : List Ro) (w : World) (hown : w.ownsRow base 81 10 v R.length (R.flatMap enM)) (hf : ∀ x ∈ R, ∃ ao n cap, x.2 = .slice ao n cap) (hn : R.length ≤ 1000000) :
    Calls Tryz.prog 156 #[v] w (RevP base w v R) := by
  rcases hown.2 with ⟨rfl, hR⟩ | ⟨g, cap, cur, rfl, -⟩
  · obtain rfl : R = [] := List.length_eq_zero_iff.1 hR
    refine (AnyQ.slices_Reverse_empty layRev none 0 w).mono ?_
    rintro e w' ⟨rfl, rfl⟩
    exact ⟨rfl, hown, ⟨rfl, rfl, rfl, Nat.le_refl _, fun _ _ _ => rfl⟩⟩
  · let S := { x : Ro // ∃ ao n cap, x.2 = .slice ao n cap }
    haveI : Inhabited S := ⟨⟨⟨⟨0, 0, ByteArray.empty, ByteArray.empty, ByteArray.empty, 0, ⟨0, 0, 0⟩, []⟩, .slice none 0 0⟩, ⟨_, _, _, rfl⟩⟩⟩
    obtain ⟨L, hL⟩ : ∃ L : List S, L.map (·.1) = R := ⟨R.attach.map fun x => ⟨x.1, hf x.1 x.2⟩, by rw [List.map_map]; exact List.attach_map_subtype_val R⟩
    subst hL
    have mf : ∀ l : List S, (l.flatMap fun x => enM x.1) = (l.map (·.1)).flatMap enM := by
      intro l
      induction l with
      | nil => rfl
      | cons x l ih => rw [List.flatMap_cons, List.map_cons, List.flatMap_cons, ih]
    have hlen : (L.map (·.1)).length = L.length := by simp
    rw [hlen] at hown hn ⊢
    rw [← mf] at hown
    have hk : ∀ x : S, (enM x.1).length = 10 := fun _ => rfl
    have h1 : ∀ x : S, ∀ v ∈ enM x.1, v.oneCell' = true := fun x v hv => by
      obtain ⟨ao, n, c, e⟩ := x.2
      unfold enM at hv
      rw [e] at hv
      simp at hv
      rcases hv with rfl | rfl | rfl | rfl | rfl | rfl | rfl | rfl | rfl | rfl <;> rfl
    have hcon := AnyQ.slices_Reverse layRev 10 (fun w => Tryz.isAgg81 w) (fun w => Tryz.sizeOf81 w) (fun x : S => enM x.1) hk h1 g 0 cap L.toArray w (holds_owned hk hown) (by simp; omega)
    have e0 : L.toArray.size = L.length := by simp
    rw [e0] at hcon
    refine hcon.mono ?_
    rintro e w' ⟨rfl, n, rfl⟩
    have hq := owned_put (cap := cap) hk hown L.toArray.reverse (by simp) n #[]
    have e1 : sortWorldK (fun x : S => enM x.1) 10 w g 0 n L.toArray.reverse #[] = putRowK (fun x : S => enM x.1) 10 (Sort.ahead w n) g 0 L.toArray.reverse := by unfold sortWorldK; rw [grow_empty]
    rw [e1] at hq
    refine ⟨rfl, ?_, hq.2⟩
    have h := hq.1
    rw [mf] at h
    rw [show L.toArray.reverse.toList = L.reverse by simp, List.map_reverse] at h
    rw [hlen]
    exact h
end Go.Proofs.YthdbilggnjjkhaaGreatDoor.Mut
