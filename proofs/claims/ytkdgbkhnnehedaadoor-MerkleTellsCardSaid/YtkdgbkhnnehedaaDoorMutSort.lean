/- slices.SortFunc and slices.Reverse at mutations, by the library's contracts (the layings: lay-plain.mjs's print, turned). -/
import Derived.Shelf.SlSortCmp.WholeK
import Derived.Shelf.SlicesQ.Reverse
import Derived.Ground.SlsfProg
import Derived.Ground.SlgnProg
import Derived.Test.YtkdgbkhnnehedaaDoorSortRow
import Derived.Test.YtkdgbkhnnehedaaDoorMutRows
set_option linter.unusedSimpArgs false
set_option linter.unusedVariables false
namespace Go.Proofs.YtkdgbkhnnehedaaDoor.Mut
open Go.RowKit Go.Shelf Go.Sort Go.Proofs.YtkdgbkhnnehedaaDoor.Ord
set_option linter.unusedSectionVars false
variable [Inhabited Lim]

def laySort_ren : Go.Shelf.Ren := ⟨fun | 6 => 62 | 15 => 91 | 14 => 90 | 28 => 117 | 29 => 118 | 20 => 109 | 21 => 110 | 22 => 111 | 23 => 112 | 24 => 113 | 25 => 114 | 26 => 115 | 27 => 116 | 46 => 133 | 47 => 134 | 48 => 135 | 49 => 136 | 50 => 137 | 57 => 141 | n => n, fun | 22 => 59 | 24 => 43 | 25 => 134 | 3 => 3 | 39 => 135 | 0 => 0 | 53 => 184 | 55 => 80 | 4 => 4 | 46 => 178 | 45 => 177 | 50 => 148 | 5 => 5 | 9 => 9 | 66 => 198 | 70 => 201 | 76 => 205 | 77 => 206 | n => n, fun | n => n⟩
theorem laySort : Go.Proofs.SlLaysF0.n6 Tryd.prog laySort_ren := {
  mixed := by kernel_rfl
  f6 := ⟨Tryd.f62.name, by decide, Tryd.func62.trans (congrArg some (by kernel_rfl))⟩
  f14 := ⟨Tryd.f90.name, by decide, Tryd.func90.trans (congrArg some (by kernel_rfl))⟩
  f15 := Tryd.func91.trans (congrArg some (by kernel_rfl))
  f20 := ⟨Tryd.f109.name, by decide, Tryd.func109.trans (congrArg some (by kernel_rfl))⟩
  f21 := ⟨Tryd.f110.name, by decide, Tryd.func110.trans (congrArg some (by kernel_rfl))⟩
  f22 := ⟨Tryd.f111.name, by decide, Tryd.func111.trans (congrArg some (by kernel_rfl))⟩
  f23 := ⟨Tryd.f112.name, by decide, Tryd.func112.trans (congrArg some (by kernel_rfl))⟩
  f24 := ⟨Tryd.f113.name, by decide, Tryd.func113.trans (congrArg some (by kernel_rfl))⟩
  f25 := ⟨Tryd.f114.name, by decide, Tryd.func114.trans (congrArg some (by kernel_rfl))⟩
  f26 := ⟨Tryd.f115.name, by decide, Tryd.func115.trans (congrArg some (by kernel_rfl))⟩
  f27 := ⟨Tryd.f116.name, by decide, Tryd.func116.trans (congrArg some (by kernel_rfl))⟩
  f28 := Tryd.func117.trans (congrArg some (by kernel_rfl))
  f29 := Tryd.func118.trans (congrArg some (by kernel_rfl))
  f46 := ⟨Tryd.f133.name, by decide, Tryd.func133.trans (congrArg some (by kernel_rfl))⟩
  f47 := Tryd.func134.trans (congrArg some (by kernel_rfl))
  f48 := Tryd.func135.trans (congrArg some (by kernel_rfl))
  f49 := ⟨Tryd.f136.name, by decide, Tryd.func136.trans (congrArg some (by kernel_rfl))⟩
  f50 := ⟨Tryd.f137.name, by decide, Tryd.func137.trans (congrArg some (by kernel_rfl))⟩
  f57 := ⟨Tryd.f141.name, by decide, Tryd.func141.trans (congrArg some (by kernel_rfl))⟩
  t0 := Tryd.underlying0
  a0 := Tryd.isAgg0
  z0 := Tryd.sizeOf0
  v0 := Tryd.zeroValue0
  t3 := Tryd.underlying3
  a3 := Tryd.isAgg3
  z3 := Tryd.sizeOf3
  v3 := Tryd.zeroValue3
  t4 := Tryd.underlying4
  a4 := Tryd.isAgg4
  z4 := Tryd.sizeOf4
  v4 := Tryd.zeroValue4
  t5 := Tryd.underlying5
  a5 := Tryd.isAgg5
  z5 := Tryd.sizeOf5
  v5 := Tryd.zeroValue5
  t9 := Tryd.underlying9
  a9 := Tryd.isAgg9
  z9 := Tryd.sizeOf9
  v9 := Tryd.zeroValue9
  t22 := Tryd.underlying59
  a22 := Tryd.isAgg59
  z22 := Tryd.sizeOf59
  v22 := Tryd.zeroValue59
  t25 := Tryd.underlying134
  a25 := Tryd.isAgg134
  z25 := Tryd.sizeOf134
  v25 := Tryd.zeroValue134
  t39 := Tryd.underlying135
  a39 := Tryd.isAgg135
  z39 := Tryd.sizeOf135
  v39 := Tryd.zeroValue135
  t45 := Tryd.underlying177
  a45 := Tryd.isAgg177
  z45 := Tryd.sizeOf177
  v45 := Tryd.zeroValue177
  t46 := Tryd.underlying178
  a46 := Tryd.isAgg178
  z46 := Tryd.sizeOf178
  v46 := Tryd.zeroValue178
  t50 := Tryd.underlying148
  a50 := Tryd.isAgg148
  z50 := Tryd.sizeOf148
  v50 := Tryd.zeroValue148
  t53 := Tryd.underlying184
  a53 := Tryd.isAgg184
  z53 := Tryd.sizeOf184
  v53 := Tryd.zeroValue184
  t55 := Tryd.underlying80
  a55 := Tryd.isAgg80
  z55 := Tryd.sizeOf80
  v55 := Tryd.zeroValue80
  t66 := Tryd.underlying198
  a66 := Tryd.isAgg198
  z66 := Tryd.sizeOf198
  v66 := Tryd.zeroValue198
  t70 := Tryd.underlying201
  a70 := Tryd.isAgg201
  z70 := Tryd.sizeOf201
  v70 := Tryd.zeroValue201
  t76 := Tryd.underlying205
  a76 := Tryd.isAgg205
  z76 := Tryd.sizeOf205
  v76 := Tryd.zeroValue205
  t77 := Tryd.underlying206
  a77 := Tryd.isAgg206
  z77 := Tryd.sizeOf206
  v77 := Tryd.zeroValue206 }
def layRev_ren : Go.Shelf.Ren := ⟨fun | 35 => 24 | n => n, fun | 22 => 59 | 23 => 43 | 3 => 3 | 4 => 4 | 0 => 0 | n => n, fun | n => n⟩
theorem layRev : Go.Proofs.SlLaysE0.n35 Tryd.prog layRev_ren := {
  mixed := by kernel_rfl
  f35 := ⟨Tryd.f24.name, by decide, Tryd.func24.trans (congrArg some (by kernel_rfl))⟩
  t0 := Tryd.underlying0
  a0 := Tryd.isAgg0
  z0 := Tryd.sizeOf0
  v0 := Tryd.zeroValue0
  t3 := Tryd.underlying3
  a3 := Tryd.isAgg3
  z3 := Tryd.sizeOf3
  v3 := Tryd.zeroValue3
  t4 := Tryd.underlying4
  a4 := Tryd.isAgg4
  z4 := Tryd.sizeOf4
  v4 := Tryd.zeroValue4
  t22 := Tryd.underlying59
  a22 := Tryd.isAgg59
  z22 := Tryd.sizeOf59
  v22 := Tryd.zeroValue59 }

/-- Its stamps don't lie in the block. -/
def Off (w : World) (row : Option Nat) (x : Ro) : Prop := ∀ w', w.grownBy w' row → Over w' x
theorem Off.over {w : World} {row : Option Nat} {x : Ro} (h : Off w row x) : Over w x := h w ⟨rfl, rfl, rfl, Nat.le_refl _, fun _ _ _ => rfl⟩
/-- What lay in a world ahead of the row. -/
theorem Off.old {w0 w : World} {row : Option Nat} {x : Ro} (h : Over w0 x) (hb : RowKit.Below w0.heap.size w0 w) (hr : ∀ k, row = some k → w0.heap.size ≤ k) : Off w row x := fun w' hg =>
  h.below ⟨hg.os.trans hb.os, hg.tape.trans hb.tape, hg.output.trans hb.output, Nat.le_trans hb.size hg.size, fun i hi => (hg.block i (Nat.lt_of_lt_of_le hi hb.size) (fun e => by have := hr i e.symm; omega)).trans (hb.block i hi)⟩
/-- What lies in a block of stamps. -/
theorem Off.own {w : World} {base g : Nat} {x : Ro} {cur : Array Value} (h : w.ownsRow base 40 3 x.2 x.1.over.length (x.1.over.flatMap enS)) (hg : w.heap[g]? = some (.cells cur 43 (0, 0))) : Off w (some g) x := fun w' hgr =>
  Over.own (World.ownsRow.kept h hgr (Or.inr fun e => by
    obtain ⟨h1, ⟨h2, -⟩ | ⟨g', cap', cur', h2, h3, h4, h5⟩⟩ := h
    · rw [h2] at e; cases e
    · rw [h2] at e
      have : g' = g := by injection e
      subst this
      rw [hg] at h4
      injection h4 with h4
      injection h4 with _ h4
      exact absurd h4 (by decide)))

/-- What the sort is told of a mutation of the row. -/
def Okay (w : World) (row : Option Nat) (x : Ro) : Prop := Off w row x ∧ x.1.over.length ≤ 1000000
abbrev SubR (w : World) (row : Option Nat) : Type := { x : Ro // Okay w row x }
instance (w : World) (row : Option Nat) : Inhabited (SubR w row) := ⟨⟨⟨⟨0, 0, ByteArray.empty, ByteArray.empty, ByteArray.empty, 0, ⟨0, 0, 0⟩, []⟩, .slice none 0 0⟩, fun _ _ => ⟨Lst.nil _, ZN.none _ _⟩, by simp⟩⟩
def subs {w : World} {row : Option Nat} : (R : List Ro) → (∀ x ∈ R, Okay w row x) → List (SubR w row)
  | [], _ => []
  | x :: R, h => ⟨x, h x (by simp)⟩ :: subs R (fun y hy => h y (List.mem_cons_of_mem _ hy))
theorem subs_val {w : World} {row : Option Nat} : ∀ (R : List Ro) (h : ∀ x ∈ R, Okay w row x), (subs R h).map (·.1) = R
  | [], _ => rfl
  | x :: R, h => by rw [subs, List.map_cons, subs_val R]
theorem map_flat {w : World} {row : Option Nat} (l : List (SubR w row)) : (l.flatMap fun x => enM x.1) = (l.map (·.1)).flatMap enM := by
  induction l with
  | nil => rfl
  | cons x l ih => rw [List.flatMap_cons, List.map_cons, List.flatMap_cons, ih]

theorem subO (w : World) (row : Option Nat) : SWO (ltOf fun x y : SubR w row => muC x.1.1 y.1.1) where
  irrefl x := by
    show decide (muC x.1.1 x.1.1 < 0) = false
    rw [muO.self]; rfl
  trans x y z h1 h2 := by
    unfold ltOf at *
    simp only [decide_eq_true_eq] at *
    exact muO.trans _ _ _ h1 h2
  ntrans x y z h1 h2 := by
    unfold ltOf at *
    simp only [decide_eq_false_iff_not] at *
    have h1' := muO.le_of.1 h1
    have h2' := muO.le_of.1 h2
    exact muO.le_of.2 (muO.le_le h2' h1')

def SortP (base : Nat) (w : World) (v : Value) (R : List Ro) (e : Ending) (w' : World) : Prop :=
  e = .returned (.tuple #[]) ∧ ∃ R' : List Ro, R'.Perm R ∧ R'.Pairwise (fun a b => muC a.1 b.1 ≤ 0) ∧ w'.ownsRow base 43 10 v R'.length (R'.flatMap enM) ∧ w.grownBy w' v.ownBlock

theorem compare_enters : ∀ args w, (callFunc 63 args).run Tryd.prog w = .ok (.enter 63 args) w := enters_of Tryd.func63 (by kernel_rfl) rfl

theorem sort_some (base g cap : Nat) (R : List Ro) (w : World) (hown : w.ownsRow base 43 10 (.slice (some ⟨g, 0, none⟩) R.length cap) R.length (R.flatMap enM)) (hoff : ∀ x ∈ R, Okay w (some g) x) (hn : R.length ≤ 1000000) :
    Calls Tryd.prog 62 #[.slice (some ⟨g, 0, none⟩) R.length cap, .func (.func 63) #[] #[]] w (SortP base w (.slice (some ⟨g, 0, none⟩) R.length cap) R) := by
  obtain ⟨L, hL⟩ : ∃ L : List (SubR w (some g)), L.map (·.1) = R := ⟨subs R hoff, subs_val R hoff⟩
  subst hL
  have hlen : (L.map (·.1)).length = L.length := by simp
  rw [hlen] at hown hn ⊢
  rw [← map_flat] at hown
  have hk : ∀ x : SubR w (some g), (enM x.1).length = 10 := fun _ => rfl
  have h1 : ∀ x : SubR w (some g), ∀ v ∈ enM x.1, v.oneCell' = true := fun x v hv => by
    obtain ⟨ao, c, e, -, -⟩ := x.2.1.over.form
    unfold enM at hv
    rw [e] at hv
    simp at hv
    rcases hv with rfl | rfl | rfl | rfl | rfl | rfl | rfl | rfl | rfl | rfl <;> rfl
  obtain ⟨-, -, cur, h4, -, -, -, -⟩ := owned_parts hown
  have hlt : g < w.heap.size := (Array.getElem?_eq_some_iff.1 h4).1
  have hC : CmpLays Tryd.prog 63 #[] (fun x : SubR w (some g) => enM x.1) 10 (fun x y => muC x.1.1 y.1.1) g 0 L.toArray.size w := fun m os dk hdk x y => by
    have hg := (owned_put (cap := cap) hk hown dk (by simpa using hdk) m os).2
    have := compare_any x.1 y.1 (sortWorldK (fun x : SubR w (some g) => enM x.1) 10 w g 0 m dk os) (x.2.1 _ hg) (y.2.1 _ hg) x.2.2 y.2.2
    rw [vM_eq, vM_eq] at this
    exact this
  have hcon := AnyQ.slices_SortFunc laySort 10 (fun w => Tryd.isAgg43 w) (fun w => Tryd.sizeOf43 w) (fun x : SubR w (some g) => enM x.1) hk h1 (fun x y => muC x.1.1 y.1.1) (subO w (some g)) 63 #[] g 0 cap L.toArray w compare_enters hC (holds_owned hk hown) hlt (by simp; omega)
  have e0 : L.toArray.size = L.length := by simp
  rw [e0] at hcon
  refine hcon.mono ?_
  rintro e w' ⟨rfl, d', n, os, hp, hs, rfl⟩
  have hds : d'.size = L.length := by have := hp.1; simpa using this
  have hq := owned_put (cap := cap) hk hown d' hds n os
  have hdl : d'.toList.length = L.length := by simpa using hds
  refine ⟨rfl, d'.toList.map (·.1), ?_, ?_, ?_, hq.2⟩
  · have h := hp.2.2
    have x1 : (d'.extract 0 L.length).toList = d'.toList := by rw [← hds]; simp
    have x2 : (L.toArray.extract 0 L.length).toList = L := by simp
    rw [x1, x2] at h
    exact h.map _
  · rw [List.pairwise_map, List.pairwise_iff_getElem]
    intro i j hi hj hij
    have h := hs i j (Nat.zero_le _) hij (by simpa [hds] using hj)
    rw [getElem!_pos d' i (by simpa using hi), getElem!_pos d' j (by simpa using hj)] at h
    unfold ltOf at h
    simp only [decide_eq_false_iff_not] at h
    exact muO.le_of.1 h
  · rw [← map_flat]
    have := hq.1
    rw [show (d'.toList.map (·.1)).length = L.length by simp [hds]]
    exact this

def RevP (base : Nat) (w : World) (v : Value) (R : List Ro) (e : Ending) (w' : World) : Prop :=
  e = .returned (.tuple #[]) ∧ w'.ownsRow base 43 10 v R.length (R.reverse.flatMap enM) ∧ w.grownBy w' v.ownBlock
theorem reverse_any (base : Nat) (v : Value) (R : List Ro) (w : World) (hown : w.ownsRow base 43 10 v R.length (R.flatMap enM)) (hf : ∀ x ∈ R, ∃ ao n cap, x.2 = .slice ao n cap) (hn : R.length ≤ 1000000) :
    Calls Tryd.prog 24 #[v] w (RevP base w v R) := by
  rcases hown.2 with ⟨rfl, hR⟩ | ⟨g, cap, cur, rfl, -⟩
  · obtain rfl : R = [] := List.length_eq_zero_iff.1 hR
    refine (AnyQ.slices_Reverse_empty layRev none 0 w).mono ?_
    rintro e w' ⟨rfl, rfl⟩
    exact ⟨rfl, hown, ⟨rfl, rfl, rfl, Nat.le_refl _, fun _ _ _ => rfl⟩⟩
  · let S := { x : Ro // ∃ ao n cap, x.2 = .slice ao n cap }
    haveI : Inhabited S := ⟨⟨⟨⟨0, 0, ByteArray.empty, ByteArray.empty, ByteArray.empty, 0, ⟨0, 0, 0⟩, []⟩, .slice none 0 0⟩, ⟨_, _, _, rfl⟩⟩⟩
    obtain ⟨L, hL⟩ : ∃ L : List S, L.map (·.1) = R := ⟨R.attach.map fun x => ⟨x.1, hf x.1 x.2⟩, by rw [List.map_map]; exact List.attach_map_subtype_val R⟩
    subst hL
    have mf : ∀ l : List S, (l.flatMap fun x => enM x.1) = (l.map (·.1)).flatMap enM := by
      intro l
      induction l with
      | nil => rfl
      | cons x l ih => rw [List.flatMap_cons, List.map_cons, List.flatMap_cons, ih]
    have hlen : (L.map (·.1)).length = L.length := by simp
    rw [hlen] at hown hn ⊢
    rw [← mf] at hown
    have hk : ∀ x : S, (enM x.1).length = 10 := fun _ => rfl
    have h1 : ∀ x : S, ∀ v ∈ enM x.1, v.oneCell' = true := fun x v hv => by
      obtain ⟨ao, n, c, e⟩ := x.2
      unfold enM at hv
      rw [e] at hv
      simp at hv
      rcases hv with rfl | rfl | rfl | rfl | rfl | rfl | rfl | rfl | rfl | rfl <;> rfl
    have hcon := AnyQ.slices_Reverse layRev 10 (fun w => Tryd.isAgg43 w) (fun w => Tryd.sizeOf43 w) (fun x : S => enM x.1) hk h1 g 0 cap L.toArray w (holds_owned hk hown) (by simp; omega)
    have e0 : L.toArray.size = L.length := by simp
    rw [e0] at hcon
    refine hcon.mono ?_
    rintro e w' ⟨rfl, n, rfl⟩
    have hq := owned_put (cap := cap) hk hown L.toArray.reverse (by simp) n #[]
    have e1 : sortWorldK (fun x : S => enM x.1) 10 w g 0 n L.toArray.reverse #[] = putRowK (fun x : S => enM x.1) 10 (Sort.ahead w n) g 0 L.toArray.reverse := by unfold sortWorldK; rw [grow_empty]
    rw [e1] at hq
    refine ⟨rfl, ?_, hq.2⟩
    have h := hq.1
    rw [mf] at h
    rw [show L.toArray.reverse.toList = L.reverse by simp, List.map_reverse] at h
    rw [hlen]
    exact h
end Go.Proofs.YtkdgbkhnnehedaaDoor.Mut
