/- slices.SortFunc and slices.Reverse at mutations, by the library's contracts (the layings: lay-plain.mjs's print, turned). -/
import Derived.Shelf.SlSortCmp.WholeK
import Derived.Shelf.SlicesQ.Reverse
import Derived.Ground.SlsfProg
import Derived.Ground.SlgnProg
import Derived.Test.YtgcfhlleaekgfaaDoorSortRow
import Derived.Test.YtgcfhlleaekgfaaDoorMutCompare
namespace Go.Proofs.YtgcfhlleaekgfaaDoor.Mut
open Go.RowKit Go.Shelf Go.Sort Go.Proofs.YtgcfhlleaekgfaaDoor.Ord

def laySort_ren : Go.Shelf.Ren := ⟨fun | 6 => 16 | 15 => 25 | 14 => 24 | 28 => 60 | 29 => 61 | 20 => 52 | 21 => 53 | 22 => 54 | 23 => 55 | 24 => 56 | 25 => 57 | 26 => 58 | 27 => 59 | 46 => 74 | 47 => 75 | 48 => 76 | 49 => 77 | 50 => 78 | 57 => 81 | n => n, fun | 22 => 22 | 24 => 34 | 25 => 46 | 3 => 3 | 39 => 53 | 0 => 0 | 53 => 82 | 55 => 84 | 4 => 4 | 46 => 76 | 45 => 75 | 50 => 64 | 5 => 5 | 9 => 9 | 66 => 96 | 70 => 100 | 76 => 104 | 77 => 105 | n => n, fun | n => n⟩
theorem laySort : Go.Proofs.SlLaysF0.n6 Tryd.prog laySort_ren := {
  mixed := by kernel_rfl
  f6 := ⟨Tryd.f16.name, by decide, Tryd.func16.trans (congrArg some (by kernel_rfl))⟩
  f14 := ⟨Tryd.f24.name, by decide, Tryd.func24.trans (congrArg some (by kernel_rfl))⟩
  f15 := Tryd.func25.trans (congrArg some (by kernel_rfl))
  f20 := ⟨Tryd.f52.name, by decide, Tryd.func52.trans (congrArg some (by kernel_rfl))⟩
  f21 := ⟨Tryd.f53.name, by decide, Tryd.func53.trans (congrArg some (by kernel_rfl))⟩
  f22 := ⟨Tryd.f54.name, by decide, Tryd.func54.trans (congrArg some (by kernel_rfl))⟩
  f23 := ⟨Tryd.f55.name, by decide, Tryd.func55.trans (congrArg some (by kernel_rfl))⟩
  f24 := ⟨Tryd.f56.name, by decide, Tryd.func56.trans (congrArg some (by kernel_rfl))⟩
  f25 := ⟨Tryd.f57.name, by decide, Tryd.func57.trans (congrArg some (by kernel_rfl))⟩
  f26 := ⟨Tryd.f58.name, by decide, Tryd.func58.trans (congrArg some (by kernel_rfl))⟩
  f27 := ⟨Tryd.f59.name, by decide, Tryd.func59.trans (congrArg some (by kernel_rfl))⟩
  f28 := Tryd.func60.trans (congrArg some (by kernel_rfl))
  f29 := Tryd.func61.trans (congrArg some (by kernel_rfl))
  f46 := ⟨Tryd.f74.name, by decide, Tryd.func74.trans (congrArg some (by kernel_rfl))⟩
  f47 := Tryd.func75.trans (congrArg some (by kernel_rfl))
  f48 := Tryd.func76.trans (congrArg some (by kernel_rfl))
  f49 := ⟨Tryd.f77.name, by decide, Tryd.func77.trans (congrArg some (by kernel_rfl))⟩
  f50 := ⟨Tryd.f78.name, by decide, Tryd.func78.trans (congrArg some (by kernel_rfl))⟩
  f57 := ⟨Tryd.f81.name, by decide, Tryd.func81.trans (congrArg some (by kernel_rfl))⟩
  t0 := Tryd.underlying0
  a0 := Tryd.isAgg0
  z0 := Tryd.sizeOf0
  v0 := Tryd.zeroValue0
  t3 := Tryd.underlying3
  a3 := Tryd.isAgg3
  z3 := Tryd.sizeOf3
  v3 := Tryd.zeroValue3
  t4 := Tryd.underlying4
  a4 := Tryd.isAgg4
  z4 := Tryd.sizeOf4
  v4 := Tryd.zeroValue4
  t5 := Tryd.underlying5
  a5 := Tryd.isAgg5
  z5 := Tryd.sizeOf5
  v5 := Tryd.zeroValue5
  t9 := Tryd.underlying9
  a9 := Tryd.isAgg9
  z9 := Tryd.sizeOf9
  v9 := Tryd.zeroValue9
  t22 := Tryd.underlying22
  a22 := Tryd.isAgg22
  z22 := Tryd.sizeOf22
  v22 := Tryd.zeroValue22
  t25 := Tryd.underlying46
  a25 := Tryd.isAgg46
  z25 := Tryd.sizeOf46
  v25 := Tryd.zeroValue46
  t39 := Tryd.underlying53
  a39 := Tryd.isAgg53
  z39 := Tryd.sizeOf53
  v39 := Tryd.zeroValue53
  t45 := Tryd.underlying75
  a45 := Tryd.isAgg75
  z45 := Tryd.sizeOf75
  v45 := Tryd.zeroValue75
  t46 := Tryd.underlying76
  a46 := Tryd.isAgg76
  z46 := Tryd.sizeOf76
  v46 := Tryd.zeroValue76
  t50 := Tryd.underlying64
  a50 := Tryd.isAgg64
  z50 := Tryd.sizeOf64
  v50 := Tryd.zeroValue64
  t53 := Tryd.underlying82
  a53 := Tryd.isAgg82
  z53 := Tryd.sizeOf82
  v53 := Tryd.zeroValue82
  t55 := Tryd.underlying84
  a55 := Tryd.isAgg84
  z55 := Tryd.sizeOf84
  v55 := Tryd.zeroValue84
  t66 := Tryd.underlying96
  a66 := Tryd.isAgg96
  z66 := Tryd.sizeOf96
  v66 := Tryd.zeroValue96
  t70 := Tryd.underlying100
  a70 := Tryd.isAgg100
  z70 := Tryd.sizeOf100
  v70 := Tryd.zeroValue100
  t76 := Tryd.underlying104
  a76 := Tryd.isAgg104
  z76 := Tryd.sizeOf104
  v76 := Tryd.zeroValue104
  t77 := Tryd.underlying105
  a77 := Tryd.isAgg105
  z77 := Tryd.sizeOf105
  v77 := Tryd.zeroValue105 }
def layRev_ren : Go.Shelf.Ren := ⟨fun | 35 => 6 | n => n, fun | 22 => 22 | 23 => 34 | 3 => 3 | 4 => 4 | 0 => 0 | n => n, fun | n => n⟩
theorem layRev : Go.Proofs.SlLaysE0.n35 Tryd.prog layRev_ren := {
  mixed := by kernel_rfl
  f35 := ⟨Tryd.f6.name, by decide, Tryd.func6.trans (congrArg some (by kernel_rfl))⟩
  t0 := Tryd.underlying0
  a0 := Tryd.isAgg0
  z0 := Tryd.sizeOf0
  v0 := Tryd.zeroValue0
  t3 := Tryd.underlying3
  a3 := Tryd.isAgg3
  z3 := Tryd.sizeOf3
  v3 := Tryd.zeroValue3
  t4 := Tryd.underlying4
  a4 := Tryd.isAgg4
  z4 := Tryd.sizeOf4
  v4 := Tryd.zeroValue4
  t22 := Tryd.underlying22
  a22 := Tryd.isAgg22
  z22 := Tryd.sizeOf22
  v22 := Tryd.zeroValue22 }

/-- Its stamps don't lie in the block. -/
def Off (w : World) (row : Option Nat) (x : Ro) : Prop := ∀ w', w.grownBy w' row → Over w' x
theorem Off.over {w : World} {row : Option Nat} {x : Ro} (h : Off w row x) : Over w x := h w ⟨rfl, rfl, rfl, Nat.le_refl _, fun _ _ _ => rfl⟩
/-- What lay in a world ahead of the row. -/
theorem Off.old {w0 w : World} {row : Option Nat} {x : Ro} (h : Over w0 x) (hb : RowKit.Below w0.heap.size w0 w) (hr : ∀ k, row = some k → w0.heap.size ≤ k) : Off w row x := fun w' hg =>
  h.below ⟨hg.os.trans hb.os, hg.tape.trans hb.tape, hg.output.trans hb.output, Nat.le_trans hb.size hg.size, fun i hi => (hg.block i (Nat.lt_of_lt_of_le hi hb.size) (fun e => by have := hr i e.symm; omega)).trans (hb.block i hi)⟩
/-- What lies in a block of stamps. -/
theorem Off.own {w : World} {base g : Nat} {x : Ro} {cur : Array Value} (h : w.ownsRow base 31 3 x.2 x.1.over.length (x.1.over.flatMap enS)) (hg : w.heap[g]? = some (.cells cur 34 (0, 0))) : Off w (some g) x := fun w' hgr =>
  Lst.owned enS_len (by decide) rfl (World.ownsRow.kept h hgr (Or.inr fun e => by
    obtain ⟨h1, ⟨h2, -⟩ | ⟨g', cap', cur', h2, h3, h4, h5⟩⟩ := h
    · rw [h2] at e; cases e
    · rw [h2] at e
      have : g' = g := by injection e
      subst this
      rw [hg] at h4
      injection h4 with h4
      injection h4 with _ h4
      exact absurd h4 (by decide)))

/-- What the sort is told of a mutation of the row. -/
def Okay (w : World) (row : Option Nat) (x : Ro) : Prop := Off w row x ∧ x.1.over.length ≤ 1000000
abbrev SubR (w : World) (row : Option Nat) : Type := { x : Ro // Okay w row x }
instance (w : World) (row : Option Nat) : Inhabited (SubR w row) := ⟨⟨⟨⟨0, 0, ByteArray.empty, ByteArray.empty, ByteArray.empty, 0, ⟨0, 0, 0⟩, []⟩, .slice none 0 0⟩, fun _ _ => Lst.nil _, by simp⟩⟩
def subs {w : World} {row : Option Nat} : (R : List Ro) → (∀ x ∈ R, Okay w row x) → List (SubR w row)
  | [], _ => []
  | x :: R, h => ⟨x, h x (by simp)⟩ :: subs R (fun y hy => h y (List.mem_cons_of_mem _ hy))
theorem subs_val {w : World} {row : Option Nat} : ∀ (R : List Ro) (h : ∀ x ∈ R, Okay w row x), (subs R h).map (·.1) = R
  | [], _ => rfl
  | x :: R, h => by rw [subs, List.map_cons, subs_val R]
theorem map_flat {w : World} {row : Option Nat} (l : List (SubR w row)) : (l.flatMap fun x => enM x.1) = (l.map (·.1)).flatMap enM := by
  induction l with
  | nil => rfl
  | cons x l ih => rw [List.flatMap_cons, List.map_cons, List.flatMap_cons, ih]

theorem subO (w : World) (row : Option Nat) : SWO (ltOf fun x y : SubR w row => muC x.1.1 y.1.1) where
  irrefl x := by
    show decide (muC x.1.1 x.1.1 < 0) = false
    rw [muO.self]; rfl
  trans x y z h1 h2 := by
    unfold ltOf at *
    simp only [decide_eq_true_eq] at *
    exact muO.trans _ _ _ h1 h2
  ntrans x y z h1 h2 := by
    unfold ltOf at *
    simp only [decide_eq_false_iff_not] at *
    have h1' := muO.le_of.1 h1
    have h2' := muO.le_of.1 h2
    exact muO.le_of.2 (muO.le_le h2' h1')

def SortP (base : Nat) (w : World) (v : Value) (R : List Ro) (e : Ending) (w' : World) : Prop :=
  e = .returned (.tuple #[]) ∧ ∃ R' : List Ro, R'.Perm R ∧ R'.Pairwise (fun a b => muC a.1 b.1 ≤ 0) ∧ w'.ownsRow base 34 10 v R'.length (R'.flatMap enM) ∧ w.grownBy w' v.ownBlock

theorem compare_enters : ∀ args w, (callFunc 17 args).run Tryd.prog w = .ok (.enter 17 args) w := enters_of Tryd.func17 (by kernel_rfl) rfl

theorem sort_some (base g cap : Nat) (R : List Ro) (w : World) (hown : w.ownsRow base 34 10 (.slice (some ⟨g, 0, none⟩) R.length cap) R.length (R.flatMap enM)) (hoff : ∀ x ∈ R, Okay w (some g) x) (hn : R.length ≤ 1000000) :
    Calls Tryd.prog 16 #[.slice (some ⟨g, 0, none⟩) R.length cap, .func (.func 17) #[] #[]] w (SortP base w (.slice (some ⟨g, 0, none⟩) R.length cap) R) := by
  obtain ⟨L, hL⟩ : ∃ L : List (SubR w (some g)), L.map (·.1) = R := ⟨subs R hoff, subs_val R hoff⟩
  subst hL
  have hlen : (L.map (·.1)).length = L.length := by simp
  rw [hlen] at hown hn ⊢
  rw [← map_flat] at hown
  have hk : ∀ x : SubR w (some g), (enM x.1).length = 10 := fun _ => rfl
  have h1 : ∀ x : SubR w (some g), ∀ v ∈ enM x.1, v.oneCell' = true := fun x v hv => by
    obtain ⟨ao, c, e, -, -⟩ := x.2.1.over.form
    unfold enM at hv
    rw [e] at hv
    simp at hv
    rcases hv with rfl | rfl | rfl | rfl | rfl | rfl | rfl | rfl | rfl | rfl <;> rfl
  obtain ⟨-, -, cur, h4, -, -, -, -⟩ := owned_parts hown
  have hlt : g < w.heap.size := (Array.getElem?_eq_some_iff.1 h4).1
  have hC : CmpLays Tryd.prog 17 #[] (fun x : SubR w (some g) => enM x.1) 10 (fun x y => muC x.1.1 y.1.1) g 0 L.toArray.size w := fun m os dk hdk x y => by
    have hg := (owned_put (cap := cap) hk hown dk (by simpa using hdk) m os).2
    have := compare_any x.1 y.1 (sortWorldK (fun x : SubR w (some g) => enM x.1) 10 w g 0 m dk os) (x.2.1 _ hg) (y.2.1 _ hg) x.2.2 y.2.2
    rw [vM_eq, vM_eq] at this
    exact this
  have hcon := AnyQ.slices_SortFunc laySort 10 (fun w => Tryd.isAgg34 w) (fun w => Tryd.sizeOf34 w) (fun x : SubR w (some g) => enM x.1) hk h1 (fun x y => muC x.1.1 y.1.1) (subO w (some g)) 17 #[] g 0 cap L.toArray w compare_enters hC (holds_owned hk hown) hlt (by simp; omega)
  have e0 : L.toArray.size = L.length := by simp
  rw [e0] at hcon
  refine hcon.mono ?_
  rintro e w' ⟨rfl, d', n, os, hp, hs, rfl⟩
  have hds : d'.size = L.length := by have := hp.1; simpa using this
  have hq := owned_put (cap := cap) hk hown d' hds n os
  have hdl : d'.toList.length = L.length := by simpa using hds
  refine ⟨rfl, d'.toList.map (·.1), ?_, ?_, ?_, hq.2⟩
  · have h := hp.2.2
    have x1 : (d'.extract 0 L.length).toList = d'.toList := by rw [← hds]; simp
    have x2 : (L.toArray.extract 0 L.length).toList = L := by simp
    rw [x1, x2] at h
    exact h.map _
  · rw [List.pairwise_map, List.pairwise_iff_getElem]
    intro i j hi hj hij
    have h := hs i j (Nat.zero_le _) hij (by simpa [hds] using hj)
    rw [getElem!_pos d' i (by simpa using hi), getElem!_pos d' j (by simpa using hj)] at h
    unfold ltOf at h
    simp only [decide_eq_false_iff_not] at h
    exact muO.le_of.1 h
  · rw [← map_flat]
    have := hq.1
    rw [show (d'.toList.map (·.1)).length = L.length by simp [hds]]
    exact this

def RevP (base : Nat) (w : World) (v : Value) (R : List Ro) (e : Ending) (w' : World) : Prop :=
  e = .returned (.tuple #[]) ∧ w'.ownsRow base 34 10 v R.length (R.reverse.flatMap enM) ∧ w.grownBy w' v.ownBlock
theorem reverse_any (base : Nat) (v : Value) (R : List Ro) (w : World) (hown : w.ownsRow base 34 10 v R.length (R.flatMap enM)) (hf : ∀ x ∈ R, ∃ ao n cap, x.2 = .slice ao n cap) (hn : R.length ≤ 1000000) :
    Calls Tryd.prog 6 #[v] w (RevP base w v R) := by
  rcases hown.2 with ⟨rfl, hR⟩ | ⟨g, cap, cur, rfl, -⟩
  · obtain rfl : R = [] := List.length_eq_zero_iff.1 hR
    refine (AnyQ.slices_Reverse_empty layRev none 0 w).mono ?_
    rintro e w' ⟨rfl, rfl⟩
    exact ⟨rfl, hown, ⟨rfl, rfl, rfl, Nat.le_refl _, fun _ _ _ => rfl⟩⟩
  · let S := { x : Ro // ∃ ao n cap, x.2 = .slice ao n cap }
    haveI : Inhabited S := ⟨⟨⟨⟨0, 0, ByteArray.empty, ByteArray.empty, ByteArray.empty, 0, ⟨0, 0, 0⟩, []⟩, .slice none 0 0⟩, ⟨_, _, _, rfl⟩⟩⟩
    obtain ⟨L, hL⟩ : ∃ L : List S, L.map (·.1) = R := ⟨R.attach.map fun x => ⟨x.1, hf x.1 x.2⟩, by rw [List.map_map]; exact List.attach_map_subtype_val R⟩
    subst hL
    have mf : ∀ l : List S, (l.flatMap fun x => enM x.1) = (l.map (·.1)).flatMap enM := by
      intro l
      induction l with
      | nil => rfl
      | cons x l ih => rw [List.flatMap_cons, List.map_cons, List.flatMap_cons, ih]
    have hlen : (L.map (·.1)).length = L.length := by simp
    rw [hlen] at hown hn ⊢
    rw [← mf] at hown
    have hk : ∀ x : S, (enM x.1).length = 10 := fun _ => rfl
    have h1 : ∀ x : S, ∀ v ∈ enM x.1, v.oneCell' = true := fun x v hv => by
      obtain ⟨ao, n, c, e⟩ := x.2
      unfold enM at hv
      rw [e] at hv
      simp at hv
      rcases hv with rfl | rfl | rfl | rfl | rfl | rfl | rfl | rfl | rfl | rfl <;> rfl
    have hcon := AnyQ.slices_Reverse layRev 10 (fun w => Tryd.isAgg34 w) (fun w => Tryd.sizeOf34 w) (fun x : S => enM x.1) hk h1 g 0 cap L.toArray w (holds_owned hk hown) (by simp; omega)
    have e0 : L.toArray.size = L.length := by simp
    rw [e0] at hcon
    refine hcon.mono ?_
    rintro e w' ⟨rfl, n, rfl⟩
    have hq := owned_put (cap := cap) hk hown L.toArray.reverse (by simp) n #[]
    have e1 : sortWorldK (fun x : S => enM x.1) 10 w g 0 n L.toArray.reverse #[] = putRowK (fun x : S => enM x.1) 10 (Sort.ahead w n) g 0 L.toArray.reverse := by unfold sortWorldK; rw [grow_empty]
    rw [e1] at hq
    refine ⟨rfl, ?_, hq.2⟩
    have h := hq.1
    rw [mf] at h
    rw [show L.toArray.reverse.toList = L.reverse by simp, List.map_reverse] at h
    rw [hlen]
    exact h
end Go.Proofs.YtgcfhlleaekgfaaDoor.Mut
