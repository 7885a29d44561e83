/- Heal, HealRow, HealLaw: in one text. -/
import Derived.Test.YtipoeigehabbmaaGreatDoorUniPlain
import Derived.Test.YtipoeigehabbmaaGreatDoorFixWalk
import Derived.Test.YtipoeigehabbmaaGreatDoorBoth29
import Derived.Laws.OwnMore
import Derived.Test.YtipoeigehabbmaaGreatDoorRef29
import Derived.Test.YtipoeigehabbmaaGreatDoorGreat25
import Derived.Test.YtipoeigehabbmaaGreatDoorSweep
/- What replicas lack, taken by them, heals them (layer 29): in plain Lean. -/
set_option linter.unusedSimpArgs false
set_option linter.unusedVariables false
namespace Go.Proofs.YtipoeigehabbmaaGreatDoor.Mut
open Go.RowKit Go.Sort Go.Proofs.YtipoeigehabbmaaGreatDoor.Ord Go.Proofs.YtipoeigehabbmaaGreatDoor.RegInv Go.Proofs.YtipoeigehabbmaaGreatDoor.Spare
set_option linter.unusedSectionVars false
variable [Inhabited Lim]

/-! ## Healing -/
/-- Each, with what it lacks of all, is all. -/
theorem heal_one (cs : List Con) (c : Con) (hc : c ∈ cs) : leftOf (c.all ++ missF (cs.foldl joinC ⟨[], [], []⟩) c) = cs.foldl joinC ⟨[], [], []⟩ := by
  rw [miss_join]
  rw [join_many]
  unfold joinC
  rw [leftOf_swallow2]
  refine leftOf_congr fun u => ?_
  unfold Fits
  rw [List.mem_append, List.mem_flatMap]
  constructor
  · rintro ⟨g | g, g2⟩
    · exact ⟨⟨c, hc, g⟩, g2⟩
    · exact ⟨g, g2⟩
  · rintro ⟨g, g2⟩
    exact ⟨Or.inr g, g2⟩
theorem all_same {cs : List Con} {a : Con} {n : Nat} (ha : Good a n) (h : ∀ c ∈ cs, c = a) (hne : cs ≠ []) : cs.foldl joinC ⟨[], [], []⟩ = a := by
  rw [join_many]
  conv => rhs; rw [← ha.left]
  refine leftOf_congr fun u => ?_
  unfold Fits
  rw [List.mem_flatMap]
  constructor
  · rintro ⟨⟨c, hc, g⟩, g2⟩
    exact ⟨h c hc ▸ g, g2⟩
  · rintro ⟨g, g2⟩
    obtain ⟨c, hc⟩ := List.exists_mem_of_ne_nil cs hne
    exact ⟨⟨c, hc, by rw [h c hc]; exact g⟩, g2⟩
theorem miss_self {a : Con} {n : Nat} (ha : Good a n) : missF a a = [] := by
  apply List.eq_nil_iff_forall_not_mem.2
  intro m hm
  obtain ⟨h1, h2⟩ := mem_missF.1 hm
  apply h2
  conv => rhs; rw [← ha.left]
  unfold addC
  refine leftOf_congr fun u => ?_
  unfold Fits
  rw [List.mem_append, List.mem_singleton]
  constructor
  · rintro ⟨g | rfl, g2⟩
    · exact ⟨g, g2⟩
    · exact ⟨h1, g2⟩
  · rintro ⟨g, g2⟩
    exact ⟨Or.inl g, g2⟩
/-- What all have is what some of them have: all is above a floor if each is. -/
theorem fold_above (cs : List Con) (p : Mu → Prop) (h : ∀ c ∈ cs, ∀ m ∈ c.all, p m) : ∀ m ∈ (cs.foldl joinC ⟨[], [], []⟩).all, p m := by
  intro m hm
  rw [join_many] at hm
  have := (leftOf_both _).1.in_all hm
  obtain ⟨c, hc, g⟩ := List.mem_flatMap.1 this.1
  exact h c hc m g

/-- One content takes a mutation. -/
def putAt : List Con → Nat → Mu → List Con
  | [], _, _ => []
  | c :: t, 0, m => addC c m :: t
  | c :: t, i + 1, m => c :: putAt t i m
theorem putAt_app (m : Mu) (c : Con) (rest : List Con) : ∀ pre : List Con, putAt (pre ++ c :: rest) pre.length m = pre ++ addC c m :: rest
  | [] => rfl
  | x :: pre => by
    show x :: putAt (pre ++ c :: rest) pre.length m = _
    rw [putAt_app m c rest pre]
    rfl
theorem putAt_len (m : Mu) : ∀ (cs : List Con) (i : Nat), (putAt cs i m).length = cs.length
  | [], _ => rfl
  | c :: t, 0 => rfl
  | c :: t, i + 1 => by rw [putAt, List.length_cons, putAt_len m t i, List.length_cons]
theorem putAt_good {n : Nat} (m : Mu) : ∀ (cs : List Con) (i : Nat), (∀ c ∈ cs, Good c n) → ∀ c ∈ putAt cs i m, Good c (n + 1)
  | [], _, h, c, hc => by cases hc
  | x :: t, 0, h, c, hc => by
    rcases List.mem_cons.1 hc with rfl | hc
    · exact addC_good (h x (List.mem_cons_self ..)) m
    · exact (h c (List.mem_cons_of_mem _ hc)).more (by omega)
  | x :: t, i + 1, h, c, hc => by
    rcases List.mem_cons.1 hc with rfl | hc
    · exact (h _ (List.mem_cons_self ..)).more (by omega)
    · exact putAt_good m t i (fun c hc => h c (List.mem_cons_of_mem _ hc)) c hc
def putH (cs : List Con) (x : Int × Mu) : List Con := putAt cs x.1.toNat x.2
/-- What the one with this number, the content, the floor is. -/
def core3 (x : Ry) : Int × Con × Stp := (x.from_, x.c, x.f)
def idx (fl : Stp) : Nat → List Con → List (Int × Con × Stp)
  | _, [] => []
  | i, c :: t => ((i : Int), c, fl) :: idx fl (i + 1) t
theorem idx_snoc (fl : Stp) (c : Con) : ∀ (cs : List Con) (i : Nat), idx fl i (cs ++ [c]) = idx fl i cs ++ [(((i + cs.length : Nat) : Int), c, fl)]
  | [], i => by simp [idx]
  | y :: cs, i => by
    rw [List.cons_append, idx, idx, idx_snoc fl c cs (i + 1), List.cons_append, List.length_cons]
    rw [show i + 1 + cs.length = i + (cs.length + 1) by omega]
theorem idx_len (fl : Stp) : ∀ (cs : List Con) (i : Nat), (idx fl i cs).length = cs.length
  | [], _ => rfl
  | _ :: cs, i => by rw [idx, List.length_cons, idx_len fl cs (i + 1), List.length_cons]
theorem idx_con {fl : Stp} : ∀ {cs : List Con} {i : Nat} {R : List Ry}, R.map core3 = idx fl i cs → R.map (·.c) = cs ∧ ∀ x ∈ R, x.f = fl
  | [], i, R, h => by
    rw [List.map_eq_nil_iff.1 (show R.map core3 = [] from h)]
    exact ⟨rfl, fun x hx => by cases hx⟩
  | c :: cs, i, [], h => by cases h
  | c :: cs, i, x :: R, h => by
    rw [List.map_cons, idx, List.cons.injEq] at h
    have g := idx_con h.2
    have e1 : x.c = c := congrArg (·.2.1) h.1
    have e2 : x.f = fl := congrArg (·.2.2) h.1
    exact ⟨by rw [List.map_cons, e1, g.1], fun y hy => (List.mem_cons.1 hy).elim (fun e => by rw [e]; exact e2) (g.2 y)⟩
/-- One reply takes a mutation. -/
theorem idx_put {fl : Stp} (m : Mu) : ∀ {cs : List Con} {i : Nat} {R : List Ry}, R.map core3 = idx fl i cs → ∀ (k : Nat) (x y : Ry), R[k]? = some x → y.from_ = x.from_ → y.f = x.f → y.c = addC x.c m → (R.set k y).map core3 = idx fl i (putAt cs k m)
  | [], i, R, h, k, x, y, hx, h1, h2, h3 => by
    rw [List.map_eq_nil_iff.1 (show R.map core3 = [] from h)] at hx
    cases hx
  | c :: cs, i, [], h, k, x, y, hx, h1, h2, h3 => by cases hx
  | c :: cs, i, z :: R, h, 0, x, y, hx, h1, h2, h3 => by
    rw [List.map_cons, idx, List.cons.injEq] at h
    simp only [List.getElem?_cons_zero, Option.some.injEq] at hx
    subst hx
    rw [List.set_cons_zero, List.map_cons, putAt, idx, h.2]
    congr 1
    have e0 : z.from_ = (i : Int) := congrArg (·.1) h.1
    have e1 : z.c = c := congrArg (·.2.1) h.1
    have e2 : z.f = fl := congrArg (·.2.2) h.1
    unfold core3
    rw [h1, h2, h3, e0, e1, e2]
  | c :: cs, i, z :: R, h, k + 1, x, y, hx, h1, h2, h3 => by
    rw [List.map_cons, idx, List.cons.injEq] at h
    rw [List.set_cons_succ, List.map_cons, putAt, idx, h.1]
    congr 1
    exact idx_put m h.2 k x y (by simpa using hx) h1 h2 h3

/-- What each lacks of all. -/
def healF (M : Con) : Nat → List Con → List (Int × Mu)
  | _, [] => []
  | i, c :: t => ((missF M c).map fun m => ((i : Int), m)) ++ healF M (i + 1) t
theorem heal_step (pre rest : List Con) (i : Nat) (hi : pre.length = i) : ∀ (L : List Mu) (c : Con), (L.map fun m => ((i : Int), m)).foldl putH (pre ++ c :: rest) = pre ++ (L.foldl addC c) :: rest
  | [], c => rfl
  | m :: L, c => by
    rw [List.map_cons, List.foldl_cons, List.foldl_cons]
    have e : putH (pre ++ c :: rest) ((i : Int), m) = pre ++ addC c m :: rest := by
      unfold putH
      rw [show ((i : Int), m).1.toNat = pre.length by rw [hi]; rfl]
      exact putAt_app m c rest pre
    rw [e]
    exact heal_step pre rest i hi L (addC c m)
theorem heal_all (M : Con) : ∀ (rest pre : List Con), (healF M pre.length rest).foldl putH (pre ++ rest) = pre ++ rest.map fun c => (missF M c).foldl addC c
  | [], pre => rfl
  | c :: rest, pre => by
    rw [healF, List.foldl_append, heal_step pre rest pre.length rfl]
    have := heal_all M rest (pre ++ [(missF M c).foldl addC c])
    rw [List.length_append, List.length_singleton, List.append_assoc, List.singleton_append] at this
    rw [this, List.append_assoc]
    rfl
theorem heal_fixes {fl : Stp} (M : Con) (hM : ∀ m ∈ M.all, stC fl m.at_ < 0) : ∀ (cs : List Con) (i : Nat) (R : List Ry), R.map core3 = idx fl i cs → R.flatMap (fixG M) = healF M i cs
  | [], i, R, h => by rw [List.map_eq_nil_iff.1 (show R.map core3 = [] from h)]; rfl
  | c :: cs, i, [], h => by cases h
  | c :: cs, i, x :: R, h => by
    rw [List.map_cons, idx, List.cons.injEq] at h
    have e0 : x.from_ = (i : Int) := congrArg (·.1) h.1
    have e1 : x.c = c := congrArg (·.2.1) h.1
    have e2 : x.f = fl := congrArg (·.2.2) h.1
    rw [List.flatMap_cons, healF, heal_fixes M hM cs (i + 1) R h.2]
    congr 1
    unfold fixG
    rw [e0, e1, e2, List.filter_eq_self.2 fun m hm => decide_eq_true (hM m (mem_missF.1 hm).1)]
theorem con_filter_self {c : Con} {p : Mu → Bool} (h : ∀ m ∈ c.all, p m = true) : c.filter p = c := by
  obtain ⟨a, b, d⟩ := c
  unfold Con.filter
  rw [List.filter_eq_self.2 fun m hm => h m (Con.mem_all.2 (Or.inl hm)), List.filter_eq_self.2 fun m hm => h m (Con.mem_all.2 (Or.inr (Or.inl hm))), List.filter_eq_self.2 fun m hm => h m (Con.mem_all.2 (Or.inr (Or.inr hm)))]
theorem floor_under {fl t : Stp} (h1 : stC fl t < 0) : ∀ (R : List Ry) (z : Stp), (∀ x ∈ R, x.f = fl) → stC z t < 0 → stC (R.foldl (fun s x => maxS s x.f) z) t < 0
  | [], z, h, h2 => h2
  | x :: R, z, h, h2 => by
    rw [List.foldl_cons]
    refine floor_under h1 R _ (fun y hy => h y (List.mem_cons_of_mem _ hy)) ?_
    rw [h x (List.mem_cons_self ..)]
    unfold maxS
    split
    · exact h1
    · exact h2
theorem zero_under {m : Mu} (h : rightF m = true) : stC zeroS m.at_ < 0 := by
  unfold rightF rightG at h
  simp only [Bool.and_eq_true] at h
  have h1 : stR m.at_ = true := by simp_all
  unfold stR at h1
  simp only [Bool.and_eq_true, decide_eq_true_eq, Bool.not_eq_true', Bool.and_eq_false_iff, decide_eq_false_iff_not] at h1
  obtain ⟨⟨⟨⟨⟨⟨a0, a1⟩, a2⟩, -⟩, -⟩, -⟩, a3⟩ := h1
  simp only [stC, zeroS, orL, cmpI]
  repeat' split
  all_goals omega
theorem merge_above {R : List Ry} {fl : Stp} {n : Nat} (hf : ∀ x ∈ R, x.f = fl) (hG : ∀ x ∈ R, Good x.c n) (ha : ∀ x ∈ R, ∀ m ∈ x.c.all, stC fl m.at_ < 0) : mergeF R = (R.map (·.c)).foldl joinC ⟨[], [], []⟩ := by
  unfold mergeF
  congr 1
  refine List.map_congr_left fun x hx => ?_
  unfold countsY
  split
  · rfl
  · exact con_filter_self fun m hm => decide_eq_true (floor_under (ha x hx m hm) R zeroS hf (zero_under ((hG x hx).okc.right m hm)))
theorem heal_len (M : Con) (b : Nat) (hb : ∀ c, (missF M c).length ≤ b) : ∀ (cs : List Con) (i : Nat), (healF M i cs).length ≤ b * cs.length
  | [], i => by simp [healF]
  | c :: cs, i => by
    rw [healF, List.length_append, List.length_map, List.length_cons, Nat.mul_succ]
    have := heal_len M b hb cs (i + 1)
    have := hb c
    omega
theorem heal_mem (M : Con) : ∀ (cs : List Con) (i : Nat) (x), x ∈ healF M i cs → ((i : Int) ≤ x.1 ∧ x.1 < ((i + cs.length : Nat) : Int)) ∧ x.2 ∈ M.all
  | [], i, x, h => by cases h
  | c :: cs, i, x, h => by
    rw [healF, List.mem_append] at h
    rcases h with h | h
    · obtain ⟨m, hm, rfl⟩ := List.mem_map.1 h
      exact ⟨⟨Int.le_refl _, by rw [List.length_cons]; push_cast; omega⟩, (mem_missF.1 hm).1⟩
    · have := heal_mem M cs (i + 1) x h
      rw [List.length_cons]
      exact ⟨⟨by omega, by omega⟩, this.2⟩

/-- All that a row of replies of one floor, whose contents lie above it, lacks: told; in the end nothing is lacked. -/
structure Heals (fl : Stp) (n m : Nat) (cs : List Con) (R : List Ry) : Prop where
  row : R.map core3 = idx fl 0 cs
  good : ∀ c ∈ cs, Good c m
  above : ∀ c ∈ cs, ∀ x ∈ c.all, stC fl x.at_ < 0
theorem Heals.merge {fl : Stp} {n m : Nat} {cs : List Con} {R : List Ry} (h : Heals fl n m cs R) : mergeF R = cs.foldl joinC ⟨[], [], []⟩ := by
  obtain ⟨h1, h2⟩ := idx_con h.row
  rw [← h1]
  have hm : ∀ x ∈ R, x.c ∈ cs := fun x hx => by rw [← h1]; exact List.mem_map.2 ⟨x, hx, rfl⟩
  exact merge_above h2 (fun x hx => h.good _ (hm x hx)) (fun x hx => h.above _ (hm x hx))
theorem Heals.fixes {fl : Stp} {n m : Nat} {cs : List Con} {R : List Ry} (h : Heals fl n m cs R) : fixF R = healF (cs.foldl joinC ⟨[], [], []⟩) 0 cs := by
  rw [fixF_eq, h.merge]
  exact heal_fixes _ (fold_above cs _ h.above) cs 0 R h.row
theorem Heals.told {fl : Stp} {n m : Nat} {cs : List Con} {R : List Ry} (h : Heals fl n m cs R) : ∀ x ∈ fixF R, (0 ≤ x.1 ∧ x.1 < (cs.length : Int)) ∧ stC fl x.2.at_ < 0 := by
  intro x hx
  rw [h.fixes] at hx
  obtain ⟨⟨h1, h2⟩, h3⟩ := heal_mem _ cs 0 x hx
  exact ⟨⟨h1, by simpa using h2⟩, fold_above cs _ h.above _ h3⟩
theorem Heals.count {fl : Stp} {n m : Nat} {cs : List Con} {R : List Ry} (h : Heals fl n m cs R) : (fixF R).length ≤ m * cs.length * cs.length := by
  rw [h.fixes]
  refine heal_len _ _ (fun c => ?_) cs 0
  have h1 : (missF (cs.foldl joinC ⟨[], [], []⟩) c).length ≤ (allF (cs.foldl joinC ⟨[], [], []⟩)).length := List.length_filter_le _ _
  rw [len_allF] at h1
  have h2 := (join_good cs ⟨[], [], []⟩ 0 m empty_good h.good).okc.len
  omega
theorem Heals.done {fl : Stp} {n m : Nat} {cs : List Con} {R R' : List Ry} (h : Heals fl n m cs R) (h' : R'.map core3 = idx fl 0 ((fixF R).foldl putH cs)) : fixF R' = [] := by
  rcases Classical.em (cs = []) with rfl | hne
  · have e : (fixF R).foldl putH [] = [] := by rw [h.fixes]; rfl
    rw [e] at h'
    rw [List.map_eq_nil_iff.1 (show R'.map core3 = [] from h')]
    rfl
  obtain ⟨M, hM⟩ : ∃ M, M = cs.foldl joinC ⟨[], [], []⟩ := ⟨_, rfl⟩
  have hGM : Good M (m * cs.length) := by rw [hM]; exact (join_good cs ⟨[], [], []⟩ 0 m empty_good h.good).more (by omega)
  have ha := fold_above cs (fun x => stC fl x.at_ < 0) h.above
  rw [← hM] at ha
  have e : (fixF R).foldl putH cs = cs.map fun _ => M := by
    rw [h.fixes, ← hM]
    have h1 := heal_all M cs []
    rw [List.nil_append, List.nil_append, List.length_nil] at h1
    rw [h1]
    refine List.map_congr_left fun c hc => ?_
    rw [fold_good (h.good c hc), hM]
    exact heal_one cs c hc
  rw [e] at h'
  have H' : Heals fl n (m * cs.length) (cs.map fun _ => M) R' := ⟨h', fun c hc => by obtain ⟨_, _, rfl⟩ := List.mem_map.1 hc; exact hGM, fun c hc => by obtain ⟨_, _, rfl⟩ := List.mem_map.1 hc; exact ha⟩
  rw [H'.fixes, all_same hGM (fun c hc => by obtain ⟨_, _, rfl⟩ := List.mem_map.1 hc; rfl) (by simpa using hne)]
  have key : ∀ (l : List Con) (i : Nat), (∀ c ∈ l, c = M) → healF M i l = [] := by
    intro l
    induction l with
    | nil => intro i _; rfl
    | cons c l ih =>
      intro i hl
      rw [healF, hl c (List.mem_cons_self ..), miss_self hGM, ih (i + 1) fun c hc => hl c (List.mem_cons_of_mem _ hc)]
      rfl
  exact key _ 0 fun c hc => by obtain ⟨_, _, rfl⟩ := List.mem_map.1 hc; rfl
end Go.Proofs.YtipoeigehabbmaaGreatDoor.Mut

/- A reply in a row of the call's own takes another content (layer 29). -/
set_option linter.unusedSimpArgs false
set_option linter.unusedVariables false
namespace Go.Proofs.YtipoeigehabbmaaGreatDoor.Mut
open Go.RowKit Go.Sort Go.Proofs.YtipoeigehabbmaaGreatDoor.Ord Go.Proofs.YtipoeigehabbmaaGreatDoor.RegInv Go.Proofs.YtipoeigehabbmaaGreatDoor.Spare
set_option linter.unusedSectionVars false
variable [Inhabited Lim]

section
variable {w w' : World} {base : Nat} {e : TypeId} {zs : List Value} {v : Value} {n j : Nat} {xs : List Value}
theorem frow_keptZ {u : Value} {F : List Fx} (h : FRow w u F) (hN : (default : Lim).n ≤ base) (hs : Spare w base e zs v n xs) (hp : Plainly zs xs j) (hg : w.grownBy w' v.ownBlock) : FRow w' u F := by
  refine ⟨?_, fun x hx => over_keptZ (h.over x hx) hN hs hp hg⟩
  obtain ⟨ao, cap, e1, h1, h2, h3⟩ := h.row
  refine ⟨ao, cap, e1, h1, h2, h3.imp id ?_⟩
  rintro ⟨b, off, e2, hb, hc⟩
  refine ⟨b, off, e2, Nat.lt_of_lt_of_le hb hg.size, fun i x hi j hj => ?_⟩
  have hj2 := hc i x hi 3 (by decide)
  rw [← hc i x hi j hj]
  exact World.cell?_of_block (a := ⟨b, off + i * 11 + j, none⟩) (hg.block b hb fun e => cell_str hs hp e.symm _ hj2)
theorem spare_stored {g cap : Nat} (h : Spare w base e zs (.slice (some ⟨g, 0, none⟩) n cap) n xs) {j : Nat} (hj : j < n * zs.length) (u : Value) : Spare (w.setCell ⟨g, j, none⟩ u) base e zs (.slice (some ⟨g, 0, none⟩) n cap) n (xs.set j u) := by
  refine ⟨(h.own.stored j u).1, fun g' m c o u' hv ho hc => ?_⟩
  simp only [Value.slice.injEq, Option.some.injEq, Addr.mk.injEq, and_true] at hv
  obtain ⟨rfl, -, -⟩ := hv
  rw [World.cell?_setCell_other (h := fun e => by injection e with _ e; omega)] at hc
  exact h.rest g n cap o u' rfl ho hc
end
theorem set3_flat (y : Ry) : ∀ (R : List Ry) (k : Nat) (x : Ry), R[k]? = some x → y.from_ = x.from_ → y.no = x.no → y.f = x.f →
    (((R.flatMap enY).set (k * 8 + 2) y.a).set (k * 8 + 2 + 1) y.b).set (k * 8 + 2 + 2) y.d = (R.set k y).flatMap enY
  | [], k, x, h, _, _, _ => by simp at h
  | z :: R, 0, x, h, h1, h2, h3 => by
    simp only [List.getElem?_cons_zero, Option.some.injEq] at h
    subst h
    rw [List.set_cons_zero, List.flatMap_cons, List.flatMap_cons]
    unfold enY
    rw [h1, h2, h3]
    rfl
  | z :: R, k + 1, x, h, h1, h2, h3 => by
    rw [List.set_cons_succ, List.flatMap_cons, List.flatMap_cons, ← set3_flat y R k x (by simpa using h) h1 h2 h3]
    rw [List.set_append, if_neg (by rw [enY_len]; omega), List.set_append, if_neg (by rw [enY_len]; omega), List.set_append, if_neg (by rw [enY_len]; omega), enY_len]
    rw [show (k + 1) * 8 + 2 - 8 = k * 8 + 2 by omega, show (k + 1) * 8 + 2 + 1 - 8 = k * 8 + 2 + 1 by omega, show (k + 1) * 8 + 2 + 2 - 8 = k * 8 + 2 + 2 by omega]
theorem growY_put {w : World} {base : Nat} {e : TypeId} {g n cap : Nat} {R : List Ry} (h : GrowY w base e (.slice (some ⟨g, 0, none⟩) n cap) n R) (hN : (default : Lim).n ≤ base) {k : Nat} {x : Ry} (hk : R[k]? = some x) {a b d : Value} {c : Con} (hl : Lies w a b d c) :
    GrowY (((w.setCell ⟨g, k * 8 + 2, none⟩ a).setCell ⟨g, k * 8 + 2 + 1, none⟩ b).setCell ⟨g, k * 8 + 2 + 2, none⟩ d) base e (.slice (some ⟨g, 0, none⟩) n cap) n (R.set k ⟨x.from_, x.no, a, b, d, c, x.f⟩) ∧
    w.grownBy (((w.setCell ⟨g, k * 8 + 2, none⟩ a).setCell ⟨g, k * 8 + 2 + 1, none⟩ b).setCell ⟨g, k * 8 + 2 + 2, none⟩ d) (Value.slice (some ⟨g, 0, none⟩) n cap).ownBlock := by
  have hkn : k < n := by rw [h.len]; exact (List.getElem?_eq_some_iff.1 hk).1
  have hz : zY.length = 8 := rfl
  have hg : w.grownBy (((w.setCell ⟨g, k * 8 + 2, none⟩ a).setCell ⟨g, k * 8 + 2 + 1, none⟩ b).setCell ⟨g, k * 8 + 2 + 2, none⟩ d) (Value.slice (some ⟨g, 0, none⟩) n cap).ownBlock :=
    ⟨rfl, rfl, rfl, by simp, fun i _ hi => by
      have hne : i ≠ g := fun e => hi (by rw [e]; rfl)
      rw [heap_setCell_far _ ⟨g, k * 8 + 2 + 2, none⟩ d i (Ne.symm hne), heap_setCell_far _ ⟨g, k * 8 + 2 + 1, none⟩ b i (Ne.symm hne), heap_setCell_far _ ⟨g, k * 8 + 2, none⟩ a i (Ne.symm hne)]⟩
  refine ⟨⟨?_, fun y hy => ?_, by rw [List.length_set]; exact h.len⟩, hg⟩
  · rw [← set3_flat ⟨x.from_, x.no, a, b, d, c, x.f⟩ R k x hk rfl rfl rfl]
    exact spare_stored (spare_stored (spare_stored h.row (by rw [hz]; omega) a) (by rw [hz]; omega) b) (by rw [hz]; omega) d
  · rcases List.mem_or_eq_of_mem_set hy with hy | rfl
    · exact lies_keptZ (h.con y hy) hN h.row (plain_Y h.forms) hg
    · exact lies_keptZ hl hN h.row (plain_Y h.forms) hg
end Go.Proofs.YtipoeigehabbmaaGreatDoor.Mut

/- The walks of law29.later and of the law OrderHeals (layer 29). PRINTED by wip/genheals.py. -/
set_option linter.unusedSimpArgs false
set_option linter.unusedVariables false
namespace Go.Proofs.YtipoeigehabbmaaGreatDoor.Mut
open Go.RowKit Go.Sort Go.Proofs.YtipoeigehabbmaaGreatDoor.Ord Go.Proofs.YtipoeigehabbmaaGreatDoor.RegInv Go.Proofs.YtipoeigehabbmaaGreatDoor.Spare
set_option linter.unusedSectionVars false
variable [Inhabited Lim]

theorem Heals.final {fl : Stp} {n m : Nat} {cs : List Con} {R : List Ry} (h : Heals fl n m cs R) : ∀ c ∈ (fixF R).foldl putH cs, Good c (m * cs.length) := by
  obtain ⟨M, hM⟩ : ∃ M, M = cs.foldl joinC ⟨[], [], []⟩ := ⟨_, rfl⟩
  have hGM : Good M (m * cs.length) := by rw [hM]; exact (join_good cs ⟨[], [], []⟩ 0 m empty_good h.good).more (by omega)
  have e : (fixF R).foldl putH cs = cs.map fun _ => M := by
    rw [h.fixes, ← hM]
    have h1 := heal_all M cs []
    rw [List.nil_append, List.nil_append, List.length_nil] at h1
    rw [h1]
    refine List.map_congr_left fun c hc => ?_
    rw [fold_good (h.good c hc), hM]
    exact heal_one cs c hc
  intro c hc
  rw [e] at hc
  obtain ⟨_, _, rfl⟩ := List.mem_map.1 hc
  exact hGM

set_option maxHeartbeats 4000000 in
set_option maxRecDepth 100000 in
theorem later_any (v : Value) (F : List Fx) (fl : Stp) (w : World) (hv : FRow w v F) (hs : ∀ x ∈ F, stC fl x.2.1.at_ < 0) :
    Calls Tryz.prog 41 #[v, vS fl] w (RetB true w) := by
  obtain ⟨ao, cap, rfl, hc1, hc2⟩ := hv.form
  obtain ⟨n, hN⟩ : ∃ n, n = F.length := ⟨_, rfl⟩
  rw [← hN] at hv hc1 ⊢
  unfold maxLen at hc2
  have hn9 : n ≤ 9223372036854775807 := by omega
  have HV := Lib.hid hv
  have HN := Lib.hid hN
  have HSM := Lib.hid hs
  clear hv hN hs
  obtain ⟨W0, hW0⟩ : ∃ W0, W0 = w.alloc (.cells #[.int .i64 fl.p, .int .i64 fl.l, .int .i64 fl.w] 32) := ⟨_, rfl⟩
  have HS := Lib.hid (show S3 W0 w.heap.size fl by rw [hW0]; exact S3.new w fl)
  have HB0 := Lib.hid (show RowKit.Below w.heap.size w W0 by rw [hW0]; exact (Below.refl _ _).alloc (Nat.le_refl _) _)
  have HW0 := Lib.hid hW0
  clear hW0
  obtain ⟨sp, sl, sw⟩ := fl
  unfold vS
  simp only [] at HW0 ⊢
  obtain ⟨k3, hk3⟩ : ∃ n, n = w.heap.size := ⟨_, rfl⟩
  rw [← hk3] at HS
  have HK3 := Lib.hid hk3
  go_enter Tryz.func41, Tryz.ntmps41
  go_upto_region 1 with fail
  rw [← HW0.out, ← hk3]
  clear HW0 hk3
  go_wp2_with fail
  go_loopw [5] (fun iv wr => ∃ (k : Nat), k ≤ n ∧ iv = .int .i64 k ∧ Hid (RowKit.Below W0.heap.size W0 wr)) (fun iv _ => n - (intOf iv).toNat)
  case atStart => exact ⟨0, by omega, rfl, Lib.hid (Below.refl _ _)⟩
  case round =>
    obtain ⟨k, hk, rfl, hl⟩ := hrel
    by_cases hlt : k < n
    · have hkr : k < F.length := by have := HN.out; omega
      obtain ⟨f, hf⟩ : ∃ x, F[k]? = some x := ⟨_, List.getElem?_eq_getElem hkr⟩
      obtain ⟨fb, foff, hfo1, hfb, c0, hfat⟩ := (HV.out.below (below_then HB0.out (Nat.le_refl _) hl.out)).at_ hf
      cases hfo1
      have hlate := HSM.out f (List.mem_of_getElem? hf)
      have HLS := Lib.hid (fun W => refless_any ⟨sp, sl, sw⟩ f.2.1.at_ W)
      rw [decide_eq_true hlate] at HLS
      have HFA := Lib.hid (fun W' (h : RowKit.Below wr.heap.size wr W') => hfat.below h)
      have HSr := Lib.hid (HS.out.below hl.out)
      clear hfat c0 hf hlate
      obtain ⟨yt, ⟨at1, ak1, akey1, afin1, aval1, aex1, ⟨ap1, al1, aw1⟩, aov1⟩, yv⟩ := f
      unfold vS at HLS
      simp only [] at HLS
      have j0 : (0 : Int) ≤ (k : Int) := by omega
      have j1 : (k : Int) < (n : Int) := by omega
      go_wp2_with fail
      refine wp_region_told [] 8 [false, false, false, false, false, false, false, false, false, false, false, false, true, true, true, true, true, true, true, true, false]
        [sLit (.agg #[.int .i64 sp, .int .i64 sl, .int .i64 sw]),
    sLit (.slice (some ⟨fb, foff, none⟩) n cap),
    sLit (.int .i64 k),
    sLit (.pointer (some ⟨fb, foff + k * 11, none⟩)),
    sLit (.pointer (some ⟨fb, foff + k * 11 + 1, none⟩)),
    sLit (.pointer (some ⟨fb, foff + k * 11 + 1 + 6, none⟩)),
    sLit (.agg #[.int .i64 ap1, .int .i64 al1, .int .i64 aw1]),
    sLit (.bool true)] (by kernel_rfl) (by kernel_rfl) (by kernel_rfl) (fun F hF => ?_)
      simp only [over, overL, Nat.reduceAdd] at hF
      obtain rfl := funext hF
      clear hF
      refine ⟨⟨?_, ?_, ?_, ?_, ?_, ?_, ?_, ?_, trivial⟩, ?_⟩
      · intro V W hb hd K hK _
        clear hd
        obtain ⟨-, s0, s1, s2, -⟩ := HSr.out.below hb
        simp only [] at s0 s1 s2
        go_wp2_with fail
        refine hK _ _ ?_ ?_ ?_ ?_
        · rfl
        · exact Below.refl _ _
        · exact rfl
        · trivial
      · intro V W hb hd K hK _
        clear hd
        go_wp2_with fail
        refine hK _ _ ?_ ?_ ?_ ?_
        · rfl
        · exact Below.refl _ _
        · exact rfl
        · trivial
      · intro V W hb hd K hK _
        clear hd
        go_wp2_with fail
        refine hK _ _ ?_ ?_ ?_ ?_
        · rfl
        · exact Below.refl _ _
        · exact rfl
        · trivial
      · intro V W hb hd K hK _
        have h1 : (V 13) = .slice (some ⟨fb, foff, none⟩) n cap := hd 1 (by kernel_rfl)
        have h2 : (V 14) = .int .i64 k := hd 2 (by kernel_rfl)
        clear hd
        go_wp2_with fail
        refine hK _ _ ?_ ?_ ?_ ?_
        · rfl
        · exact Below.refl _ _
        · exact rfl
        · trivial
      · intro V W hb hd K hK _
        have h3 : (V 15) = .pointer (some ⟨fb, foff + k * 11, none⟩) := hd 3 (by kernel_rfl)
        clear hd
        go_wp2_with fail
        refine hK _ _ ?_ ?_ ?_ ?_
        · rfl
        · exact Below.refl _ _
        · exact rfl
        · trivial
      · intro V W hb hd K hK _
        have h4 : (V 16) = .pointer (some ⟨fb, foff + k * 11 + 1, none⟩) := hd 4 (by kernel_rfl)
        clear hd
        go_wp2_with fail
        refine hK _ _ ?_ ?_ ?_ ?_
        · rfl
        · exact Below.refl _ _
        · exact rfl
        · trivial
      · intro V W hb hd K hK _
        have h5 : (V 17) = .pointer (some ⟨fb, foff + k * 11 + 1 + 6, none⟩) := hd 5 (by kernel_rfl)
        clear hd
        have hA := HFA.out W hb
        obtain ⟨hbl3, a0, a1, a2, a3, a4, a5, a6, a7, a8, a9⟩ := hA
        simp only [] at a0 a1 a2 a3 a4 a5 a6 a7 a8 a9
        go_wp2_with fail
        refine hK _ _ ?_ ?_ ?_ ?_
        · rfl
        · exact Below.refl _ _
        · exact rfl
        · trivial
      · intro V W hb hd K hK _
        have h0 : (V 12) = .agg #[.int .i64 sp, .int .i64 sl, .int .i64 sw] := hd 0 (by kernel_rfl)
        have h6 : (V 18) = .agg #[.int .i64 ap1, .int .i64 al1, .int .i64 aw1] := hd 6 (by kernel_rfl)
        clear hd
        go_wp2_with fail
        refine (HLS.out W).mono ?_
        rintro e w1 ⟨rfl, hb1⟩
        go_wp2_with fail
        refine hK _ _ ?_ ?_ ?_ ?_
        · rfl
        · exact hb1
        · exact rfl
        · trivial
      · intro V W hb hd hap
        have h7 : (V 19) = .bool true := hd 7 (by decide)
        clear hd hap
        simp only [List.drop_succ_cons, List.drop_zero]
        have HBr := Lib.hid (below_then hl.out (Nat.le_refl _) hb)
        clear hb
        go_wp2_with fail
        go_roundw
        case rel => exact ⟨k + 1, by omega, by go_num, HBr⟩
        case measure => simp [intOf]; omega
    · obtain rfl : k = n := by omega
      go_wp2_with fail
      go_ret
      exact ⟨rfl, below_then HB0.out (Nat.le_refl _) hl.out⟩

/-- What one that has swept tells above the floor. -/
def cH (fl : Stp) (x : Td) : Con := ((leftOf (x.l.map (·.1))).filter fun m => !deadF (leftOf (x.l.map (·.1))) fl m).filter fun m => decide (stC fl m.at_ < 0)
theorem cH_good {fl : Stp} {x : Td} (h : (x.l.map (·.1)).length ≤ 15) : Good (cH fl x) 15 := (((leftOf_good _).more h).filter _).filter _

set_option maxHeartbeats 16000000 in
set_option maxRecDepth 100000 in
theorem oheal_any (v : Value) (T : List Td) (fl : Stp) (w : World) (hT : Tabs w) (hv : TRow w v T) (hz : TSizes T) (hN0 : (default : Lim).n ≤ w.heap.size) :
    Calls Tryz.prog 7 #[v, vS fl] w (RetB true w) := by
  obtain ⟨ao, cap, rfl, -, -⟩ := hv.form
  obtain ⟨n, hN⟩ : ∃ n, n = T.length := ⟨_, rfl⟩
  rw [← hN] at hv ⊢
  have HGR := Lib.hid (fun W (h : RowKit.Below w.heap.size w W) => great25_any (.slice ao n cap) T W (hv.below h) hz)
  obtain ⟨G, hG⟩ : ∃ G, G = great25 T := ⟨_, rfl⟩
  rw [← hG] at HGR
  have HG := Lib.hid hG
  have HV := Lib.hid hv
  have HN := Lib.hid hN
  have HT := Lib.hid hT
  have HN0 := Lib.hid hN0
  clear hv hN hT hN0 hG hz
  obtain ⟨W0, hW0⟩ : ∃ W0, W0 = w.alloc (.cells #[.int .i64 fl.p, .int .i64 fl.l, .int .i64 fl.w] 32) := ⟨_, rfl⟩
  have HS := Lib.hid (show S3 W0 w.heap.size fl by rw [hW0]; exact S3.new w fl)
  have HB0 := Lib.hid (show RowKit.Below w.heap.size w W0 by rw [hW0]; exact (Below.refl _ _).alloc (Nat.le_refl _) _)
  have HW0 := Lib.hid hW0
  clear hW0
  obtain ⟨fl0, hfl0⟩ : ∃ f, f = fl := ⟨_, rfl⟩
  have HFL := Lib.hid hfl0
  rw [← hfl0] at HS
  clear hfl0
  obtain ⟨sp, sl, sw⟩ := fl
  unfold vS
  simp only [] at HW0 ⊢
  obtain ⟨k3, hk3⟩ : ∃ n, n = w.heap.size := ⟨_, rfl⟩
  rw [← hk3] at HS
  have HK3 := Lib.hid hk3
  go_enter Tryz.func7, Tryz.ntmps7
  go_upto_region 1 with fail
  rw [← HW0.out, ← hk3]
  clear HW0 hk3
  go_wp2_with fail
  refine (HGR.out _ HB0.out).mono ?_
  rintro e w1 ⟨rfl, rfl⟩
  cases G
  case true =>
    go_wp2_with fail
    go_ret
    exact ⟨rfl, HB0.out⟩
  obtain ⟨hT6, hTs⟩ := great25_small HG.out.symm
  have hn6 : n ≤ 6 := by have := HN.out; omega
  have HTS := Lib.hid hTs
  have HNB := Lib.hid (show (default : Lim).n ≤ W0.heap.size from Nat.le_trans HN0.out HB0.out.size)
  clear hT6 hTs HGR HG
  go_wp2_with fail
  go_loopw [5, 6] (fun av iv wr => ∃ (k : Nat) (R : List Ry), k ≤ n ∧ iv = .int .i64 k ∧ Hid (R.map core3 = idx fl0 0 ((T.take k).map (cH fl0))) ∧ Hid (GrowY wr W0.heap.size 81 av k R) ∧ Hid (RowKit.Below W0.heap.size W0 wr)) (fun _ iv _ => n - (intOf iv).toNat)
  case atStart => exact ⟨0, [], by omega, rfl, Lib.hid rfl, Lib.hid (GrowY.nil _ _ _), Lib.hid (Below.refl _ _)⟩
  case round =>
    obtain ⟨k, R, hk, rfl, hrow, hgr, hl⟩ := hrel
    by_cases hlt : k < n
    · have hkr : k < T.length := by have := HN.out; omega
      obtain ⟨x, hx⟩ : ∃ x, T[k]? = some x := ⟨_, List.getElem?_eq_getElem hkr⟩
      have hxm := List.mem_of_getElem? hx
      have hvw := HV.out.below (below_then HB0.out (Nat.le_refl _) hl.out)
      obtain ⟨xb, xoff, hao, hat⟩ := hvw.at_ hx
      cases hao
      have hxo := hvw.ro x hxm
      have HTK := Lib.hid (show idx fl0 0 ((T.take (k + 1)).map (cH fl0)) = idx fl0 0 ((T.take k).map (cH fl0)) ++ [((k : Int), cH fl0 x, fl0)] by
        rw [List.take_add_one, hx, Option.toList_some, List.map_append, List.map_singleton, idx_snoc, List.length_map, List.length_take, Nat.min_eq_left (by omega), Nat.zero_add])
      obtain ⟨y, hy⟩ : ∃ y, y = leftOf (x.l.map (·.1)) := ⟨_, rfl⟩
      obtain ⟨y1, hy1⟩ : ∃ y1, y1 = y.filter fun m => !deadF y fl0 m := ⟨_, rfl⟩
      obtain ⟨y2, hy2⟩ : ∃ y2, y2 = y1.filter fun m => decide (stC fl0 m.at_ < 0) := ⟨_, rfl⟩
      have hcx : cH fl0 x = y2 := by rw [hy2, hy1, hy]; rfl
      rw [hcx] at HTK
      have HGY := Lib.hid (show Good y 15 by rw [hy]; exact (leftOf_good _).more (HTS.out x hxm).1)
      have HGY1 := Lib.hid (show Good y1 15 by rw [hy1]; exact HGY.out.filter _)
      have HO := Lib.hid (fun W (h : RowKit.Below wr.heap.size wr W) => show Calls Tryz.prog 15 #[x.v] W (RetC y W) from by
        rw [hy]; exact c_of (HT.out.below (below_then HB0.out (Nat.le_refl _) (below_then hl.out (Nat.le_refl _) h))) ⟨x.l, rfl, (hvw.below h).ro x hxm⟩ (by have := (HTS.out x hxm).1; omega) (HTS.out x hxm).2)
      have hvf : vS fl0 = .agg #[.int .i64 sp, .int .i64 sl, .int .i64 sw] := congrArg vS HFL.out
      have HSW := Lib.hid (fun v W (hv : IsC y v W) => show Calls Tryz.prog 39 #[v, .agg #[.int .i64 sp, .int .i64 sl, .int .i64 sw]] W (RetC y1 W) from by
        rw [hy1, ← hvf]; exact c_sweep (n := 15) fl0 hv HGY.out (by decide))
      have HAB := Lib.hid (fun v W (hv : IsC y1 v W) => show Calls Tryz.prog 40 #[v, .agg #[.int .i64 sp, .int .i64 sl, .int .i64 sw]] W (RetC y2 W) from by
        rw [hy2, ← hvf]; exact c_above (n := 15) fl0 hv HGY1.out (by decide))
      have HAT := Lib.hid (fun W (h : RowKit.Below wr.heap.size wr W) => show AtT W xb (xoff + k * 5) x from by
        obtain ⟨b', o', e', h'⟩ := (hvw.below h).at_ hx
        cases e'
        exact h')
      have HSr := Lib.hid (HS.out.below hl.out)
      obtain ⟨xo, xc, ex, -, -⟩ := hxo.form
      clear hat hcx hy hy1 hy2 hx hxm hxo hvw hvf
      obtain ⟨xv, xl, ⟨fp, fl, fw⟩, xq⟩ := x
      simp only [] at ex
      obtain ⟨xn, hxn⟩ : ∃ k, k = xl.length := ⟨_, rfl⟩
      rw [← hxn] at ex
      subst ex
      clear hxn
      simp only [] at HO HTK
      have j0 : (0 : Int) ≤ (k : Int) := by omega
      have j1 : (k : Int) < (n : Int) := by omega
      have hwsz := hl.out.size
      go_wp2_with fail
      refine wp_region_told [] 15 [false, false, false, false, false, false, false, false, false, false, false, false, false, false, false, false, false, true, true, true, true, true, true, true, true, true, true, true, true, true, true, true, false, false, false, false, false, false, false, false, false, false, false, false, false, false, false, false, false, false, false, false, false, false, false, false, false, false, false, false, false, false, false, false, false, false, false, false, false, false, false, false, false, false, false, false, false, false, false, false, false, false, false, false, false, false, false, false, false, false, false, false]
        [sLit (u5),
    sLit (.int .i64 k),
    sLit (.slice (some ⟨xb, xoff, none⟩) n cap),
    sLit (.int .i64 k),
    sLit (.pointer (some ⟨xb, xoff + k * 5, none⟩)),
    sLit (.pointer (some ⟨xb, xoff + k * 5, none⟩)),
    sLit (.slice xo xn xc),
    sOne (IsC (y)) (fun _ _ _ h hb => h.below hb),
    sLit (.agg #[.int .i64 sp, .int .i64 sl, .int .i64 sw]),
    sOne (IsC (y1)) (fun _ _ _ h hb => h.below hb),
    sLit (.agg #[.int .i64 sp, .int .i64 sl, .int .i64 sw]),
    sOne (IsC (y2)) (fun _ _ _ h hb => h.below hb),
    sLit (.agg #[.int .i64 sp, .int .i64 sl, .int .i64 sw]),
    sOne (fun v W => ∃ a b d, v = vY ⟨(k : Int), 0, a, b, d, y2, ⟨sp, sl, sw⟩⟩ ∧ Lies W a b d y2) (fun _ _ _ h hb => h.elim fun a h => h.elim fun b h => h.elim fun d h => ⟨a, b, d, h.1, h.2.below hb⟩),
    sOne (fun v W => ∃ g a b d, v = .slice (some ⟨g, 0, none⟩) 1 1 ∧ YRow W v [⟨(k : Int), 0, a, b, d, y2, ⟨sp, sl, sw⟩⟩]) (fun _ _ _ h hb => h.elim fun g h => h.elim fun a h => h.elim fun b h => h.elim fun d h => ⟨g, a, b, d, h.1, h.2.below hb⟩)] (by kernel_rfl) (by kernel_rfl) (by kernel_rfl) (fun F hF => ?_)
      simp only [over, overL, Nat.reduceAdd] at hF
      obtain rfl := funext hF
      clear hF
      refine ⟨⟨?_, ?_, ?_, ?_, ?_, ?_, ?_, ?_, ?_, ?_, ?_, ?_, ?_, ?_, ?_, trivial⟩, ?_⟩
      · intro V W hb hd K hK _
        clear hd
        go_wp2_with fail
        refine hK _ _ ?_ ?_ ?_ ?_
        · rfl
        · exact Below.refl _ _
        · exact rfl
        · trivial
      · intro V W hb hd K hK _
        clear hd
        go_wp2_with fail
        refine hK _ _ ?_ ?_ ?_ ?_
        · rfl
        · exact Below.refl _ _
        · exact rfl
        · trivial
      · intro V W hb hd K hK _
        clear hd
        go_wp2_with fail
        refine hK _ _ ?_ ?_ ?_ ?_
        · rfl
        · exact Below.refl _ _
        · exact rfl
        · trivial
      · intro V W hb hd K hK _
        clear hd
        go_wp2_with fail
        refine hK _ _ ?_ ?_ ?_ ?_
        · rfl
        · exact Below.refl _ _
        · exact rfl
        · trivial
      · intro V W hb hd K hK _
        have h2 : (V 19) = .slice (some ⟨xb, xoff, none⟩) n cap := hd 2 (by kernel_rfl)
        have h3 : (V 20) = .int .i64 k := hd 3 (by kernel_rfl)
        clear hd
        go_wp2_with fail
        refine hK _ _ ?_ ?_ ?_ ?_
        · rfl
        · exact Below.refl _ _
        · exact rfl
        · trivial
      · intro V W hb hd K hK _
        have h4 : (V 21) = .pointer (some ⟨xb, xoff + k * 5, none⟩) := hd 4 (by kernel_rfl)
        clear hd
        go_wp2_with fail
        refine hK _ _ ?_ ?_ ?_ ?_
        · rfl
        · exact Below.refl _ _
        · exact rfl
        · trivial
      · intro V W hb hd K hK _
        have h5 : (V 22) = .pointer (some ⟨xb, xoff + k * 5, none⟩) := hd 5 (by kernel_rfl)
        clear hd
        obtain ⟨hbl, a0, a1, a2, a3, a4⟩ := HAT.out W hb
        simp only [] at a0 a1 a2 a3 a4
        go_wp2_with fail
        refine hK _ _ ?_ ?_ ?_ ?_
        · rfl
        · exact Below.refl _ _
        · exact rfl
        · trivial
      · intro V W hb hd K hK _
        have h6 : (V 23) = .slice xo xn xc := hd 6 (by kernel_rfl)
        clear hd
        go_wp2_with fail
        refine (HO.out W hb).mono ?_
        rintro e w1 ⟨v1, rfl, hv1, hb1⟩
        go_wp2_with fail
        refine hK _ _ ?_ ?_ ?_ ?_
        · rfl
        · exact hb1
        · exact hv1
        · trivial
      · intro V W hb hd K hK _
        clear hd
        have hS := HSr.out.below hb
        rw [HFL.out] at hS
        obtain ⟨-, s0, s1, s2, -⟩ := hS
        simp only [] at s0 s1 s2
        go_wp2_with fail
        refine hK _ _ ?_ ?_ ?_ ?_
        · rfl
        · exact Below.refl _ _
        · exact rfl
        · trivial
      · intro V W hb hd K hK _
        have h7 : IsC (y) (V 24) W := hd 7 (by kernel_rfl)
        have h8 : (V 25) = .agg #[.int .i64 sp, .int .i64 sl, .int .i64 sw] := hd 8 (by kernel_rfl)
        clear hd
        go_wp2_with fail
        refine (HSW.out _ W h7).mono ?_
        rintro e w1 ⟨v1, rfl, hv1, hb1⟩
        go_wp2_with fail
        refine hK _ _ ?_ ?_ ?_ ?_
        · rfl
        · exact hb1
        · exact hv1
        · trivial
      · intro V W hb hd K hK _
        clear hd
        have hS := HSr.out.below hb
        rw [HFL.out] at hS
        obtain ⟨-, s0, s1, s2, -⟩ := hS
        simp only [] at s0 s1 s2
        go_wp2_with fail
        refine hK _ _ ?_ ?_ ?_ ?_
        · rfl
        · exact Below.refl _ _
        · exact rfl
        · trivial
      · intro V W hb hd K hK _
        have h9 : IsC (y1) (V 26) W := hd 9 (by kernel_rfl)
        have h10 : (V 27) = .agg #[.int .i64 sp, .int .i64 sl, .int .i64 sw] := hd 10 (by kernel_rfl)
        clear hd
        go_wp2_with fail
        refine (HAB.out _ W h9).mono ?_
        rintro e w1 ⟨v1, rfl, hv1, hb1⟩
        go_wp2_with fail
        refine hK _ _ ?_ ?_ ?_ ?_
        · rfl
        · exact hb1
        · exact hv1
        · trivial
      · intro V W hb hd K hK _
        clear hd
        have hS := HSr.out.below hb
        rw [HFL.out] at hS
        obtain ⟨-, s0, s1, s2, -⟩ := hS
        simp only [] at s0 s1 s2
        go_wp2_with fail
        refine hK _ _ ?_ ?_ ?_ ?_
        · rfl
        · exact Below.refl _ _
        · exact rfl
        · trivial
      · intro V W hb hd K hK _
        have h1 : (V 18) = .int .i64 k := hd 1 (by kernel_rfl)
        have h11 : IsC (y2) (V 28) W := hd 11 (by kernel_rfl)
        have h12 : (V 29) = .agg #[.int .i64 sp, .int .i64 sl, .int .i64 sw] := hd 12 (by kernel_rfl)
        clear hd
        obtain ⟨p1, q1, r1, p2, q2, r2, p3, q3, r3, e6, hl6⟩ := h11.form
        clear h11
        go_wp2_with fail
        refine hK _ _ ?_ ?_ ?_ ?_
        · rfl
        · exact Below.refl _ _
        · exact ⟨_, _, _, rfl, hl6⟩
        · trivial
      · intro V W hb hd K hK _
        have h13 : ∃ a b d, (V 30) = vY ⟨(k : Int), 0, a, b, d, y2, ⟨sp, sl, sw⟩⟩ ∧ Lies W a b d y2 := hd 13 (by kernel_rfl)
        clear hd
        obtain ⟨a, b, d, e17, hl17⟩ := h13
        obtain ⟨⟨p1, q1, r1, e1⟩, ⟨p2, q2, r2, e2⟩, ⟨p3, q3, r3, e3⟩⟩ := LiesY.forms (x := ⟨(k : Int), 0, a, b, d, y2, ⟨sp, sl, sw⟩⟩) hl17
        simp only [] at e1 e2 e3
        subst e1 e2 e3
        unfold vY at e17
        simp only [] at e17
        have HL17 := Lib.hid hl17
        clear hl17
        go_wp2_with fail
        refine hK _ _ ?_ ?_ ?_ ?_
        · rfl
        · exact (Below.refl _ _).alloc (Nat.le_refl _) _
        · exact ⟨_, _, _, _, rfl, one_reply (x := ⟨(k : Int), 0, _, _, _, y2, ⟨sp, sl, sw⟩⟩) HL17.out⟩
        · trivial
      · intro V W hb hd hap
        have h0 : (V 17) = u5 := hd 0 (by decide)
        have h14 : ∃ g a b d, (V 31) = .slice (some ⟨g, 0, none⟩) 1 1 ∧ YRow W (V 31) [⟨(k : Int), 0, a, b, d, y2, ⟨sp, sl, sw⟩⟩] := hd 14 (by decide)
        clear hd hap
        simp only [List.drop_succ_cons, List.drop_zero]
        obtain ⟨g, a, b, d, e30, hone⟩ := h14
        rw [e30] at hone
        have HON := Lib.hid hone
        have HGA := Lib.hid (hgr.out.below hb)
        have HW := Lib.hid (below_then hl.out (Nat.le_refl _) hb)
        have hsz := HW.out.size
        clear hone hb
        go_wp2_with (at_builtin; refine wpList_append_replies rfl (.tmp 17) (.tmp 31) rfl Tryz.underlying54 info_Reply W0.heap.size u5 k _ (by first | exact h0 | rfl) HGA.out.row ⟨g, 0, none⟩ 1 1 [⟨(k : Int), 0, a, b, d, y2, ⟨sp, sl, sw⟩⟩] (by first | exact e30 | rfl) HON.out.row (fun x hx => LiesY.forms (HON.out.con x hx)) (Or.inl (by decide)) (by omega) hsz ?_)
        intro v4 w4 hsp hg4 hkp hloc
        have HX1 := Lib.hid (HON.out.con _ (List.mem_singleton.2 rfl))
        have HG4 := Lib.hid (HGA.out.more HNB.out HX1.out hsp hg4)
        have HW4 := Lib.hid (HGA.out.belowB HW.out hg4 hsz)
        have HR4 := Lib.hid (show (R ++ [(⟨(k : Int), 0, a, b, d, y2, ⟨sp, sl, sw⟩⟩ : Ry)]).map core3 = idx fl0 0 ((T.take (k + 1)).map (cH fl0)) by rw [List.map_append, hrow.out, HTK.out, HFL.out]; rfl)
        clear hsp hg4 hkp hloc e30 HGA HW HON
        go_wp2_with fail
        go_roundw
        case rel => exact ⟨k + 1, _, by omega, by go_num, HR4, HG4, HW4⟩
        case measure => simp [intOf]; omega
    · obtain rfl : k = n := by omega
      have hR0 : R.map core3 = idx fl0 0 (T.map (cH fl0)) := by have h := hrow.out; rw [List.take_of_length_le (by have := HN.out; omega)] at h; exact h
      have hH : Heals fl0 0 15 (T.map (cH fl0)) R := ⟨hR0, fun c hc => by
        obtain ⟨x, hx, rfl⟩ := List.mem_map.1 hc
        exact cH_good (HTS.out x hx).1, fun c hc m hm => by
        obtain ⟨x, hx, rfl⟩ := List.mem_map.1 hc
        have h := (Con.mem_filter.1 hm).2
        simpa using h⟩
      obtain ⟨cs, hcs⟩ : ∃ cs, cs = T.map (cH fl0) := ⟨_, rfl⟩
      rw [← hcs] at hH hR0
      have hlc : cs.length = k := by rw [hcs, List.length_map]; exact HN.out.symm
      have hlR : R.length = k := hgr.out.len.symm
      have HGR := Lib.hid (show ∀ x ∈ R, Good x.c 15 from fun x hx => hH.good _ (by rw [← (idx_con hR0).1]; exact List.mem_map.2 ⟨x, hx, rfl⟩))
      have HH := Lib.hid hH
      have HLC := Lib.hid hlc
      have HR0 := Lib.hid hR0
      have HFF := Lib.hid (fixes_any _ R 15 wr (HT.out.below (below_then HB0.out (Nat.le_refl _) hl.out)) hgr.out.yrow HGR.out (by omega) (by omega))
      obtain ⟨va, hva⟩ : ∃ va : Value, va = u5 := ⟨_, rfl⟩
      obtain ⟨ro, rc, eu, -, -⟩ := hgr.out.yrow.form
      rw [hlR] at eu
      subst eu
      clear hva hcs hH hlc hlR hR0
      go_wp2_with fail
      refine HFF.out.mono ?_
      rintro e w5 ⟨vF, F, rfl, eF, hF, hFr, hb5⟩
      obtain ⟨fo, fc, rfl, hfc1, hfc2⟩ := hF.form
      obtain ⟨nF, hnF⟩ : ∃ k, k = F.length := ⟨_, rfl⟩
      rw [← hnF] at hF hfc1 ⊢
      unfold maxLen at hfc2
      have hnF63 : nF ≤ 9223372036854775807 := by omega
      have hnF6 : nF ≤ 15 * 6 * 6 := by
        have h1 := HH.out.count
        have h2 := congrArg List.length eF
        rw [List.length_map] at h2
        rw [HLC.out] at h1
        have h3 : 15 * k * k ≤ 15 * 6 * 6 := Nat.mul_le_mul (Nat.mul_le_mul (Nat.le_refl _) hn6) hn6
        omega
      obtain ⟨L, hL⟩ : ∃ L, L = fixF R := ⟨_, rfl⟩
      rw [← hL] at eF
      have HLE := Lib.hid hL
      have HEF := Lib.hid (show F.map fxM = L from eF)
      have HF := Lib.hid hF
      have HFR := Lib.hid hFr
      have HNF := Lib.hid hnF
      have HG5 := Lib.hid (hgr.out.below hb5)
      have HB5 := Lib.hid (below_then hl.out (Nat.le_refl _) hb5)
      have HTold := Lib.hid (show ∀ x ∈ L, (0 ≤ x.1 ∧ x.1 < (k : Int)) ∧ stC fl0 x.2.at_ < 0 from fun x hx => by
        have h := HH.out.told x (by rw [← hL]; exact hx)
        rw [HLC.out] at h
        exact h)
      have HSt := Lib.hid HS.out
      clear hL eF hF hFr hnF hb5 HFF hgr hl hrow HGR
      go_wp2_with fail
      go_loopw [8] (fun iv wr => ∃ (j : Nat) (cs' : List Con) (R' : List Ry), j ≤ nF ∧ iv = .int .i64 j ∧ Hid (R'.map core3 = idx fl0 0 cs') ∧ Hid ((L.drop j).foldl putH cs' = L.foldl putH cs) ∧ Hid (∀ c ∈ cs', Good c (15 + j)) ∧ Hid (cs'.length = k) ∧ Hid (GrowY wr W0.heap.size 81 (.slice ro k rc) k R') ∧ Hid (FRow wr (.slice fo nF fc) F) ∧ Hid (RowKit.Below W0.heap.size W0 wr)) (fun iv _ => nF - (intOf iv).toNat)
      case atStart => exact ⟨0, cs, R, by omega, rfl, HR0, Lib.hid rfl, Lib.hid HH.out.good, HLC, HG5, HF, HB5⟩
      case round =>
        clear HG5 HF HB5
        obtain ⟨j, cs', R', hj, rfl, hrow, hput, hgd, hlen, hgr, hfr, hl⟩ := hrel
        by_cases hlt2 : j < nF
        · have hjf : j < F.length := by have := HNF.out; omega
          obtain ⟨f, hf⟩ : ∃ x, F[j]? = some x := ⟨_, List.getElem?_eq_getElem hjf⟩
          have hLj : L[j]? = some (fxM f) := by rw [← HEF.out, List.getElem?_map, hf]; rfl
          have hjL : j < L.length := (List.getElem?_eq_some_iff.1 hLj).1
          have hLe : L[j] = fxM f := (List.getElem?_eq_some_iff.1 hLj).2
          have htold := HTold.out (fxM f) (List.mem_of_getElem? hLj)
          have hfm := List.mem_of_getElem? hf
          have hfo := hfr.out.over f hfm
          have hfR := HFR.out f hfm
          obtain ⟨fb, foff, hfo1, hfb, c0, hfat⟩ := hfr.out.at_ hf
          cases hfo1
          have hst := hput.out
          rw [List.drop_eq_getElem_cons hjL, List.foldl_cons, hLe] at hst
          obtain ⟨yo, yc, ey, -, -⟩ := Over.form hfo
          obtain ⟨ft, fm, fv⟩ := f
          simp only [] at ey hfo hfat c0 hfR
          unfold fxM at hst htold
          simp only [] at hst htold
          obtain ⟨tk, hto⟩ : ∃ tk : Nat, ft = (tk : Int) := ⟨ft.toNat, (Int.toNat_of_nonneg htold.1.1).symm⟩
          subst hto
          have htk : tk < k := by have := htold.1.2; omega
          have hkR : k = R'.length := hgr.out.len
          obtain ⟨x, hx⟩ : ∃ x, R'[tk]? = some x := ⟨_, List.getElem?_eq_getElem (by omega)⟩
          have hxm := List.mem_of_getElem? hx
          have hxg : Good x.c (15 + j) := hgd.out _ (by rw [← (idx_con hrow.out).1]; exact List.mem_map.2 ⟨x, hxm, rfl⟩)
          obtain ⟨g, hgo⟩ : ∃ g, ro = some ⟨g, 0, none⟩ := by
            rcases hgr.out.row.own.2 with ⟨_, h0⟩ | ⟨g, cp, cur, h0, -⟩
            · omega
            · simp only [Value.slice.injEq] at h0
              exact ⟨g, h0.1⟩
          subst hgo
          have hxl := hgr.out.con x hxm
          have hget := hgr.out.yrow.get (k := tk) (by omega)
          obtain ⟨gb, goff, hg0, hgl, x0, x1, x2, x3, x4, x5, x6, x7⟩ := hget
          have hxe : R'[tk] = x := (List.getElem?_eq_some_iff.1 hx).2
          rw [hxe] at x0 x1 x2 x3 x4 x5 x6 x7
          simp only [Option.some.injEq, Addr.mk.injEq, and_true] at hg0
          obtain ⟨rfl, rfl⟩ := hg0
          simp only [Nat.zero_add] at x0 x1 x2 x3 x4 x5 x6 x7
          obtain ⟨⟨o1, n1, c1, e1⟩, ⟨o2, n2, c2, e2⟩, ⟨o3, n3, c3, e3⟩⟩ := LiesY.forms hxl
          have HXC := Lib.hid (fun W (h : RowKit.Below wr.heap.size wr W) => show W.cell? ⟨g, tk * 8 + 2, none⟩ = some (.slice o1 n1 c1) ∧ W.cell? ⟨g, tk * 8 + 2 + 1, none⟩ = some (.slice o2 n2 c2) ∧ W.cell? ⟨g, tk * 8 + 2 + 2, none⟩ = some (.slice o3 n3 c3) from
            ⟨(h.cell (p := ⟨g, tk * 8 + 2, none⟩) hgl).trans (x2.trans (congrArg some e1)), (h.cell (p := ⟨g, tk * 8 + 2 + 1, none⟩) hgl).trans (x3.trans (congrArg some e2)), (h.cell (p := ⟨g, tk * 8 + 2 + 2, none⟩) hgl).trans (x4.trans (congrArg some e3))⟩)
          have HXL := Lib.hid (show Lies wr (.slice o1 n1 c1) (.slice o2 n2 c2) (.slice o3 n3 c3) x.c by rw [← e1, ← e2, ← e3]; exact hxl)
          have HFA := Lib.hid (fun W' (h : RowKit.Below wr.heap.size wr W') => And.intro ((h.cell (p := ⟨fb, foff + j * 11, none⟩) hfb).trans c0) (hfat.below h))
          obtain ⟨z, hz⟩ : ∃ z : Con, z = addC x.c fm := ⟨_, rfl⟩
          have HAD := Lib.hid (fun v W (hv : IsC x.c v W) (h : RowKit.Below wr.heap.size wr W) => show Calls Tryz.prog 17 #[v, vM (fm, fv)] W (RetC z W) from by
            rw [hz]
            exact c_add (n := 15 + j) (x := (fm, fv)) (HT.out.below (below_then HB0.out (Nat.le_refl _) (below_then hl.out (Nat.le_refl _) h))) hv hxg (by omega) (hfo.below h) (small_right hfR))
          have HST := Lib.hid (show (L.drop (j + 1)).foldl putH (putAt cs' tk fm) = L.foldl putH cs from hst)
          have HRW := Lib.hid (fun (a b d : Value) => show (R'.set tk ⟨x.from_, x.no, a, b, d, z, x.f⟩).map core3 = idx fl0 0 (putAt cs' tk fm) from idx_put fm hrow.out tk x _ hx rfl rfl hz)
          have HGD := Lib.hid (show ∀ c ∈ putAt cs' tk fm, Good c (15 + (j + 1)) from putAt_good fm cs' tk hgd.out)
          have HLN := Lib.hid (show (putAt cs' tk fm).length = k by rw [putAt_len]; exact hlen.out)
          have HX := Lib.hid hx
          clear hst hf hLj hjL hLe hfm hfo hfR hfat c0 hrow hput hgd hlen hxm hxg hxl hgl x0 x1 x2 x3 x4 x5 x6 x7 e1 e2 e3 hz hxe hx hkR
          obtain ⟨at1, ak1, akey1, afin1, aval1, aex1, ⟨ap1, al1, aw1⟩, aov1⟩ := fm
          simp only [] at ey
          obtain ⟨yn, hyn⟩ : ∃ k, k = aov1.length := ⟨_, rfl⟩
          rw [← hyn] at ey
          subst ey
          clear hyn htold
          unfold vM at HAD
          simp only [] at HAD
          have j0 : (0 : Int) ≤ (j : Int) := by omega
          have j1 : (j : Int) < (nF : Int) := by omega
          have i0 : (0 : Int) ≤ (tk : Int) := by omega
          have i1 : (tk : Int) < (k : Int) := by omega
          have i2 : decide ((tk : Int) < 0) = false := decide_eq_false (by omega)
          have i3 : decide ((k : Int) ≤ (tk : Int)) = false := decide_eq_false (by omega)
          have i4 : decide ((tk : Int) ≥ (k : Int)) = false := decide_eq_false (by omega)
          obtain ⟨c0, hA⟩ := HFA.out wr (Below.refl _ _)
          clear hA
          go_upto_region 14 with fail
          go_wp2_with fail
          refine wp_region_told [] 21 [false, false, false, false, false, false, false, false, false, false, false, false, false, false, false, false, false, false, false, false, false, false, false, false, false, false, false, false, false, false, false, false, false, false, false, false, false, false, false, false, false, false, false, false, false, false, false, false, false, false, false, false, false, false, false, false, false, true, true, true, true, true, true, true, true, true, true, true, true, true, true, true, true, true, true, true, true, true, false, false, false, false, false, false, false, false, false, false, false, false, false, false]
            [sLit (.slice (some ⟨g, 0, none⟩) k rc),
    sLit (.slice (some ⟨fb, foff, none⟩) nF fc),
    sLit (.int .i64 j),
    sLit (.pointer (some ⟨fb, foff + j * 11, none⟩)),
    sLit (.pointer (some ⟨fb, foff + j * 11, none⟩)),
    sLit (.int .i64 tk),
    sLit (.slice (some ⟨g, 0, none⟩) k rc),
    sLit (.slice (some ⟨fb, foff, none⟩) nF fc),
    sLit (.int .i64 j),
    sLit (.pointer (some ⟨fb, foff + j * 11, none⟩)),
    sLit (.pointer (some ⟨fb, foff + j * 11, none⟩)),
    sLit (.int .i64 tk),
    sLit (.pointer (some ⟨g, tk * 8, none⟩)),
    sLit (.pointer (some ⟨g, tk * 8 + 2, none⟩)),
    sLit (.agg #[.slice o1 n1 c1, .slice o2 n2 c2, .slice o3 n3 c3]),
    sLit (.slice (some ⟨fb, foff, none⟩) nF fc),
    sLit (.int .i64 j),
    sLit (.pointer (some ⟨fb, foff + j * 11, none⟩)),
    sLit (.pointer (some ⟨fb, foff + j * 11 + 1, none⟩)),
    sLit (.agg #[.int .i64 at1, .int .i64 ak1, .string akey1, .string afin1, .string aval1, .int .i64 aex1, .int .i64 ap1, .int .i64 al1, .int .i64 aw1, .slice yo yn yc]),
    sOne (IsC (z)) (fun _ _ _ h hb => h.below hb)] (by kernel_rfl) (by kernel_rfl) (by kernel_rfl) (fun F hF => ?_)
          simp only [over, overL, Nat.reduceAdd] at hF
          obtain rfl := funext hF
          clear hF
          refine ⟨⟨?_, ?_, ?_, ?_, ?_, ?_, ?_, ?_, ?_, ?_, ?_, ?_, ?_, ?_, ?_, ?_, ?_, ?_, ?_, ?_, ?_, trivial⟩, ?_⟩
          · intro V W hb hd K hK _
            clear hd
            go_wp2_with fail
            refine hK _ _ ?_ ?_ ?_ ?_
            · rfl
            · exact Below.refl _ _
            · exact rfl
            · trivial
          · intro V W hb hd K hK _
            clear hd
            go_wp2_with fail
            refine hK _ _ ?_ ?_ ?_ ?_
            · rfl
            · exact Below.refl _ _
            · exact rfl
            · trivial
          · intro V W hb hd K hK _
            clear hd
            go_wp2_with fail
            refine hK _ _ ?_ ?_ ?_ ?_
            · rfl
            · exact Below.refl _ _
            · exact rfl
            · trivial
          · intro V W hb hd K hK _
            have h1 : (V 58) = .slice (some ⟨fb, foff, none⟩) nF fc := hd 1 (by kernel_rfl)
            have h2 : (V 59) = .int .i64 j := hd 2 (by kernel_rfl)
            clear hd
            go_wp2_with fail
            refine hK _ _ ?_ ?_ ?_ ?_
            · rfl
            · exact Below.refl _ _
            · exact rfl
            · trivial
          · intro V W hb hd K hK _
            have h3 : (V 60) = .pointer (some ⟨fb, foff + j * 11, none⟩) := hd 3 (by kernel_rfl)
            clear hd
            go_wp2_with fail
            refine hK _ _ ?_ ?_ ?_ ?_
            · rfl
            · exact Below.refl _ _
            · exact rfl
            · trivial
          · intro V W hb hd K hK _
            have h4 : (V 61) = .pointer (some ⟨fb, foff + j * 11, none⟩) := hd 4 (by kernel_rfl)
            clear hd
            obtain ⟨c0, hA⟩ := HFA.out W hb
            go_wp2_with fail
            refine hK _ _ ?_ ?_ ?_ ?_
            · rfl
            · exact Below.refl _ _
            · exact rfl
            · trivial
          · intro V W hb hd K hK _
            clear hd
            go_wp2_with fail
            refine hK _ _ ?_ ?_ ?_ ?_
            · rfl
            · exact Below.refl _ _
            · exact rfl
            · trivial
          · intro V W hb hd K hK _
            clear hd
            go_wp2_with fail
            refine hK _ _ ?_ ?_ ?_ ?_
            · rfl
            · exact Below.refl _ _
            · exact rfl
            · trivial
          · intro V W hb hd K hK _
            clear hd
            go_wp2_with fail
            refine hK _ _ ?_ ?_ ?_ ?_
            · rfl
            · exact Below.refl _ _
            · exact rfl
            · trivial
          · intro V W hb hd K hK _
            have h7 : (V 64) = .slice (some ⟨fb, foff, none⟩) nF fc := hd 7 (by kernel_rfl)
            have h8 : (V 65) = .int .i64 j := hd 8 (by kernel_rfl)
            clear hd
            go_wp2_with fail
            refine hK _ _ ?_ ?_ ?_ ?_
            · rfl
            · exact Below.refl _ _
            · exact rfl
            · trivial
          · intro V W hb hd K hK _
            have h9 : (V 66) = .pointer (some ⟨fb, foff + j * 11, none⟩) := hd 9 (by kernel_rfl)
            clear hd
            go_wp2_with fail
            refine hK _ _ ?_ ?_ ?_ ?_
            · rfl
            · exact Below.refl _ _
            · exact rfl
            · trivial
          · intro V W hb hd K hK _
            have h10 : (V 67) = .pointer (some ⟨fb, foff + j * 11, none⟩) := hd 10 (by kernel_rfl)
            clear hd
            obtain ⟨c0, hA⟩ := HFA.out W hb
            go_wp2_with fail
            refine hK _ _ ?_ ?_ ?_ ?_
            · rfl
            · exact Below.refl _ _
            · exact rfl
            · trivial
          · intro V W hb hd K hK _
            have h6 : (V 63) = .slice (some ⟨g, 0, none⟩) k rc := hd 6 (by kernel_rfl)
            have h11 : (V 68) = .int .i64 tk := hd 11 (by kernel_rfl)
            clear hd
            go_wp2_with fail
            refine hK _ _ ?_ ?_ ?_ ?_
            · rfl
            · exact Below.refl _ _
            · exact rfl
            · trivial
          · intro V W hb hd K hK _
            have h12 : (V 69) = .pointer (some ⟨g, tk * 8, none⟩) := hd 12 (by kernel_rfl)
            clear hd
            go_wp2_with fail
            refine hK _ _ ?_ ?_ ?_ ?_
            · rfl
            · exact Below.refl _ _
            · exact rfl
            · trivial
          · intro V W hb hd K hK _
            have h13 : (V 70) = .pointer (some ⟨g, tk * 8 + 2, none⟩) := hd 13 (by kernel_rfl)
            clear hd
            obtain ⟨x2, x3, x4⟩ := HXC.out W hb
            go_wp2_with fail
            refine hK _ _ ?_ ?_ ?_ ?_
            · rfl
            · exact Below.refl _ _
            · exact rfl
            · trivial
          · intro V W hb hd K hK _
            clear hd
            go_wp2_with fail
            refine hK _ _ ?_ ?_ ?_ ?_
            · rfl
            · exact Below.refl _ _
            · exact rfl
            · trivial
          · intro V W hb hd K hK _
            clear hd
            go_wp2_with fail
            refine hK _ _ ?_ ?_ ?_ ?_
            · rfl
            · exact Below.refl _ _
            · exact rfl
            · trivial
          · intro V W hb hd K hK _
            have h15 : (V 72) = .slice (some ⟨fb, foff, none⟩) nF fc := hd 15 (by kernel_rfl)
            have h16 : (V 73) = .int .i64 j := hd 16 (by kernel_rfl)
            clear hd
            go_wp2_with fail
            refine hK _ _ ?_ ?_ ?_ ?_
            · rfl
            · exact Below.refl _ _
            · exact rfl
            · trivial
          · intro V W hb hd K hK _
            have h17 : (V 74) = .pointer (some ⟨fb, foff + j * 11, none⟩) := hd 17 (by kernel_rfl)
            clear hd
            go_wp2_with fail
            refine hK _ _ ?_ ?_ ?_ ?_
            · rfl
            · exact Below.refl _ _
            · exact rfl
            · trivial
          · intro V W hb hd K hK _
            have h18 : (V 75) = .pointer (some ⟨fb, foff + j * 11 + 1, none⟩) := hd 18 (by kernel_rfl)
            clear hd
            obtain ⟨c0, hA⟩ := HFA.out W hb
            obtain ⟨hbl3, a0, a1, a2, a3, a4, a5, a6, a7, a8, a9⟩ := hA
            simp only [] at a0 a1 a2 a3 a4 a5 a6 a7 a8 a9
            go_wp2_with fail
            refine hK _ _ ?_ ?_ ?_ ?_
            · rfl
            · exact Below.refl _ _
            · exact rfl
            · trivial
          · intro V W hb hd K hK _
            have h14 : (V 71) = .agg #[.slice o1 n1 c1, .slice o2 n2 c2, .slice o3 n3 c3] := hd 14 (by kernel_rfl)
            have h19 : (V 76) = .agg #[.int .i64 at1, .int .i64 ak1, .string akey1, .string afin1, .string aval1, .int .i64 aex1, .int .i64 ap1, .int .i64 al1, .int .i64 aw1, .slice yo yn yc] := hd 19 (by kernel_rfl)
            clear hd
            go_wp2_with fail
            refine (HAD.out _ W (HXL.out.below hb).is hb).mono ?_
            rintro e w1 ⟨v1, rfl, hv1, hb1⟩
            go_wp2_with fail
            refine hK _ _ ?_ ?_ ?_ ?_
            · rfl
            · exact hb1
            · exact hv1
            · trivial
          · intro V W hb hd hap
            have h0 : (V 57) = .slice (some ⟨g, 0, none⟩) k rc := hd 0 (by decide)
            have h5 : (V 62) = .int .i64 tk := hd 5 (by decide)
            have h20 : IsC (z) (V 77) W := hd 20 (by decide)
            clear hd hap
            simp only [List.drop_succ_cons, List.drop_zero]
            obtain ⟨o4, n4, c4, o5, n5, c5, o6, n6, c6, e77, hlz⟩ := h20.form
            have HLZ := Lib.hid hlz
            have HGW := Lib.hid (hgr.out.below hb)
            have HFW := Lib.hid (hfr.out.below hb)
            have HBW := Lib.hid (below_then hl.out (Nat.le_refl _) hb)
            obtain ⟨x2, x3, x4⟩ := HXC.out W hb
            have f2 := HGW.out.row.own.frozenAt (tk * 8 + 2)
            have f3 := HGW.out.row.own.frozenAt (tk * 8 + 2 + 1)
            have f4 := HGW.out.row.own.frozenAt (tk * 8 + 2 + 2)
            clear hlz h20 hb hgr hfr hl
            go_wp2_with fail
            have hpt := growY_put HGW.out HNB.out HX.out HLZ.out
            have HP := Lib.hid hpt.1
            have HFP := Lib.hid (frow_keptZ HFW.out HNB.out HGW.out.row (plain_Y HGW.out.forms) hpt.2)
            have HBP := Lib.hid (HGW.out.belowB HBW.out hpt.2 HBW.out.size)
            clear hpt x2 x3 x4 f2 f3 f4
            go_roundw
            case rel => exact ⟨j + 1, _, _, by omega, by go_num, Lib.hid (HRW.out _ _ _), HST, HGD, HLN, HP, HFP, HBP⟩
            case measure => simp [intOf]; omega
        · obtain rfl : j = nF := by omega
          have hE : cs' = L.foldl putH cs := by
            have h := hput.out
            have h2 : L.drop j = [] := List.drop_of_length_le (by have := HNF.out; have h3 := congrArg List.length HEF.out; rw [List.length_map] at h3; omega)
            rw [h2] at h
            exact h
          have hR' : R'.map core3 = idx fl0 0 ((fixF R).foldl putH cs) := by rw [← HLE.out, ← hE]; exact hrow.out
          have hdone := HH.out.done hR'
          have hG' : ∀ x ∈ R', Good x.c 90 := fun x hx => by
            have h := HH.out.final x.c (by rw [← HLE.out, ← hE, ← (idx_con hrow.out).1]; exact List.mem_map.2 ⟨x, hx, rfl⟩)
            rw [HLC.out] at h
            exact h.more (by omega)
          have hlR : R'.length = k := hgr.out.len.symm
          have HF2 := Lib.hid (fixes_any _ R' 90 wr (HT.out.below (below_then HB0.out (Nat.le_refl _) hl.out)) hgr.out.yrow hG' (by omega) (by omega))
          rw [hdone] at HF2
          have HLT := Lib.hid (fun W (h : RowKit.Below wr.heap.size wr W) => show Calls Tryz.prog 41 #[_, .agg #[.int .i64 sp, .int .i64 sl, .int .i64 sw]] W (RetB true W) from by
            have h1 := later_any _ F fl0 W (hfr.out.below h) (fun x hx => (HTold.out (fxM x) (by rw [← HEF.out]; exact List.mem_map.2 ⟨x, hx, rfl⟩)).2)
            rw [HFL.out] at h1
            exact h1)
          have HAl := Lib.hid (fun W (h : RowKit.Below wr.heap.size wr W) => alive29_any W (HT.out.below (below_then HB0.out (Nat.le_refl _) (below_then hl.out (Nat.le_refl _) h))))
          have HSr := Lib.hid (HS.out.below hl.out)
          clear hE hR' hdone hG' hlR hgr hfr hrow hput hgd hlen
          go_wp2_with fail
          refine HF2.out.mono ?_
          rintro e w6 ⟨v6, F6, rfl, e6, hF6, -, hb6⟩
          obtain ⟨g6, k6, rfl, -, -⟩ := hF6.form
          have hl6 : F6.length = 0 := by have := congrArg List.length e6; simpa using this
          rw [hl6]
          have hS := HSr.out.below hb6
          rw [HFL.out] at hS
          obtain ⟨-, s0, s1, s2, -⟩ := hS
          simp only [] at s0 s1 s2
          have HB6 := Lib.hid hb6
          clear hF6 e6 hl6 hb6
          go_wp2_with fail
          refine (HLT.out w6 HB6.out).mono ?_
          rintro e w7 ⟨rfl, hb7⟩
          have HB7 := Lib.hid (below_then HB6.out (Nat.le_refl _) hb7)
          clear hb7 s0 s1 s2
          go_wp2_with fail
          refine (HAl.out w7 HB7.out).mono ?_
          rintro e w8 ⟨rfl, hb8⟩
          go_wp2_with fail
          go_ret
          exact ⟨rfl, below_then HB0.out (Nat.le_refl _) (below_then hl.out (Nat.le_refl _) (below_then HB7.out (Nat.le_refl _) hb8))⟩
end Go.Proofs.YtipoeigehabbmaaGreatDoor.Mut
