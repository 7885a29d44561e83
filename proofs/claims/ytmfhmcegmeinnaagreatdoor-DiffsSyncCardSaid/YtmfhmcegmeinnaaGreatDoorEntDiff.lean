/- The walks of rows of entries (layer 36): diffs.walk, diffs.Diff. -/
import Derived.Test.YtmfhmcegmeinnaaGreatDoorEntRow
import Derived.Deep.AppendLies
import Derived.Deep.RegionLaw
import Derived.Deep.CutBlock
set_option linter.unusedSimpArgs false
set_option linter.unusedVariables false
namespace Go.Proofs.YtmfhmcegmeinnaaGreatDoor.Diffs
open Go.RowKit Go.Proofs.YtmfhmcegmeinnaaGreatDoor.Cmp

/-- What parts two rows: the first's own, the second's own, both's. -/
def walkF : List Ent → List Ent → List Ent × List Ent × List Ent
  | [], [] => ([], [], [])
  | x :: a, [] => (x :: (walkF a []).1, (walkF a []).2.1, (walkF a []).2.2)
  | [], y :: b => ((walkF [] b).1, y :: (walkF [] b).2.1, (walkF [] b).2.2)
  | x :: a, y :: b =>
    if entC x y < 0 then (x :: (walkF a (y :: b)).1, (walkF a (y :: b)).2.1, (walkF a (y :: b)).2.2)
    else if 0 < entC x y then ((walkF (x :: a) b).1, y :: (walkF (x :: a) b).2.1, (walkF (x :: a) b).2.2)
    else ((walkF a b).1, (walkF a b).2.1, x :: (walkF a b).2.2)
termination_by a b => a.length + b.length

theorem nz {n : Nat} (h : 0 < n) : ((n : Int) == 0) = false := by
  cases n with
  | zero => omega
  | succ n => rfl
theorem iz {n : Nat} (h : ¬ 0 < n) : ((n : Int) == 0) = true := by
  obtain rfl : n = 0 := by omega
  rfl
def lenV : Value → Nat
  | .slice _ n _ => n
  | _ => 0
/-- Which way the walk takes, and what is left. -/
inductive Way (a b : List Ent) (c : Int) : Prop
  | one (x : Ent) (t : List Ent) (ha : a = x :: t) (hc : c < 0) (h : walkF a b = (x :: (walkF t b).1, (walkF t b).2.1, (walkF t b).2.2))
  | two (y : Ent) (u : List Ent) (hb : b = y :: u) (hc : 0 < c) (h : walkF a b = ((walkF a u).1, y :: (walkF a u).2.1, (walkF a u).2.2))
  | both (x y : Ent) (t u : List Ent) (ha : a = x :: t) (hb : b = y :: u) (hc : c = 0) (h : walkF a b = ((walkF t u).1, (walkF t u).2.1, x :: (walkF t u).2.2))
theorem way_left (x : Ent) (t : List Ent) : Way (x :: t) [] (-1) := .one x t rfl (by omega) (by rw [walkF])
theorem way_right (y : Ent) (u : List Ent) : Way [] (y :: u) 1 := .two y u rfl (by omega) (by rw [walkF])
theorem way_both (x y : Ent) (t u : List Ent) : Way (x :: t) (y :: u) (entC x y) := by
  by_cases h1 : entC x y < 0
  · exact .one x t rfl h1 (by rw [walkF, if_pos h1])
  · by_cases h2 : 0 < entC x y
    · exact .two y u rfl h2 (by rw [walkF, if_neg h1, if_pos h2])
    · exact .both x y t u rfl rfl (by omega) (by rw [walkF, if_neg h1, if_neg h2])

/-- Three rows of the call's own, none in another's block. -/
structure Three (w : World) (base : Nat) (v1 v2 v3 : Value) (o1 o2 o3 : List Ent) : Prop where
  r1 : w.ownsRow base 72 4 v1 o1.length (o1.flatMap enE)
  r2 : w.ownsRow base 72 4 v2 o2.length (o2.flatMap enE)
  r3 : w.ownsRow base 72 4 v3 o3.length (o3.flatMap enE)
  d12 : ∀ g, v1.ownBlock = some g → v2.ownBlock ≠ some g
  d13 : ∀ g, v1.ownBlock = some g → v3.ownBlock ≠ some g
  d23 : ∀ g, v2.ownBlock = some g → v3.ownBlock ≠ some g
/-- The loop's state. -/
structure Walk (w wr : World) (a b : List Ent) (va vb v1 v2 v3 : Value) (a' b' o1 o2 o3 : List Ent) : Prop where
  ra : ERow w va a'
  rb : ERow w vb b'
  t : Three wr w.heap.size v1 v2 v3 o1 o2 o3
  n1 : o1.length + a'.length ≤ 1000
  n2 : o2.length + b'.length ≤ 1000
  n3 : o3.length + a'.length ≤ 1000
  e1 : o1 ++ (walkF a' b').1 = (walkF a b).1
  e2 : o2 ++ (walkF a' b').2.1 = (walkF a b).2.1
  e3 : o3 ++ (walkF a' b').2.2 = (walkF a b).2.2
  bl : Below w.heap.size w wr

theorem Three.below {w w' : World} {base : Nat} {v1 v2 v3 : Value} {o1 o2 o3 : List Ent} (h : Three w base v1 v2 v3 o1 o2 o3) (hb : Below w.heap.size w w') : Three w' base v1 v2 v3 o1 o2 o3 :=
  ⟨World.ownsRow.kept h.r1 (row := none) ⟨hb.os, hb.tape, hb.output, hb.size, fun i hi _ => hb.block i hi⟩ (by cases v1.ownBlock <;> simp),
   World.ownsRow.kept h.r2 (row := none) ⟨hb.os, hb.tape, hb.output, hb.size, fun i hi _ => hb.block i hi⟩ (by cases v2.ownBlock <;> simp),
   World.ownsRow.kept h.r3 (row := none) ⟨hb.os, hb.tape, hb.output, hb.size, fun i hi _ => hb.block i hi⟩ (by cases v3.ownBlock <;> simp), h.d12, h.d13, h.d23⟩

section
variable {w wr W w' : World} {base : Nat} {a b a' b' o1 o2 o3 : List Ent} {va vb v1 v2 v3 : Value} {x y : Ent} {g cap : Nat}
theorem far {v v' : Value} {n : Nat} {xs : List Value} (h2 : W.ownsRow base 72 4 v' n xs) (hat : v.ownBlock = some g ∨ g = W.heap.size) (hd : ∀ g, v.ownBlock = some g → v'.ownBlock ≠ some g) : v'.ownBlock ≠ some g := by
  rcases hat with h | h
  · exact hd g h
  · intro h3
    have := (World.ownsRow.lt h2 g h3).2
    omega
theorem keep {v v' : Value} {n : Nat} {xs : List Value} (h2 : W.ownsRow base 72 4 v' n xs) (hg : W.grownBy w' v.ownBlock) (hd : ∀ g, v.ownBlock = some g → v'.ownBlock ≠ some g) : w'.ownsRow base 72 4 v' n xs := by
  refine World.ownsRow.kept h2 hg ?_
  cases h : v'.ownBlock with
  | none => exact Or.inl rfl
  | some k => exact Or.inr fun h3 => hd k h3.symm h
theorem Three.grow1 (h : Three W base v1 v2 v3 o1 o2 o3) (h2 : w'.ownsRow base 72 4 (.slice (some ⟨g, 0, none⟩) (o1.length + 1) cap) (o1.length + 1) (o1.flatMap enE ++ enE x)) (hg : W.grownBy w' v1.ownBlock) (hat : v1.ownBlock = some g ∨ g = W.heap.size) :
    Three w' base (.slice (some ⟨g, 0, none⟩) (o1.length + 1) cap) v2 v3 (o1 ++ [x]) o2 o3 :=
  ⟨by rw [List.length_append, List.flatMap_append, List.flatMap_singleton]; exact h2, keep h.r2 hg h.d12, keep h.r3 hg h.d13,
   fun k hk => by cases hk; exact far h.r2 hat h.d12, fun k hk => by cases hk; exact far h.r3 hat h.d13, h.d23⟩
theorem Three.grow2 (h : Three W base v1 v2 v3 o1 o2 o3) (h2 : w'.ownsRow base 72 4 (.slice (some ⟨g, 0, none⟩) (o2.length + 1) cap) (o2.length + 1) (o2.flatMap enE ++ enE x)) (hg : W.grownBy w' v2.ownBlock) (hat : v2.ownBlock = some g ∨ g = W.heap.size) :
    Three w' base v1 (.slice (some ⟨g, 0, none⟩) (o2.length + 1) cap) v3 o1 (o2 ++ [x]) o3 :=
  have d21 : ∀ g, v2.ownBlock = some g → v1.ownBlock ≠ some g := fun k h1 h2 => h.d12 k h2 h1
  ⟨keep h.r1 hg d21, by rw [List.length_append, List.flatMap_append, List.flatMap_singleton]; exact h2, keep h.r3 hg h.d23,
   fun k hk hk2 => by cases hk2; exact far h.r1 hat d21 hk, h.d13, fun k hk => by cases hk; exact far h.r3 hat h.d23⟩
theorem Three.grow3 (h : Three W base v1 v2 v3 o1 o2 o3) (h2 : w'.ownsRow base 72 4 (.slice (some ⟨g, 0, none⟩) (o3.length + 1) cap) (o3.length + 1) (o3.flatMap enE ++ enE x)) (hg : W.grownBy w' v3.ownBlock) (hat : v3.ownBlock = some g ∨ g = W.heap.size) :
    Three w' base v1 v2 (.slice (some ⟨g, 0, none⟩) (o3.length + 1) cap) o1 o2 (o3 ++ [x]) :=
  have d31 : ∀ g, v3.ownBlock = some g → v1.ownBlock ≠ some g := fun k h1 h2 => h.d13 k h2 h1
  have d32 : ∀ g, v3.ownBlock = some g → v2.ownBlock ≠ some g := fun k h1 h2 => h.d23 k h2 h1
  ⟨keep h.r1 hg d31, keep h.r2 hg d32, by rw [List.length_append, List.flatMap_append, List.flatMap_singleton]; exact h2,
   h.d12, fun k hk hk2 => by cases hk2; exact far h.r1 hat d31 hk, fun k hk hk2 => by cases hk2; exact far h.r2 hat d32 hk⟩
end

section
variable {w wr w' : World} {a b a' b' o1 o2 o3 t u : List Ent} {va vb v1 v2 v3 z1 z2 z3 : Value} {x y : Ent} {n ca ab off : Nat}
theorem tail_row {l : List Ent} (h : ERow w (.slice (some ⟨ab, off, none⟩) n ca) l) (hl : l = x :: t) : ERow w (.slice (if ca = 1 then some ⟨ab, off, none⟩ else some ⟨ab, off + 4, none⟩) t.length (ca - 1)) t := by
  subst hl
  refine Lst.tail h ?_
  by_cases hc : ca = 1
  · refine Or.inl ?_
    obtain ⟨_, _, hv, h1, -⟩ := h
    cases hv
    simp at h1
    omega
  · exact Or.inr (if_neg hc)
theorem Walk.left (hm : Walk w wr a b (.slice (some ⟨ab, off, none⟩) n ca) vb v1 v2 v3 a' b' o1 o2 o3) (ha : a' = x :: t) (hw : walkF a' b' = (x :: (walkF t b').1, (walkF t b').2.1, (walkF t b').2.2))
    (hT : Three w' w.heap.size z1 v2 v3 (o1 ++ [x]) o2 o3) (hb : Below w.heap.size w w') :
    Walk w w' a b (.slice (if ca = 1 then some ⟨ab, off, none⟩ else some ⟨ab, off + 4, none⟩) t.length (ca - 1)) vb z1 v2 v3 t b' (o1 ++ [x]) o2 o3 := by
  have m1 := hm.e1
  have m2 := hm.e2
  have m3 := hm.e3
  have n1 := hm.n1
  have n3 := hm.n3
  rw [hw] at m1 m2 m3
  have hl : a'.length = t.length + 1 := by rw [ha]; rfl
  exact ⟨tail_row hm.ra ha, hm.rb, hT, by simp; omega, hm.n2, by omega, by rw [← m1]; simp, m2, m3, hb⟩
theorem Walk.right (hm : Walk w wr a b va (.slice (some ⟨ab, off, none⟩) n ca) v1 v2 v3 a' b' o1 o2 o3) (ha : b' = y :: u) (hw : walkF a' b' = ((walkF a' u).1, y :: (walkF a' u).2.1, (walkF a' u).2.2))
    (hT : Three w' w.heap.size v1 z2 v3 o1 (o2 ++ [y]) o3) (hb : Below w.heap.size w w') :
    Walk w w' a b va (.slice (if ca = 1 then some ⟨ab, off, none⟩ else some ⟨ab, off + 4, none⟩) u.length (ca - 1)) v1 z2 v3 a' u o1 (o2 ++ [y]) o3 := by
  have m1 := hm.e1
  have m2 := hm.e2
  have m3 := hm.e3
  have n2 := hm.n2
  rw [hw] at m1 m2 m3
  have hl : b'.length = u.length + 1 := by rw [ha]; rfl
  exact ⟨hm.ra, tail_row hm.rb ha, hT, hm.n1, by simp; omega, hm.n3, m1, by rw [← m2]; simp, m3, hb⟩
theorem Walk.both {bb boff m cb : Nat} (hm : Walk w wr a b (.slice (some ⟨ab, off, none⟩) n ca) (.slice (some ⟨bb, boff, none⟩) m cb) v1 v2 v3 a' b' o1 o2 o3) (ha : a' = x :: t) (hb' : b' = y :: u)
    (hw : walkF a' b' = ((walkF t u).1, (walkF t u).2.1, x :: (walkF t u).2.2)) (hT : Three w' w.heap.size v1 v2 z3 o1 o2 (o3 ++ [x])) (hb : Below w.heap.size w w') :
    Walk w w' a b (.slice (if ca = 1 then some ⟨ab, off, none⟩ else some ⟨ab, off + 4, none⟩) t.length (ca - 1)) (.slice (if cb = 1 then some ⟨bb, boff, none⟩ else some ⟨bb, boff + 4, none⟩) u.length (cb - 1)) v1 v2 z3 t u o1 o2 (o3 ++ [x]) := by
  have m1 := hm.e1
  have m2 := hm.e2
  have m3 := hm.e3
  have n1 := hm.n1
  have n2 := hm.n2
  have n3 := hm.n3
  rw [hw] at m1 m2 m3
  have hl : a'.length = t.length + 1 := by rw [ha]; rfl
  have hl2 : b'.length = u.length + 1 := by rw [hb']; rfl
  exact ⟨tail_row hm.ra ha, tail_row hm.rb hb', hT, by omega, by omega, by simp; omega, m1, m2, by rw [← m3]; simp, hb⟩
end

def DiffPost (w : World) (r : List Ent × List Ent × List Ent) (e : Ending) (w' : World) : Prop :=
  ∃ v1 v2 v3, e = .returned (.tuple #[v1, v2, v3]) ∧ ERow w' v1 r.1 ∧ ERow w' v2 r.2.1 ∧ ERow w' v3 r.2.2 ∧ Below w.heap.size w w'

set_option maxRecDepth 100000 in
set_option maxHeartbeats 4000000 in
theorem walk_any (ao bo : Option Addr) (ac bc : Nat) (a b : List Ent) (w : World) (ha : ERow w (.slice ao a.length ac) a) (hb : ERow w (.slice bo b.length bc) b) (h1 : a.length ≤ 1000) (h2 : b.length ≤ 1000) :
    Calls Tryz.prog 147 #[.slice ao a.length ac, .slice bo b.length bc, .func (.func 79) #[] #[]] w (DiffPost w (walkF a b)) := by
  have HA := Lib.hid ha
  have HB := Lib.hid hb
  clear ha hb
  obtain ⟨i0, hi, hz0, hz1, hz2⟩ := info_parts info_E
  have HI := Lib.hid hi
  have HZ0 := Lib.hid hz0
  have HZ1 := Lib.hid hz1
  have HZ2 := Lib.hid hz2
  clear hi hz0 hz1 hz2
  go_enter Tryz.func147, Tryz.ntmps147
  go_wp2_with fail
  go_loopw [0, 1, 9, 10, 11] (fun va vb v1 v2 v3 wr => ∃ a' b' o1 o2 o3, Hid (Walk w wr a b va vb v1 v2 v3 a' b' o1 o2 o3)) (fun va vb _ _ _ _ => lenV va + lenV vb)
  case atStart =>
    exact ⟨a, b, [], [], [], Lib.hid ⟨HA.out, HB.out, ⟨World.ownsRow_nil _ _ _ _, World.ownsRow_nil _ _ _ _, World.ownsRow_nil _ _ _ _, (fun g h => by cases h), (fun g h => by cases h), (fun g h => by cases h)⟩, by simp; omega, by simp; omega, by simp; omega, rfl, rfl, rfl, Below.refl _ _⟩⟩
  case round =>
    obtain ⟨a', b', o1, o2, o3, hm⟩ := hrel
    have hsz := hm.out.bl.size
    obtain ⟨aa, ca, rfl, -, -⟩ := Lst.form hm.out.ra
    obtain ⟨ba, cb, rfl, -, -⟩ := Lst.form hm.out.rb
    by_cases hend : 0 < a'.length ∨ 0 < b'.length
    · have hcs : (0 < a'.length ∧ 0 < b'.length) ∨ (0 < a'.length ∧ ¬ 0 < b'.length) ∨ (¬ 0 < a'.length ∧ 0 < b'.length) := by omega
      have HAr := Lib.hid (Lst.below hm.out.ra hm.out.bl)
      have HBr := Lib.hid (Lst.below hm.out.rb hm.out.bl)
      rcases hcs with ⟨h3, h4⟩ | ⟨h3, h4⟩ | ⟨h3, h4⟩
      all_goals
        go_upto_block 2 with fail
        go_cut [12] (fun c wx => ∃ ci : Int, c = .int .i64 ci ∧ Hid (Way a' b' ci) ∧ Below wr.heap.size wr wx)
      case first =>
        have hb0 : ((b'.length : Int) == 0) = false := nz h4
        have ha0 : ((a'.length : Int) == 0) = false := nz h3
        obtain ⟨ab, aoff, rfl, hab, a0, a1, a2, a3⟩ := ERow.cells HAr.out h3
        obtain ⟨bb, boff, rfl, hbb, b0, b1, b2, b3⟩ := ERow.cells HBr.out h4
        rcases a' with _ | ⟨x, t⟩
        · exact absurd h3 (by simp)
        rcases b' with _ | ⟨y, u⟩
        · exact absurd h4 (by simp)
        simp only [Nat.zero_mul, Nat.add_zero, List.getElem_cons_zero] at a0 a1 a2 a3 b0 b1 b2 b3
        have hwy := Lib.hid (way_both x y t u)
        generalize x :: t = l1 at *
        generalize y :: u = l2 at *
        go_wp2_with fail
        refine wp_region_calm (by kernel_rfl) (by kernel_rfl) ?_
        repeat (go_big_quiet_step (first | (go_at_call 79; exact calm (compare_any _ _ _))))
        refine wpQuiet_nil ?_
        rintro _ ⟨z, rfl⟩
        go_wp2_with fail
        go_meet
        exact ⟨_, rfl, hwy, z.below⟩
      case first =>
        have hb0 : ((b'.length : Int) == 0) = true := iz h4
        have hl : b' = [] := List.length_eq_zero_iff.1 (by omega)
        go_wp2_with fail
        go_meet
        rcases a' with _ | ⟨x, t⟩
        · exact absurd h3 (by simp)
        · exact ⟨_, rfl, Lib.hid (by rw [hl]; exact way_left x t), Below.refl _ _⟩
      case first =>
        have hb0 : ((b'.length : Int) == 0) = false := nz h4
        have ha0 : ((a'.length : Int) == 0) = true := iz h3
        have hl : a' = [] := List.length_eq_zero_iff.1 (by omega)
        go_wp2_with fail
        go_meet
        rcases b' with _ | ⟨y, u⟩
        · exact absurd h4 (by simp)
        · exact ⟨_, rfl, Lib.hid (by rw [hl]; exact way_right y u), Below.refl _ _⟩
      all_goals
        obtain ⟨ci, rfl, hway, hbx⟩ := hcut
        have HT := Lib.hid (Three.below hm.out.t hbx)
        have hl1 := hm.out.n1
        have hl2 := hm.out.n2
        have hl3 := hm.out.n3
        have hsz2 := hbx.size
        rcases hway.out with ⟨x, t, ha', hc, hwk⟩ | ⟨y, u, hb', hc, hwk⟩ | ⟨x, y, t, u, ha', hb', hc, hwk⟩
        · have h3' : 0 < a'.length := by rw [ha']; simp
          try exact absurd h3' h3
          all_goals
            obtain ⟨ab, aoff, rfl, hab, a0, a1, a2, a3⟩ := ERow.cells (Lst.below HAr.out hbx) h3'
            have hx : a'[0] = x := by simp [ha']
            rw [hx] at a0 a1 a2 a3
            simp only [Nat.zero_mul, Nat.add_zero] at a0 a1 a2 a3
            have hln : a'.length = t.length + 1 := by rw [ha']; rfl
            have HW := Lib.hid (And.intro ha' hwk)
            have HR := Lib.hid (HT.out.r1)
            have hcd : decide (ci < 0) = true := decide_eq_true hc
            have hle : (1 : Int) ≤ (t.length : Int) + 1 := by omega
            have hbl0 := hm.out.bl
            clear hx hwk ha' h3 h4 hend h3' hway
            go_wp2_with fail
            go_region_law (refine step_append_lies _ rfl (.tmp 50) (.tmp 54) 65 rfl w.heap.size 72 i0 (.agg #[.string ByteArray.empty, .int .i64 0, .int .i64 0, .int .i64 0]) 4 40 Tryz.underlying65 HI.out HZ0.out HZ1.out HZ2.out rfl (by decide) _ _ _ rfl ((World.ownsRow.drew HR.out).alloc _) ⟨wc.heap.size, 0, none⟩ 1 1 (enE x) rfl rfl (new_cells _ (enE x) _) (enE_one x) (by decide) (by unfold maxLen; omega) (by omega) (by simp; omega) _ rfl (fun g cap w3 g1 g2 g3 g4 => ?_))
            have HT3 := Lib.hid (Three.grow1 (((HT.out.below (Below.refl _ _).drew)).below ((Below.refl _ _).alloc (Nat.le_refl _) _)) g1 g2 g3)
            have hbl3 : Below w.heap.size w w3 := ((below_then hbl0 (Nat.le_refl _) hbx).drew.alloc (by simp; omega) _).grown g2 (by simp; omega) (fun k hk => (World.ownsRow.lt HR.out k hk).1)
            have HN := Lib.hid (Walk.left hm.out HW.out.1 HW.out.2 HT3.out hbl3)
            clear g1 g2 g3 g4
            generalize (if ca = 1 then (some ⟨ab, aoff, none⟩ : Option Addr) else some ⟨ab, aoff + 4, none⟩) = na at HN ⊢
            try go_simp
            go_wp2
            go_roundw
            case rel => first | exact ⟨_, _, _, _, _, HN⟩ | ((repeat apply Exists.intro); exact ⟨⟨_, _, _, _, _, HN⟩, rfl⟩)
            case measure => first | (simp only [lenV]; omega) | (simp [lenV]; done) | (simp [lenV]; omega) | (go_simp; simp [lenV]; omega)
        · have h4' : 0 < b'.length := by rw [hb']; simp
          try exact absurd h4' h4
          all_goals
            obtain ⟨bb, boff, rfl, hbb, a0, a1, a2, a3⟩ := ERow.cells (Lst.below HBr.out hbx) h4'
            have hx : b'[0] = y := by simp [hb']
            rw [hx] at a0 a1 a2 a3
            simp only [Nat.zero_mul, Nat.add_zero] at a0 a1 a2 a3
            have hln : b'.length = u.length + 1 := by rw [hb']; rfl
            have HW := Lib.hid (And.intro hb' hwk)
            have HR := Lib.hid (HT.out.r2)
            have hcd : decide (ci < 0) = false := decide_eq_false (by omega)
            have hcd2 : decide (0 < ci) = true := decide_eq_true hc
            have hle : (1 : Int) ≤ (u.length : Int) + 1 := by omega
            have hbl0 := hm.out.bl
            clear hx hwk hb' h3 h4 hend h4' hway
            go_wp2_with fail
            go_region_law (refine step_append_lies _ rfl (.tmp 61) (.tmp 65) 65 rfl w.heap.size 72 i0 (.agg #[.string ByteArray.empty, .int .i64 0, .int .i64 0, .int .i64 0]) 4 40 Tryz.underlying65 HI.out HZ0.out HZ1.out HZ2.out rfl (by decide) _ _ _ rfl ((World.ownsRow.drew HR.out).alloc _) ⟨wc.heap.size, 0, none⟩ 1 1 (enE y) rfl rfl (new_cells _ (enE y) _) (enE_one y) (by decide) (by unfold maxLen; omega) (by omega) (by simp; omega) _ rfl (fun g cap w3 g1 g2 g3 g4 => ?_))
            have HT3 := Lib.hid (Three.grow2 (((HT.out.below (Below.refl _ _).drew)).below ((Below.refl _ _).alloc (Nat.le_refl _) _)) g1 g2 g3)
            have hbl3 : Below w.heap.size w w3 := ((below_then hbl0 (Nat.le_refl _) hbx).drew.alloc (by simp; omega) _).grown g2 (by simp; omega) (fun k hk => (World.ownsRow.lt HR.out k hk).1)
            have HN := Lib.hid (Walk.right hm.out HW.out.1 HW.out.2 HT3.out hbl3)
            clear g1 g2 g3 g4
            generalize (if cb = 1 then (some ⟨bb, boff, none⟩ : Option Addr) else some ⟨bb, boff + 4, none⟩) = nb at HN ⊢
            try go_simp
            go_wp2
            go_roundw
            case rel => first | exact ⟨_, _, _, _, _, HN⟩ | ((repeat apply Exists.intro); exact ⟨⟨_, _, _, _, _, HN⟩, rfl⟩)
            case measure => first | (simp only [lenV]; omega) | (simp [lenV]; done) | (simp [lenV]; omega) | (go_simp; simp [lenV]; omega)
        · have h3' : 0 < a'.length := by rw [ha']; simp
          have h4' : 0 < b'.length := by rw [hb']; simp
          try exact absurd h3' h3
          all_goals try exact absurd h4' h4
          all_goals
            obtain ⟨ab, aoff, rfl, hab, a0, a1, a2, a3⟩ := ERow.cells (Lst.below HAr.out hbx) h3'
            obtain ⟨bb, boff, rfl, hbb, -⟩ := ERow.cells (Lst.below HBr.out hbx) h4'
            have hx : a'[0] = x := by simp [ha']
            rw [hx] at a0 a1 a2 a3
            simp only [Nat.zero_mul, Nat.add_zero] at a0 a1 a2 a3
            have hln : a'.length = t.length + 1 := by rw [ha']; rfl
            have hln2 : b'.length = u.length + 1 := by rw [hb']; rfl
            have HW := Lib.hid (And.intro ha' (And.intro hb' hwk))
            have HR := Lib.hid (HT.out.r3)
            have hcd : decide (ci < 0) = false := decide_eq_false (by omega)
            have hcd2 : decide (0 < ci) = false := decide_eq_false (by omega)
            have hle : (1 : Int) ≤ (t.length : Int) + 1 := by omega
            have hle2 : (1 : Int) ≤ (u.length : Int) + 1 := by omega
            have hbl0 := hm.out.bl
            clear hx hwk ha' hb' h3 h4 hend h3' h4' hway
            go_wp2_with fail
            go_region_law (refine step_append_lies _ rfl (.tmp 37) (.tmp 41) 65 rfl w.heap.size 72 i0 (.agg #[.string ByteArray.empty, .int .i64 0, .int .i64 0, .int .i64 0]) 4 40 Tryz.underlying65 HI.out HZ0.out HZ1.out HZ2.out rfl (by decide) _ _ _ rfl ((World.ownsRow.drew HR.out).alloc _) ⟨wc.heap.size, 0, none⟩ 1 1 (enE x) rfl rfl (new_cells _ (enE x) _) (enE_one x) (by decide) (by unfold maxLen; omega) (by omega) (by simp; omega) _ rfl (fun g cap w3 g1 g2 g3 g4 => ?_))
            have HT3 := Lib.hid (Three.grow3 (((HT.out.below (Below.refl _ _).drew)).below ((Below.refl _ _).alloc (Nat.le_refl _) _)) g1 g2 g3)
            have hbl3 : Below w.heap.size w w3 := ((below_then hbl0 (Nat.le_refl _) hbx).drew.alloc (by simp; omega) _).grown g2 (by simp; omega) (fun k hk => (World.ownsRow.lt HR.out k hk).1)
            have HN := Lib.hid (Walk.both hm.out HW.out.1 HW.out.2.1 HW.out.2.2 HT3.out hbl3)
            clear g1 g2 g3 g4
            generalize (if ca = 1 then (some ⟨ab, aoff, none⟩ : Option Addr) else some ⟨ab, aoff + 4, none⟩) = na at HN ⊢
            generalize (if cb = 1 then (some ⟨bb, boff, none⟩ : Option Addr) else some ⟨bb, boff + 4, none⟩) = nb at HN ⊢
            try go_simp
            go_wp2
            go_roundw
            case rel => first | exact ⟨_, _, _, _, _, HN⟩ | ((repeat apply Exists.intro); exact ⟨⟨_, _, _, _, _, HN⟩, rfl⟩)
            case measure => first | (simp only [lenV]; omega) | (simp [lenV]; done) | (simp [lenV]; omega) | (go_simp; simp [lenV]; omega)
    · obtain ⟨rfl, rfl⟩ : a' = [] ∧ b' = [] := by
        constructor <;> (apply List.length_eq_zero_iff.1; omega)
      have m1 := hm.out.e1
      have m2 := hm.out.e2
      have m3 := hm.out.e3
      rw [walkF, List.append_nil] at m1 m2 m3
      have k1 := hm.out.t.r1
      have k2 := hm.out.t.r2
      have k3 := hm.out.t.r3
      rw [m1] at k1
      rw [m2] at k2
      rw [m3] at k3
      have K := Lib.hid (And.intro (Lst.of_owns enE_len (by omega) k1) (And.intro (Lst.of_owns enE_len (by omega) k2) (Lst.of_owns enE_len (by omega) k3)))
      have HBL := Lib.hid hm.out.bl
      clear m1 m2 m3 k1 k2 k3 hm
      go_wp2
      go_ret3
      exact ⟨_, _, _, rfl, K.out.1, K.out.2.1, K.out.2.2, HBL.out⟩
end Go.Proofs.YtmfhmcegmeinnaaGreatDoor.Diffs
