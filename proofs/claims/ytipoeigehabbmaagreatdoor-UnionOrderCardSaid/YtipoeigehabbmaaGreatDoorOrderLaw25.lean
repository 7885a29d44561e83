/- The walk of the law UnionOrder (layer 25). PRINTED by wip/genuorder.py. -/
import Derived.Test.YtipoeigehabbmaaGreatDoorBoth
import Derived.Test.YtipoeigehabbmaaGreatDoorAppFull
import Derived.Test.YtipoeigehabbmaaGreatDoorUnionAlive
import Derived.Test.YtipoeigehabbmaaGreatDoorGreat25
import Derived.Shelf.SlicesQ.Reverse
set_option linter.unusedSimpArgs false
set_option linter.unusedVariables false
namespace Go.Proofs.YtipoeigehabbmaaGreatDoor.Mut
open Go.RowKit Go.Sort Go.Shelf Go.Proofs.YtipoeigehabbmaaGreatDoor.Ord Go.Proofs.YtipoeigehabbmaaGreatDoor.RegInv Go.Proofs.YtipoeigehabbmaaGreatDoor.Spare
set_option linter.unusedSectionVars false
variable [Inhabited Lim]

def layRevR_ren : Go.Shelf.Ren := ⟨fun | 35 => 24 | n => n, fun | 22 => 43 | 23 => 49 | 3 => 3 | 4 => 4 | 0 => 0 | n => n, fun | n => n⟩
theorem layRevR : Go.Proofs.SlLaysE0.n35 Tryz.prog layRevR_ren := {
  mixed := by kernel_rfl
  f35 := ⟨Tryz.f24.name, by decide, Tryz.func24.trans (congrArg some (by kernel_rfl))⟩
  t0 := Tryz.underlying0
  a0 := Tryz.isAgg0
  z0 := Tryz.sizeOf0
  v0 := Tryz.zeroValue0
  t3 := Tryz.underlying3
  a3 := Tryz.isAgg3
  z3 := Tryz.sizeOf3
  v3 := Tryz.zeroValue3
  t4 := Tryz.underlying4
  a4 := Tryz.isAgg4
  z4 := Tryz.sizeOf4
  v4 := Tryz.zeroValue4
  t22 := Tryz.underlying43
  a22 := Tryz.isAgg43
  z22 := Tryz.sizeOf43
  v22 := Tryz.zeroValue43 }


theorem ne_flagU {a b : Int} (h : ¬ a = b) : (a == b) = false ∧ (a != b) = true := by simp [h]
theorem eq_flagU {a b : Int} (h : a = b) : (a == b) = true ∧ (a != b) = false := by simp [h]

/-! ## In plain Lean: what all have doesn't hang on their order -/
theorem maxS_comm (a b : Stp) : maxS a b = maxS b a := by
  unfold maxS
  rcases stO.total a b with h | h | h
  · rw [if_pos h, if_neg (stO.asymm h)]
  · rw [h]
  · rw [if_neg (stO.asymm h), if_pos h]
theorem maxS_le (a b : Stp) : stC a (maxS a b) ≤ 0 ∧ stC b (maxS a b) ≤ 0 := by
  unfold maxS
  split
  · exact ⟨Int.le_of_lt (by assumption), by rw [stO.self]; omega⟩
  · exact ⟨by rw [stO.self]; omega, (stO.le_of).1 (by assumption)⟩
theorem maxS_least {a b c : Stp} (h1 : stC a c ≤ 0) (h2 : stC b c ≤ 0) : stC (maxS a b) c ≤ 0 := by
  unfold maxS
  split
  · exact h2
  · exact h1
theorem maxS_swap (a b c : Stp) : maxS (maxS a b) c = maxS (maxS a c) b := by
  have h : ∀ a b c : Stp, stC (maxS (maxS a b) c) (maxS (maxS a c) b) ≤ 0 := fun a b c =>
    maxS_least (maxS_least (stO.le_le (maxS_le a c).1 (maxS_le _ b).1) (maxS_le (maxS a c) b).2) (stO.le_le (maxS_le a c).2 (maxS_le _ b).1)
  exact stO.anti (h a b c) (h a c b)
theorem baseF_perm {R R' : List Rp} (h : R.Perm R') : baseF R = baseF R' := by
  unfold baseF
  refine h.foldl_eq' (fun x _ y _ z => ?_) _
  unfold baseStep
  cases x.q <;> cases y.q <;> simp [maxS_swap]
theorem combF_perm {R R' : List Rp} (h : R.Perm R') (s : Stp) : combF R s = combF R' s := by
  unfold combF combC
  rw [baseF_perm h, join_perm (h.map _)]
theorem combF_good {R : List Rp} {m : Nat} (h : ∀ x ∈ R, Good x.c m) (s : Stp) : Good (combF R s).1 (m * R.length) := by
  unfold combF
  split
  · unfold combC
    have h2 := join_good (R.map (partR s (baseF R).1)) ⟨[], [], []⟩ 0 m empty_good (fun d hd => by
      obtain ⟨x, hx, rfl⟩ := List.mem_map.1 hd
      exact partR_good (h x hx) _ _)
    rw [List.length_map, Nat.zero_add] at h2
    exact h2
  · exact empty_good.more (Nat.zero_le _)

/-! ## Parts of a row -/
theorem Lst.dropAt {α : Type} {sz : Nat} {en : α → List Value} {w : World} {b off n cap : Nat} {l : List α} (h : Lst sz en w (.slice (some ⟨b, off, none⟩) n cap) l) (k : Nat) (hk : k ≤ n) : Lst sz en w (.slice (some ⟨b, off + k * sz, none⟩) (n - k) (cap - k)) (l.drop k) := by
  obtain ⟨ao, cp, e, h1, h2, h3⟩ := h
  cases e
  refine ⟨_, cap - k, by rw [List.length_drop], by rw [List.length_drop]; omega, by omega, ?_⟩
  rcases h3 with h3 | ⟨b', off', e, hb, hc⟩
  · exact Or.inl (by rw [List.length_drop]; omega)
  · cases e
    refine Or.inr ⟨b, off + k * sz, rfl, hb, fun i x hi j hj => ?_⟩
    rw [List.getElem?_drop] at hi
    have := hc (k + i) x hi j hj
    rw [Nat.add_mul] at this
    rw [← this]
    congr 2
    omega
theorem Lst.takeAt {α : Type} {sz : Nat} {en : α → List Value} {w : World} {b off n cap : Nat} {l : List α} (h : Lst sz en w (.slice (some ⟨b, off, none⟩) n cap) l) (k : Nat) (hk : k ≤ n) : Lst sz en w (.slice (some ⟨b, off, none⟩) k cap) (l.take k) := by
  obtain ⟨ao, cp, e, h1, h2, h3⟩ := h
  cases e
  refine ⟨_, cap, by rw [List.length_take, Nat.min_eq_left hk], by rw [List.length_take]; omega, h2, ?_⟩
  rcases h3 with h3 | ⟨b', off', e, hb, hc⟩
  · exact Or.inl (by rw [List.length_take]; omega)
  · cases e
    refine Or.inr ⟨b, off, rfl, hb, fun i x hi j hj => ?_⟩
    rw [List.getElem?_take] at hi
    split at hi
    · exact hc i x hi j hj
    · cases hi
theorem Spare.base {w : World} {base b0 : Nat} {e : TypeId} {zs : List Value} {v : Value} {n : Nat} {xs : List Value} (h : Spare w base e zs v n xs) (hb : b0 ≤ base) : Spare w b0 e zs v n xs := ⟨own_base h.own hb, h.rest⟩
theorem Grow.moreL {w w' : World} {base : Nat} {e : TypeId} {v v' : Value} {n m : Nat} {R K : List Rp} (h : Grow w base e v n R) (hN : (default : Lim).n ≤ base) (hx : ∀ x ∈ K, Lies w x.a x.b x.d x.c) (hm : m = K.length) (hsp : Spare w' base e zR v' (n + m) (R.flatMap enR ++ K.flatMap enR)) (hg : w.grownBy w' v.ownBlock) : Grow w' base e v' (n + m) (R ++ K) := by
  refine ⟨by rw [List.flatMap_append]; exact hsp, fun y hy => ?_, by rw [List.length_append, ← h.len, hm]⟩
  rcases List.mem_append.1 hy with g | g
  · exact lies_keptZ (h.con y g) hN h.row (plain_R h.forms) hg
  · exact lies_keptZ (hx y g) hN h.row (plain_R h.forms) hg

def RevR (base : Nat) (w : World) (v : Value) (R : List Rp) (e : Ending) (w' : World) : Prop :=
  e = .returned (.tuple #[]) ∧ w'.ownsRow base 49 7 v R.length (R.reverse.flatMap enR) ∧ w.grownBy w' v.ownBlock
theorem reverseR_any (base : Nat) (v : Value) (R : List Rp) (w : World) (hown : w.ownsRow base 49 7 v R.length (R.flatMap enR)) (hf : ∀ x ∈ R, Forms x) (hn : R.length ≤ 1000000) :
    Calls Tryz.prog 24 #[v] w (RevR base w v R) := by
  rcases hown.2 with ⟨rfl, hR⟩ | ⟨g, cap, cur, rfl, -⟩
  · obtain rfl : R = [] := List.length_eq_zero_iff.1 hR
    refine (AnyQ.slices_Reverse_empty layRevR none 0 w).mono ?_
    rintro e w' ⟨rfl, rfl⟩
    exact ⟨rfl, hown, ⟨rfl, rfl, rfl, Nat.le_refl _, fun _ _ _ => rfl⟩⟩
  · let S := { x : Rp // Forms x }
    haveI : Inhabited S := ⟨⟨⟨.slice none 0 0, .slice none 0 0, .slice none 0 0, ⟨[], [], []⟩, ⟨0, 0, 0⟩, false⟩, ⟨_, _, _, rfl⟩, ⟨_, _, _, rfl⟩, ⟨_, _, _, rfl⟩⟩⟩
    obtain ⟨L, hL⟩ : ∃ L : List S, L.map (·.1) = R := ⟨R.attach.map fun x => ⟨x.1, hf x.1 x.2⟩, by rw [List.map_map]; exact List.attach_map_subtype_val R⟩
    subst hL
    have mf : ∀ l : List S, (l.flatMap fun x => enR x.1) = (l.map (·.1)).flatMap enR := by
      intro l
      induction l with
      | nil => rfl
      | cons x l ih => rw [List.flatMap_cons, List.map_cons, List.flatMap_cons, ih]
    have hlen : (L.map (·.1)).length = L.length := by simp
    rw [hlen] at hown hn ⊢
    rw [← mf] at hown
    have hk : ∀ x : S, (enR x.1).length = 7 := fun _ => rfl
    have h1 : ∀ x : S, ∀ v ∈ enR x.1, v.oneCell' = true := fun x v hv => by
      refine flatR_one (R := [x.1]) (fun y hy => by rw [List.mem_singleton.1 hy]; exact x.2) v ?_
      simpa using hv
    have hcon := AnyQ.slices_Reverse layRevR 7 (fun w => Tryz.isAgg49 w) (fun w => Tryz.sizeOf49 w) (fun x : S => enR x.1) hk h1 g 0 cap L.toArray w (holds_owned hk hown) (by simp; omega)
    have e0 : L.toArray.size = L.length := by simp
    rw [e0] at hcon
    refine hcon.mono ?_
    rintro e w' ⟨rfl, n, rfl⟩
    have hq := owned_put (cap := cap) hk hown L.toArray.reverse (by simp) n #[]
    have e1 : sortWorldK (fun x : S => enR x.1) 7 w g 0 n L.toArray.reverse #[] = putRowK (fun x : S => enR x.1) 7 (Sort.ahead w n) g 0 L.toArray.reverse := by unfold sortWorldK; rw [grow_empty]
    rw [e1] at hq
    refine ⟨rfl, ?_, hq.2⟩
    have h := hq.1
    rw [mf] at h
    rw [show L.toArray.reverse.toList = L.reverse by simp, List.map_reverse] at h
    rw [hlen]
    exact h

set_option maxHeartbeats 16000000 in
set_option maxRecDepth 100000 in
theorem uorder_any (v : Value) (T : List Td) (se : Stp) (turn : Int) (w : World) (hT : Tabs w) (hv : TRow w v T) (hz : TSizes T) (hN0 : (default : Lim).n ≤ w.heap.size) :
    Calls Tryz.prog 4 #[v, vS se, .int .i64 turn] w (RetB true w) := by
  obtain ⟨ao, cap, rfl, -, -⟩ := hv.form
  obtain ⟨n, hN⟩ : ∃ n, n = T.length := ⟨_, rfl⟩
  rw [← hN] at hv ⊢
  have HGR := Lib.hid (fun W (h : RowKit.Below w.heap.size w W) => great25_any (.slice ao n cap) T W (hv.below h) hz)
  obtain ⟨G, hG⟩ : ∃ G, G = great25 T := ⟨_, rfl⟩
  rw [← hG] at HGR
  have HG := Lib.hid hG
  have HV := Lib.hid hv
  have HN := Lib.hid hN
  have HT := Lib.hid hT
  have HN0 := Lib.hid hN0
  clear hv hN hT hN0 hG hz
  obtain ⟨W0, hW0⟩ : ∃ W0, W0 = w.alloc (.cells #[.int .i64 se.p, .int .i64 se.l, .int .i64 se.w] 32) := ⟨_, rfl⟩
  have HS := Lib.hid (show S3 W0 w.heap.size se by rw [hW0]; exact S3.new w se)
  have HB0 := Lib.hid (show RowKit.Below w.heap.size w W0 by rw [hW0]; exact (Below.refl _ _).alloc (Nat.le_refl _) _)
  have HW0 := Lib.hid hW0
  clear hW0
  obtain ⟨ep, el, ew⟩ := se
  unfold vS
  simp only [] at HW0 ⊢
  obtain ⟨n0, hn0⟩ : ∃ n, n = w.heap.size := ⟨_, rfl⟩
  rw [← hn0] at HS
  have HNN0 := Lib.hid hn0
  go_enter Tryz.func4, Tryz.ntmps4
  go_upto_region 1 with fail
  rw [← HW0.out, ← hn0]
  clear HW0 hn0
  go_wp2_with fail
  refine (HGR.out _ HB0.out).mono ?_
  rintro e w1 ⟨rfl, rfl⟩
  cases G
  case true =>
    go_wp2_with fail
    go_ret
    exact ⟨rfl, HB0.out⟩
  by_cases hn1 : n = 0
  · have hk := eq_flagU (a := (n : Int)) (b := 0) (by omega)
    go_wp2_with fail
    go_ret
    exact ⟨rfl, HB0.out⟩
  have hk := ne_flagU (a := (n : Int)) (b := 0) (by omega)
  obtain ⟨hT6, hTs⟩ := great25_small HG.out.symm
  have hn6 : n ≤ 6 := by have := HN.out; omega
  have hBo := both25_any (.slice ao n cap) T W0 (HT.out.below HB0.out) (HV.out.below HB0.out) (Nat.le_trans HN0.out HB0.out.size) (by omega) (fun x hx => ⟨by have := (hTs x hx).1; omega, (hTs x hx).2⟩)
  have HBO := Lib.hid hBo
  have HTS := Lib.hid hTs
  clear hBo hTs hT6
  go_wp2_with fail
  refine HBO.out.mono ?_
  rintro e w3 ⟨va, vb, RA, RB, rfl, hra, hrb, ea, eb, hb3⟩
  have hlen : RA.length = n := by have h := congrArg List.length ea; rw [List.length_map, List.length_map] at h; rw [h]; exact HN.out.symm
  obtain ⟨ra, ca, rfl, hca1, hca2⟩ := hra.form
  rw [hlen] at hra hca1 ⊢
  obtain ⟨bb, off, hra0, -⟩ := hra.get (k := 0) (by omega)
  subst hra0
  have HGA := Lib.hid (show ∀ x ∈ RA, Good x.c 15 from fun x hx => by
    have h1 : core x ∈ T.map coreT := by rw [← ea]; exact List.mem_map.2 ⟨x, hx, rfl⟩
    obtain ⟨y, hy, e⟩ := List.mem_map.1 h1
    have h2 : x.c = leftOf (y.l.map (·.1)) := (congrArg (·.1) e).symm
    rw [h2]
    exact (leftOf_good _).more (HTS.out y hy).1)
  have HRA := Lib.hid hra
  have HLA := Lib.hid hlen
  have HB3 := Lib.hid (below_then HB0.out (Nat.le_refl _) hb3)
  have HS3 := Lib.hid (HS.out.below hb3)
  clear hra hrb ea eb hb3 hlen HBO HTS HGR HB0 HS HV hk
  have hcap63 : ca ≤ 9223372036854775807 := by unfold maxLen at hca2; omega
  obtain ⟨k0, hk0⟩ : ∃ k0 : Int, k0 = turn.tmod (n : Int) := ⟨_, rfl⟩
  have hb0 : -(n : Int) < k0 ∧ k0 < n := by
    rw [hk0]
    have h1 := Int.tmod_lt_of_pos turn (show (0 : Int) < n by omega)
    have h2 := Int.tmod_lt_of_pos (-turn) (show (0 : Int) < n by omega)
    rw [Int.neg_tmod] at h2
    exact ⟨by omega, h1⟩
  have hne : ¬ ((n : Int) = 0) := by omega
  have hnz : ((n : Int) == 0) = false := by simp; omega
  go_upto_region 5 with fail
  rw [← hk0]
  clear hk0
  go_upto_if 34 with fail
  go_cut [9] (fun c wx => (∃ k : Nat, c = .int .i64 k ∧ k < n) ∧ w3 = wx)
  case first =>
    by_cases h : k0 < 0
    · have hd : decide (k0 < 0) = true := decide_eq_true h
      go_wp2_with fail
      go_meet
      exact ⟨⟨(k0 + n).toNat, by rw [Int.toNat_of_nonneg (by omega)], by omega⟩, rfl⟩
    · have hd : decide (k0 < 0) = false := decide_eq_false h
      go_wp2_with fail
      go_meet
      exact ⟨⟨k0.toNat, by rw [Int.toNat_of_nonneg (by omega)], by omega⟩, rfl⟩
  case rest =>
    obtain ⟨⟨k, rfl, hkn⟩, rfl⟩ := hcut
    clear hb0 hne hnz k0
    have j0 : (0 : Int) ≤ (k : Int) := by omega
    have j1 : (k : Int) ≤ (n : Int) := by omega
    have j2 : (n : Int) ≤ (ca : Int) := by omega
    have j3 : (k : Int) ≤ (ca : Int) := by omega
    go_wp2_with fail
    refine wp_region_told [] 8 [false, false, false, false, false, false, false, false, false, false, false, false, false, false, false, false, false, false, false, false, false, false, false, false, false, false, false, false, false, false, false, false, false, false, false, false, false, false, false, true, true, true, true, true, true, true, true, false, false, false, false, false, false, false, false, false, false, false, false, false, false, false, false, false, false, false, false, false, false, false, false, false, false, false, false, false, false, false, false, false]
      [sOne (fun v W => ∃ g, v = .slice (some ⟨g, 0, none⟩) 0 0) (fun _ _ _ h _ => h),
    sLit (.slice (some ⟨bb, off, none⟩) n ca),
    sLit (.int .i64 k),
    sOne (fun v W => ∃ ad c, v = .slice (some ad) (n - k) c ∧ Lst 7 enR W v (RA.drop k)) (fun _ _ _ h hb => h.elim fun ad h => h.elim fun c h => ⟨ad, c, h.1, h.2.below hb⟩),
    sOne (fun v W => Grow W w3.heap.size 49 v (n - k) (RA.drop k)) (fun _ _ _ h hb => h.below hb),
    sLit (.slice (some ⟨bb, off, none⟩) n ca),
    sLit (.int .i64 k),
    sOne (fun v W => ∃ c, v = .slice (some ⟨bb, off, none⟩) k c ∧ Lst 7 enR W v (RA.take k)) (fun _ _ _ h hb => h.elim fun c h => ⟨c, h.1, h.2.below hb⟩)] (by kernel_rfl) (by kernel_rfl) (by kernel_rfl) (fun F hF => ?_)
    simp only [over, overL, Nat.reduceAdd] at hF
    obtain rfl := funext hF
    clear hF
    refine ⟨⟨?_, ?_, ?_, ?_, ?_, ?_, ?_, ?_, trivial⟩, ?_⟩
    · intro V W hb hd K hK _
      clear hd
      go_wp2_with fail
      refine hK _ _ ?_ ?_ ?_ ?_
      · rfl
      · exact (Below.refl _ _).alloc (Nat.le_refl _) _
      · exact ⟨_, rfl⟩
      · trivial
    · intro V W hb hd K hK _
      clear hd
      go_wp2_with fail
      refine hK _ _ ?_ ?_ ?_ ?_
      · rfl
      · exact Below.refl _ _
      · exact rfl
      · trivial
    · intro V W hb hd K hK _
      clear hd
      go_wp2_with fail
      refine hK _ _ ?_ ?_ ?_ ?_
      · rfl
      · exact Below.refl _ _
      · exact rfl
      · trivial
    · intro V W hb hd K hK _
      have h1 : (V 40) = .slice (some ⟨bb, off, none⟩) n ca := hd 1 (by kernel_rfl)
      have h2 : (V 41) = .int .i64 k := hd 2 (by kernel_rfl)
      clear hd
      have hLd := Lib.hid (Lst.dropAt (HRA.out.row.below hb) k (by omega))
      go_wp2_with fail
      refine hK _ _ ?_ ?_ ?_ ?_
      · rfl
      · exact Below.refl _ _
      · first | exact ⟨_, _, rfl, hLd.out⟩ | (trace_state; sorry)
      · trivial
    · intro V W hb hd K hK _
      have h0 : ∃ g, (V 39) = .slice (some ⟨g, 0, none⟩) 0 0 := hd 0 (by kernel_rfl)
      have h3 : ∃ ad c, (V 42) = .slice (some ad) (n - k) c ∧ Lst 7 enR W (V 42) (RA.drop k) := hd 3 (by kernel_rfl)
      clear hd
      obtain ⟨g, e0⟩ := h0
      obtain ⟨ad, c, e3, hl3⟩ := h3
      rw [e3] at hl3
      have HL3 := Lib.hid hl3
      obtain ⟨i0, hi, hz0, hz1, hz2⟩ := info_parts info_Rep
      clear hl3
      go_wp2_with (at_builtin; refine wpList_append_full rfl (.tmp 39) (.tmp 42) 43 rfl 49 i0 (.agg ⟨zR⟩) zR 104 Tryz.underlying43 hi hz0 rfl hz1 hz2 (by decide) (some ⟨g, 0, none⟩) 0 [] (by first | exact e0 | rfl) rfl (fun h => by cases h) (fun ad h j u hj => by simp at hj) ad (n - k) c ((RA.drop k).flatMap enR) (by first | exact e3 | rfl) (by omega) (by rw [flatMap_len enR_len, ← Lst.len HL3.out]; rfl) (Lst.news enR_len (by decide) HL3.out) (by unfold maxLen; omega) (by omega) ?_)
      intro v4 w4 hsp hb4
      have HG4 := Lib.hid (show Grow w4 w3.heap.size 49 v4 (n - k) (RA.drop k) from ⟨by have h := Spare.base hsp (show w3.heap.size ≤ W.heap.size from hb.size); simpa using h, fun x hx => (HRA.out.con x (List.mem_of_mem_drop hx)).below (below_then hb (Nat.le_refl _) hb4), Lst.len HL3.out⟩)
      have HB4 := Lib.hid hb4
      clear hsp hb4
      go_wp2_with fail
      refine hK _ _ ?_ ?_ ?_ ?_
      · rfl
      · exact HB4.out
      · exact HG4.out
      · trivial
    · intro V W hb hd K hK _
      clear hd
      go_wp2_with fail
      refine hK _ _ ?_ ?_ ?_ ?_
      · rfl
      · exact Below.refl _ _
      · exact rfl
      · trivial
    · intro V W hb hd K hK _
      clear hd
      go_wp2_with fail
      refine hK _ _ ?_ ?_ ?_ ?_
      · rfl
      · exact Below.refl _ _
      · exact rfl
      · trivial
    · intro V W hb hd K hK _
      have h5 : (V 44) = .slice (some ⟨bb, off, none⟩) n ca := hd 5 (by kernel_rfl)
      have h6 : (V 45) = .int .i64 k := hd 6 (by kernel_rfl)
      clear hd
      have hLd := Lib.hid (Lst.takeAt (HRA.out.row.below hb) k (by omega))
      go_wp2_with fail
      refine hK _ _ ?_ ?_ ?_ ?_
      · rfl
      · exact Below.refl _ _
      · first | exact ⟨_, rfl, hLd.out⟩ | (trace_state; sorry)
      · trivial
    · intro V W hb hd hap
      have h4 : Grow W w3.heap.size 49 (V 43) (n - k) (RA.drop k) := hd 4 (by decide)
      have h7 : ∃ c, (V 46) = .slice (some ⟨bb, off, none⟩) k c ∧ Lst 7 enR W (V 46) (RA.take k) := hd 7 (by decide)
      clear hd hap
      simp only [List.drop_succ_cons, List.drop_zero]
      obtain ⟨c7, e7, hl7⟩ := h7
      rw [e7] at hl7
      have HL7 := Lib.hid hl7
      have HG4 := Lib.hid h4
      have HBw := Lib.hid hb
      have hne4 : V 43 ≠ .slice none 0 0 := fun e => by
        obtain ⟨ao4, cap4, e5⟩ := own_slice h4.row.own
        rw [e] at e5
        injection e5 with _ q _
        omega
      have hsz := hb.size
      clear hl7 hb h4
      go_wp2_with (at_builtin; refine wpList_append_reps rfl (.tmp 43) (.tmp 46) rfl Tryz.underlying43 info_Rep w3.heap.size (V 43) (n - k) _ rfl HG4.out.row ⟨bb, off, none⟩ k c7 (RA.take k) (by first | exact e7 | rfl) HL7.out (fun x hx => (HRA.out.con x (List.mem_of_mem_take hx)).forms) (Or.inr hne4) (by omega) hsz ?_)
      intro v8 w8 hsp hgr hkp hloc
      have HG8 := Lib.hid (HG4.out.moreL (Nat.le_trans HN0.out HB3.out.size) (fun x hx => (HRA.out.con x (List.mem_of_mem_take hx)).below HBw.out) (Lst.len HL7.out) hsp hgr)
      have HB8 := Lib.hid (HG4.out.belowB HBw.out hgr hsz)
      have hnk : n - k + k = n := by omega
      rw [hnk] at HG8
      obtain ⟨R8, hR8⟩ : ∃ R, R = RA.drop k ++ RA.take k := ⟨_, rfl⟩
      rw [← hR8] at HG8
      have HP8 := Lib.hid (show RA.Perm R8.reverse by
        rw [hR8]
        refine (List.Perm.symm ?_)
        refine (List.reverse_perm _).trans ?_
        refine List.perm_append_comm.trans ?_
        rw [List.take_append_drop])
      obtain ⟨o8, c8, e8⟩ := own_slice HG8.out.row.own
      subst e8
      have hl8 : n = R8.length := HG8.out.len
      have hrv := reverseR_any w3.heap.size (.slice o8 n c8) R8 w8 (by rw [← hl8]; exact HG8.out.row.own) HG8.out.forms (by omega)
      unfold RevR at hrv
      have HRV := Lib.hid hrv
      have HL8 := Lib.hid hl8
      clear hsp hgr hkp hloc e7 hne4 hnk hR8 hl8 hrv HL7 HG4 HBw
      go_wp2_with fail
      refine HRV.out.mono ?_
      rintro e w9 ⟨rfl, ho9, hg9⟩
      have HR9 := Lib.hid (show RRow w9 (.slice o8 n c8) R8.reverse from ⟨Lst.owned enR_len (by decide) (show n = R8.reverse.length by rw [List.length_reverse]; exact HL8.out) (show w9.ownsRow w3.heap.size 49 7 (.slice o8 n c8) n _ by have h := ho9; rw [← HL8.out] at h; exact h), fun x hx => lies_keptZ (HG8.out.con x (List.mem_reverse.1 hx)) (Nat.le_trans HN0.out HB3.out.size) HG8.out.row (plain_R HG8.out.forms) hg9⟩)
      have HB9 := Lib.hid (HG8.out.belowB HB8.out hg9 HB8.out.size)
      clear ho9 hg9 HRV HG8
      have HTW := Lib.hid (fun W (h : RowKit.Below w9.heap.size w9 W) => HT.out.below (below_then HB3.out (Nat.le_refl _) (below_then HB9.out (Nat.le_refl _) h)))
      have HR3 := Lib.hid (fun W (h : RowKit.Below w9.heap.size w9 W) => HRA.out.below (below_then HB9.out (Nat.le_refl _) h))
      have HSW := Lib.hid (fun W (h : RowKit.Below w9.heap.size w9 W) => HS3.out.below (below_then HB9.out (Nat.le_refl _) h))
      obtain ⟨-, s0, s1, s2, -⟩ := HSW.out w9 (Below.refl _ _)
      simp only [] at s0 s1 s2
      have hcb := fun W (h : RowKit.Below w9.heap.size w9 W) => c_combine (.slice (some ⟨bb, off, none⟩) n ca) RA 15 ⟨ep, el, ew⟩ W (HTW.out W h) (HR3.out W h) HGA.out (by have := HLA.out; omega) (by decide)
      have hcb2 := fun W (h : RowKit.Below w9.heap.size w9 W) => c_combine (.slice o8 n c8) R8.reverse 15 ⟨ep, el, ew⟩ W (HTW.out W h) (HR9.out.below h) (fun x hx => HGA.out x (HP8.out.mem_iff.2 hx)) (by rw [← HP8.out.length_eq]; have := HLA.out; omega) (by decide)
      have hpe := combF_perm HP8.out (⟨ep, el, ew⟩ : Stp)
      have hgd := combF_good HGA.out (⟨ep, el, ew⟩ : Stp)
      rw [HLA.out] at hgd
      simp only [← hpe] at hcb2
      generalize combF RA (⟨ep, el, ew⟩ : Stp) = F at hcb hcb2 hgd
      obtain ⟨fc, ⟨fp, fl, fw⟩, fq⟩ := F
      unfold vS RetCSB at hcb hcb2
      simp only [] at hcb hcb2 hgd
      have HCB := Lib.hid hcb
      have HCB2 := Lib.hid hcb2
      have HGD := Lib.hid (show Good fc 90 from hgd.more (by omega))
      clear hcb hcb2 hgd hpe
      go_wp2_with fail
      refine (HCB.out w9 (Below.refl _ _)).mono ?_
      rintro e w10 ⟨vc, rfl, hc10, hb10⟩
      obtain ⟨p1, q1, r1, p2, q2, r2, p3, q3, r3, rfl, hl10⟩ := hc10.form
      have HL10 := Lib.hid hl10
      have HB10 := Lib.hid hb10
      clear hl10 hc10 hb10 s0 s1 s2
      go_upto_region 10 with fail
      obtain ⟨W11, hW⟩ : ∃ W, W = (w10.alloc (.cells #[.slice p1 q1 r1, .slice p2 q2 r2, .slice p3 q3 r3] 25)).alloc (.cells #[.int .i64 fp, .int .i64 fl, .int .i64 fw] 32) := ⟨_, rfl⟩
      rw [← hW]
      have hb11 : RowKit.Below w10.heap.size w10 W11 := by rw [hW]; exact ((Below.refl _ _).alloc (Nat.le_refl _) _).alloc (by simp) _
      have x3 : C3 W11 w10.heap.size (.slice p1 q1 r1) (.slice p2 q2 r2) (.slice p3 q3 r3) := by
        rw [hW]
        exact (C3.new w10 _ _ _).below ((Below.refl _ _).alloc (Nat.le_refl _) _)
      have y3 : S3 W11 (w10.heap.size + 1) ⟨fp, fl, fw⟩ := by
        rw [hW]
        have := S3.new (w10.alloc (.cells #[.slice p1 q1 r1, .slice p2 q2 r2, .slice p3 q3 r3] 25)) ⟨fp, fl, fw⟩
        rwa [World.size_alloc] at this
      obtain ⟨n10, hn10⟩ : ∃ n, n = w10.heap.size := ⟨_, rfl⟩
      rw [← hn10] at x3 y3 ⊢
      have HX11 := Lib.hid x3
      have HY11 := Lib.hid y3
      have HL11 := Lib.hid (HL10.out.below hb11)
      have HB11 := Lib.hid (below_then HB10.out (Nat.le_refl _) hb11)
      clear hW hb11 x3 y3 hn10 HL10 HB10
      obtain ⟨-, s0, s1, s2, -⟩ := HSW.out W11 HB11.out
      simp only [] at s0 s1 s2
      go_wp2_with fail
      refine (HCB2.out W11 HB11.out).mono ?_
      rintro e w12 ⟨vd, rfl, hc12, hb12⟩
      obtain ⟨p4, q4, r4, p5, q5, r5, p6, q6, r6, rfl, hl12⟩ := hc12.form
      have HL12 := Lib.hid hl12
      have HB12 := Lib.hid (below_then HB11.out (Nat.le_refl _) hb12)
      have HX12 := Lib.hid (HX11.out.below hb12)
      have HY12 := Lib.hid (HY11.out.below hb12)
      have HLb := Lib.hid (HL11.out.below hb12)
      clear hl12 hc12 hb12 s0 s1 s2
      go_upto_region 11 with fail
      obtain ⟨W13, hW⟩ : ∃ W, W = (w12.alloc (.cells #[.slice p4 q4 r4, .slice p5 q5 r5, .slice p6 q6 r6] 25)).alloc (.cells #[.int .i64 fp, .int .i64 fl, .int .i64 fw] 32) := ⟨_, rfl⟩
      rw [← hW]
      have hb13 : RowKit.Below w12.heap.size w12 W13 := by rw [hW]; exact ((Below.refl _ _).alloc (Nat.le_refl _) _).alloc (by simp) _
      have x3 : C3 W13 w12.heap.size (.slice p4 q4 r4) (.slice p5 q5 r5) (.slice p6 q6 r6) := by
        rw [hW]
        exact (C3.new w12 _ _ _).below ((Below.refl _ _).alloc (Nat.le_refl _) _)
      have y3 : S3 W13 (w12.heap.size + 1) ⟨fp, fl, fw⟩ := by
        rw [hW]
        have := S3.new (w12.alloc (.cells #[.slice p4 q4 r4, .slice p5 q5 r5, .slice p6 q6 r6] 25)) ⟨fp, fl, fw⟩
        rwa [World.size_alloc] at this
      obtain ⟨n12, hn12⟩ : ∃ n, n = w12.heap.size := ⟨_, rfl⟩
      rw [← hn12] at x3 y3 ⊢
      have HX13 := Lib.hid x3
      have HY13 := Lib.hid y3
      have HL13 := Lib.hid (HL12.out.below hb13)
      have HLc := Lib.hid (HLb.out.below hb13)
      have HB13 := Lib.hid (below_then HB12.out (Nat.le_refl _) hb13)
      have HXc := Lib.hid (HX12.out.below hb13)
      have HYc := Lib.hid (HY12.out.below hb13)
      clear hW hb13 x3 y3 hn12 HL12 HB12 HLb HX12 HY12 HX11 HY11 HL11 HB11
      obtain ⟨-, s0, s1, s2, -⟩ := HX13.out
      obtain ⟨-, t0, t1, t2, -⟩ := HXc.out
      go_wp2_with fail
      refine (c_same (n := 90) (n' := 90) true ⟨fun _ => rfl, fun _ => rfl⟩ HLc.out.is HGD.out HL13.out.is HGD.out (by decide) (by decide)).mono ?_
      rintro e w14 ⟨rfl, hb14⟩
      have HY14 := Lib.hid (HY13.out.below hb14)
      have HYd := Lib.hid (HYc.out.below hb14)
      have HB14 := Lib.hid (below_then HB13.out (Nat.le_refl _) hb14)
      clear hb14 s0 s1 s2 t0 t1 t2
      obtain ⟨-, s0, s1, s2, -⟩ := HY14.out
      obtain ⟨-, t0, t1, t2, -⟩ := HYd.out
      simp only [] at s0 s1 s2 t0 t1 t2
      have hq1 := eqlT_run ⟨fp, fl, fw⟩ ⟨fp, fl, fw⟩ true ((eqT_iff _ _).2 rfl)
      simp only [] at hq1
      have hq2 := guardT_run .eql
      have hqb : (fq == fq) = true := by simp
      go_wp2_with fail
      refine (alive25_any _ (HTW.out _ HB14.out)).mono ?_
      rintro e w15 ⟨rfl, hb15⟩
      have HB15 := Lib.hid (below_then HB3.out (Nat.le_refl _) (below_then HB9.out (Nat.le_refl _) (below_then HB14.out (Nat.le_refl _) hb15)))
      clear hb15
      go_wp2_with fail
      go_ret
      exact ⟨rfl, HB15.out⟩
end Go.Proofs.YtipoeigehabbmaaGreatDoor.Mut
