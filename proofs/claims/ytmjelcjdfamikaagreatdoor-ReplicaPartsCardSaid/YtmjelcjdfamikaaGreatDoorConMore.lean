/- ConCat, ConAll, ConJoin, ConSame, ConGreat, ConAlive, ConRows: in one text. -/
import Derived.Test.YtmjelcjdfamikaaGreatDoorConStore
import Derived.Lib.AppendZeros
import Derived.Test.YtmjelcjdfamikaaGreatDoorMutSort
import Derived.Test.YtmjelcjdfamikaaGreatDoorMutRows
import Derived.KernelRfl
set_option linter.unusedSimpArgs false
set_option linter.unusedVariables false
/- The walks of slices.Grow at nil and slices.Concat of three rows of mutations (layer 8). -/
namespace Go.Proofs.YtmjelcjdfamikaaGreatDoor.Mut
open Go.RowKit Go.Sort Go.Proofs.YtmjelcjdfamikaaGreatDoor.Ord
set_option linter.unusedSectionVars false
variable [Inhabited Lim]

def RoomP (w : World) (r : Ending) (w' : World) : Prop := ∃ v, r = .returned v ∧ w'.ownsRow w.heap.size 40 10 v 0 [] ∧ RowKit.Below w.heap.size w w'
set_option maxHeartbeats 2000000 in
set_option maxRecDepth 100000 in
theorem grow_nil (n : Nat) (w : World) (hn : n ≤ 1000000) : Calls Tryz.prog 214 #[.slice none 0 0, .int .i64 n] w (RoomP w) := by
  by_cases h0 : n = 0
  · subst h0
    go_enter Tryz.func214, Tryz.ntmps214
    go_wp2_with fail
    go_ret
    exact ⟨_, rfl, World.ownsRow_nil _ _ _ _, Below.refl _ _⟩
  · obtain ⟨i0, hi, hz0, hz1, hz2⟩ := info_parts info_M
    obtain ⟨G, hG⟩ : ∃ G, G = grownCap w n 0 40 := ⟨_, rfl⟩
    have hGm : G ≤ maxLen := by rw [hG]; exact grownCap_le_maxLen w n 0 40 (by unfold maxLen; omega)
    have hGn : n ≤ G := by rw [hG]; exact grownCap_ge w _ _ _
    obtain ⟨row, hrow⟩ : ∃ row : List Value, row = (Builtin.zeroCells zeroM.cells n ++ Builtin.zeroCells zeroM.cells (G - n)).toList := ⟨_, rfl⟩
    have hrl : row.length = G * 10 := by
      have e1 : zeroM.cells.size = 10 := rfl
      rw [hrow, Array.length_toList, Array.size_append, size_zeroCells, size_zeroCells, e1]
      omega
    have hrz : ∀ ty, (Builtin.append_ #[22, 3] ty #[.slice none 0 0, .int .i64 n]).run Tryz.prog w = .ok (.slice (some ⟨w.heap.size, 0, none⟩) n G) (w.drew.alloc (.cells ⟨row⟩ 40)) := fun ty => by
      have h := Lib.run_append_nil_zeros w 22 3 ty 40 i0 _ .i64 .i64 Tryz.underlying22 Tryz.underlying3 hi hz0 n (by omega) (by omega) (by omega) (by rw [hz2]; omega)
      rw [← hG] at h
      rw [h, hrow]
    have RZ := Lib.hid hrz
    have HRL := Lib.hid hrl
    have HGM := Lib.hid hGm
    clear hrz hrl hrow hG hi hz0 hz1 hz2 hGm
    go_enter Tryz.func214, Tryz.ntmps214
    go_wp2_with (at_builtin; refine Lib.wpList_append_run _ rfl _ _ 22 3 rfl _ _ rfl rfl _ _ (RZ.out _) ?_)
    go_ret
    refine ⟨_, rfl, own_mk (xs := []) (spare := row) (Nat.le_refl _) ?_ (Nat.zero_le _) HGM.out (by simpa using HRL.out) rfl, (Below.refl _ _).drew.alloc (by simp) _⟩
    exact heap_alloc_new w.drew _
/-- The first rows of three, one behind the other. -/
def cat3 (A B D : List Ro) : Nat → List Ro
  | 0 => []
  | 1 => A
  | 2 => A ++ B
  | _ => A ++ (B ++ D)
structure Cat3 (g : Nat) (a b d : Value) (A B D : List Ro) (w : World) : Prop where
  lt : g < w.heap.size
  c0 : w.cell? ⟨g, 0, none⟩ = some a
  c1 : w.cell? ⟨g, 1, none⟩ = some b
  c2 : w.cell? ⟨g, 2, none⟩ = some d
  r0 : MRow w a A
  r1 : MRow w b B
  r2 : MRow w d D
theorem Cat3.below {g : Nat} {a b d : Value} {A B D : List Ro} {w w' : World} (h : Cat3 g a b d A B D w) (hb : RowKit.Below w.heap.size w w') : Cat3 g a b d A B D w' :=
  ⟨Nat.lt_of_lt_of_le h.lt hb.size, (hb.cell (p := ⟨g, 0, none⟩) h.lt).trans h.c0, (hb.cell (p := ⟨g, 1, none⟩) h.lt).trans h.c1, (hb.cell (p := ⟨g, 2, none⟩) h.lt).trans h.c2, h.r0.below hb, h.r1.below hb, h.r2.below hb⟩
theorem Cat3.get {g : Nat} {a b d : Value} {A B D : List Ro} {w : World} (h : Cat3 g a b d A B D w) {k : Nat} (hk : k < 3) : ∃ X ao cap, w.cell? ⟨g, k, none⟩ = some (.slice ao X.length cap) ∧ MRow w (.slice ao X.length cap) X ∧ cat3 A B D (k + 1) = cat3 A B D k ++ X := by
  obtain ⟨ao0, c0, e0, -, -⟩ := h.r0.form
  obtain ⟨ao1, c1, e1, -, -⟩ := h.r1.form
  obtain ⟨ao2, c2, e2, -, -⟩ := h.r2.form
  rcases k with _ | _ | _ | k
  · exact ⟨A, ao0, c0, by rw [h.c0, e0], e0 ▸ h.r0, rfl⟩
  · exact ⟨B, ao1, c1, by rw [← e1]; exact h.c1, e1 ▸ h.r1, rfl⟩
  · exact ⟨D, ao2, c2, by rw [← e2]; exact h.c2, e2 ▸ h.r2, by simp [cat3]⟩
  · omega
theorem cat3_len {A B D : List Ro} (k : Nat) : (cat3 A B D k).length ≤ (A ++ (B ++ D)).length := by
  unfold cat3
  split <;> simp <;> omega

theorem run_append_owned_none' {P : Program} {w : World} (base : Nat) (t ty e : TypeId) (i : TypeInfo) (size c : Nat) (ht : P.underlying t = some (.slice e)) (hi : P.info? e = some i)
    (v : Value) (n : Nat) (xs : List Value) (hown : w.ownsRow base e size v n xs) :
    (Builtin.append_ #[t, t] ty #[v, .slice none 0 c]).run P w = .ok v w := by
  rcases hown.2 with ⟨rfl, rfl⟩ | ⟨g, cap, cur, rfl, _, _, hnc, _⟩
  · simp [Builtin.append_, run_underlying ht, sizeOf, typeInfo, hi, Builtin.lenOf, Builtin.firstCells]
  · simp [Builtin.append_, run_underlying ht, sizeOf, typeInfo, hi, Builtin.lenOf, Builtin.firstCells, hnc, storeCells]
theorem wpList_append_own_none' {P : Program} {w : World} {ops : Array Oper} {rest : List Oper} {o : Oper} {a : Act} {Q : Exit → Act → World → Prop} (hgd : o.guard = none) (s x : Operand) (t : TypeId)
    (ho : o.op = .call { callee := .builtin .append, args := #[s, x], argTypes := #[t, t] })
    (base : Nat) (e : TypeId) (i : TypeInfo) (size c : Nat) (ht : P.underlying t = some (.slice e)) (hi : P.info? e = some i)
    (v : Value) (n : Nat) (xs : List Value) (hs : a.eval s = v) (hown : w.ownsRow base e size v n xs) (hx : a.eval x = .slice none 0 c)
    (h : wpList P ops Q rest (a.put o.dst v) w) : wpList P ops Q (o :: rest) a w := by
  refine wpList_plain hgd fun K hK => ?_
  have hrun := run_append_owned_none' (P := P) (w := w) base t o.type e i size c ht hi v n xs hown
  unfold Oper.wp
  simp [execOp, ho, resolve, invoke, builtin, hs, hx, hrun, Result.andThen]
  exact hK _ _ h
theorem MRow.nil_of {w : World} {n cap : Nat} {R : List Ro} (h : MRow w (.slice none n cap) R) : R = [] := by
  cases R with
  | nil => rfl
  | cons x l => obtain ⟨b, off, e, _⟩ := Lst.get h.row (show 0 < (x :: l).length by simp); cases e

set_option maxHeartbeats 4000000 in
set_option maxRecDepth 100000 in
theorem concat_any (g : Nat) (a b d : Value) (A B D : List Ro) (w : World) (h : Cat3 g a b d A B D w) (hn : (A ++ (B ++ D)).length ≤ 100000) :
    Calls Tryz.prog 177 #[.slice (some ⟨g, 0, none⟩) 3 3] w (OwnP 40 10 enM w (A ++ (B ++ D))) := by
  have HG := Lib.hid (fun (z : World) (m : Nat) (hm : m ≤ 1000000) => grow_nil m z hm)
  have HH := Lib.hid h
  have hz : g < w.heap.size := h.lt
  obtain ⟨i0, hi, hz0, hz1, hz2⟩ := info_parts info_M
  have HI := Lib.hid hi
  have HZ0 := Lib.hid hz0
  have HZ1 := Lib.hid hz1
  have HZ2 := Lib.hid hz2
  obtain ⟨C, hC⟩ : ∃ C : Nat → List Ro, C = cat3 A B D := ⟨_, rfl⟩
  have HC3 := Lib.hid (show A ++ (B ++ D) = C 3 from by rw [hC]; rfl)
  have HC0 := Lib.hid (show C 0 = [] from by rw [hC]; rfl)
  have HCl := Lib.hid (fun k => (show (C k).length ≤ 100000 from by rw [hC]; exact Nat.le_trans (cat3_len k) hn))
  have HCs := Lib.hid (fun (z : World) (hzb : RowKit.Below w.heap.size w z) (k : Nat) (hk : k < 3) => show ∃ X ao cap, z.cell? ⟨g, k, none⟩ = some (.slice ao X.length cap) ∧ MRow z (.slice ao X.length cap) X ∧ C (k + 1) = C k ++ X from by rw [hC]; exact (h.below hzb).get hk)
  rw [HC3.out]
  clear hi hz0 hz1 hz2 h hC hn
  go_enter Tryz.func177, Tryz.ntmps177
  go_wp2_with fail
  go_loop [3, 11] (fun sv iv => ∃ k m : Nat, k ≤ 3 ∧ iv = .int .i64 k ∧ sv = .int .i64 m ∧ Hid (m = (C k).length)) (fun _ iv => 3 - (intOf iv).toNat)
  case atStart => exact ⟨0, 0, by omega, rfl, rfl, Lib.hid (by rw [HC0.out]; rfl)⟩
  case round =>
    obtain ⟨k, m, hk, rfl, rfl, hm⟩ := hrel
    have hml : m ≤ 100000 := by rw [hm.out]; exact HCl.out k
    by_cases hlt : k < 3
    · obtain ⟨X, ao, cap, hc, -, hcat⟩ := HCs.out w (Below.refl _ _) k hlt
      have hlen : (C (k + 1)).length = (C k).length + X.length := by rw [hcat]; simp
      have hm2 := HCl.out (k + 1)
      obtain ⟨mx, hmx⟩ : ∃ q, q = X.length := ⟨_, rfl⟩
      rw [← hmx] at hc hlen
      have hmx2 : m + mx ≤ 100000 := by rw [hm.out]; omega
      have HM := Lib.hid (show m + mx = (C (k + 1)).length by rw [hm.out, hlen])
      clear hlen hm2 hcat hmx
      go_wp2
      go_round
      case rel => exact ⟨k + 1, m + mx, by omega, by go_num, by go_num, HM⟩
      case measure => simp [intOf]; omega
    · obtain rfl : k = 3 := by omega
      go_wp2_with fail
      refine (HG.out _ m (by omega)).mono ?_
      rintro e w1 ⟨v, rfl, hown, hb1⟩
      have HO := Lib.hid (show w1.ownsRow w.heap.size 40 10 v (C 0).length ((C 0).flatMap enM) from by rw [HC0.out]; exact hown)
      have HB1 := Lib.hid hb1
      clear hown hb1 hm
      go_wp2_with fail
      go_loopw [6, 27] (fun ov iv wr => ∃ k : Nat, k ≤ 3 ∧ iv = .int .i64 k ∧ Hid (wr.ownsRow w.heap.size 40 10 ov (C k).length ((C k).flatMap enM)) ∧ Hid (RowKit.Below w.heap.size w wr)) (fun _ iv _ => 3 - (intOf iv).toNat)
      case atStart => exact ⟨0, by omega, rfl, HO, HB1⟩
      case round =>
        obtain ⟨k, hk, rfl, hown, hbl⟩ := hrel
        by_cases hlt : k < 3
        · obtain ⟨X, ao, cap, hc, hX, hcat⟩ := HCs.out _ hbl.out k hlt
          have HCAT := Lib.hid hcat
          have hm2 := HCl.out (k + 1)
          have hlen : (C (k + 1)).length = (C k).length + X.length := by rw [hcat]; simp
          have hsum : (C k).length + X.length ≤ 100000 := by omega
          have HX := Lib.hid hX
          have HS := Lib.hid hsum
          have hbs := hbl.out.size
          clear hcat hm2 hlen hX hsum
          cases ao with
          | none =>
            have h0 := HX.out.nil_of
            have HX0 := Lib.hid h0
            rw [h0] at hc
            clear h0
            go_wp2_with (at_builtin; refine wpList_append_own_none' rfl _ _ 22 rfl w.heap.size 40 i0 10 cap Tryz.underlying22 HI.out _ _ _ rfl hown.out rfl ?_)
            go_roundw
            case rel => exact ⟨k + 1, by omega, by go_num, by rw [HCAT.out, HX0.out, List.append_nil]; exact hown, hbl⟩
            case measure => simp [intOf]; omega
          | some ad =>
            obtain ⟨mx, hmx⟩ : ∃ q, q = X.length := ⟨_, rfl⟩
            rw [← hmx] at hc
            have HMX := Lib.hid hmx
            have hmm : mx ≤ 100000 := by have := HS.out; omega
            clear hmx
            go_wp2_with (at_builtin; refine wpList_append_own _ rfl _ _ 22 rfl w.heap.size 40 i0 zeroM 10 120 Tryz.underlying22 HI.out HZ0.out HZ1.out HZ2.out rfl (by decide) _ _ _ rfl hown.out ad mx cap (X.flatMap enM) rfl ?c1 ?c2 ?c3 ?c4 ?c5 ?c6 ?_)
            case c1 => rw [HMX.out]; exact flatMap_len enM_len X
            case c2 => exact Lst.news enM_len (by decide) HX.out.row
            case c3 => exact flatM_one HX.out.forms
            case c4 => have := HS.out; have := HMX.out; unfold maxLen; omega
            case c5 => have := HS.out; have := HMX.out; omega
            case c6 => exact hbs
            intro v' w3 hown3 hgrow3 _
            have hb3 : RowKit.Below w.heap.size w w3 := hbl.out.grown hgrow3 hbs (fun k hk => (World.ownsRow.lt hown.out k hk).1)
            have HO3 := Lib.hid (show w3.ownsRow w.heap.size 40 10 v' (C (k + 1)).length ((C (k + 1)).flatMap enM) from by rw [HCAT.out, List.length_append, List.flatMap_append, ← HMX.out]; exact hown3)
            have HB3 := Lib.hid hb3
            clear hown3 hgrow3 hb3
            go_wp2
            go_roundw
            case rel => exact ⟨k + 1, by omega, by go_num, HO3, HB3⟩
            case measure => simp [intOf]; omega
        · obtain rfl : k = 3 := by omega
          go_wp2_with fail
          go_ret
          exact ⟨_, rfl, hown.out, hbl.out⟩
end Go.Proofs.YtmjelcjdfamikaaGreatDoor.Mut

/- The walk of state.Content.All (layer 8). -/
namespace Go.Proofs.YtmjelcjdfamikaaGreatDoor.Mut
open Go.RowKit Go.Sort Go.Proofs.YtmjelcjdfamikaaGreatDoor.Ord
set_option linter.unusedSectionVars false
variable [Inhabited Lim]

/-- All of a content, rising, in memory that the call has made. -/
def AllP (w : World) (c : Con) (e : Ending) (w' : World) : Prop :=
  ∃ g cap R, e = .returned (.slice (some ⟨g, 0, none⟩) c.all.length cap) ∧ Copied w' (.slice (some ⟨g, 0, none⟩) c.all.length cap) R w.heap.size ∧ (R.map (·.1)).Perm c.all ∧ (R.map (·.1)).Pairwise (fun a b => muC a b ≤ 0) ∧ RowKit.Below w.heap.size w w'
theorem Copied.sorted {base g cap n : Nat} {w w' : World} {R R' : List Ro} (h : Copied w (.slice (some ⟨g, 0, none⟩) n cap) R base) (hp : R'.Perm R) (ho : w'.ownsRow base 40 10 (.slice (some ⟨g, 0, none⟩) n cap) R'.length (R'.flatMap enM)) (hg : w.grownBy w' (some g)) : Copied w' (.slice (some ⟨g, 0, none⟩) n cap) R' base := by
  refine ⟨ho, fun x hx => ?_⟩
  have h1 := h.over x (hp.mem_iff.1 hx)
  exact h1.kept hg (rows_apart h1 h.row (by decide))
theorem Copied.okay {base g cap n : Nat} {w : World} {R : List Ro} (h : Copied w (.slice (some ⟨g, 0, none⟩) n cap) R base) (hs : ∀ x ∈ R, Small x.1) : ∀ x ∈ R, Okay w (some g) x := by
  intro x hx
  have h1 := h.over x hx
  refine ⟨fun w' hg => Over.own (h1.kept hg (rows_apart h1 h.row (by decide))), (hs x hx).over⟩
/-- slices.SortFunc of a row of copies. -/
theorem sort_copied (base g cap : Nat) (R : List Ro) (w : World) (h : Copied w (.slice (some ⟨g, 0, none⟩) R.length cap) R base) (hs : ∀ x ∈ R, Small x.1) (hn : R.length ≤ 1000000) :
    Calls Tryz.prog 64 #[.slice (some ⟨g, 0, none⟩) R.length cap, .func (.func 65) #[] #[]] w fun e w' =>
      e = .returned (.tuple #[]) ∧ ∃ R' : List Ro, R'.Perm R ∧ R'.Pairwise (fun a b => muC a.1 b.1 ≤ 0) ∧ Copied w' (.slice (some ⟨g, 0, none⟩) R.length cap) R' base ∧ w.grownBy w' (some g) := by
  refine (sort_some base g cap R w h.row (h.okay hs) hn).mono ?_
  rintro e w' ⟨rfl, R', hp, hs, ho, hg⟩
  exact ⟨rfl, R', hp, hs, h.sorted hp ho hg, hg⟩

set_option maxHeartbeats 4000000 in
set_option maxRecDepth 100000 in
theorem all_any (a b d : Value) (c : Con) (n : Nat) (w : World) (hc : Lies w a b d c) (hO : Okc c n) (hn : n ≤ 100000) :
    Calls Tryz.prog 127 #[.agg #[a, b, d]] w (AllP w c) := by
  obtain ⟨ao, na, ac, rfl⟩ := hc.cells.slice
  obtain ⟨bo, nb, bc, rfl⟩ := hc.wipes.slice
  obtain ⟨dd, nd, dc, rfl⟩ := hc.sibs.slice
  obtain ⟨A, eA, hA⟩ := hc.cells
  obtain ⟨B, eB, hBr⟩ := hc.wipes
  obtain ⟨D, eD, hD⟩ := hc.sibs
  have eall : (A ++ (B ++ D)).map (·.1) = c.all := by rw [List.map_append, List.map_append, eA, eB, eD]; rfl
  have hlen : (A ++ (B ++ D)).length = c.all.length := by rw [← eall, List.length_map]
  have hsm : ∀ x ∈ A ++ (B ++ D), Small x.1 := fun x hx => small_right (hO.right _ (by rw [← eall]; exact List.mem_map.2 ⟨x, hx, rfl⟩))
  have hlen2 := hO.len
  obtain ⟨L, hL⟩ : ∃ L, L = A ++ (B ++ D) := ⟨_, rfl⟩
  have HCat := Lib.hid (fun (z : World) (h : Cat3 (w.heap.size + 1) (.slice ao na ac) (.slice bo nb bc) (.slice dd nd dc) A B D z) => concat_any (w.heap.size + 1) _ _ _ A B D z h (by omega))
  rw [← hL] at eall hlen hsm HCat
  have HMR := Lib.hid (fun x (hx : x ∈ L) => show Over w x from by
    rw [hL] at hx
    rcases List.mem_append.1 hx with h | h
    · exact hA.over x h
    · rcases List.mem_append.1 h with h | h
      · exact hBr.over x h
      · exact hD.over x h)
  have HR := Lib.hid (And.intro hA (And.intro hBr hD))
  have HE := Lib.hid eall
  have HLEN := Lib.hid hlen
  have HSM := Lib.hid hsm
  have hln : L.length ≤ 100000 := by omega
  obtain ⟨N, hN⟩ : ∃ N, N = L.length := ⟨_, rfl⟩
  have HN := Lib.hid hN
  unfold AllP
  rw [← hlen, ← hN]
  rw [← hN] at hln
  clear hA hBr hD eall hlen hsm hc hO hL eA eB eD hlen2 hN
  go_enter Tryz.func127, Tryz.ntmps127
  go_wp2_with fail
  have hC3 := (C3.new (w.alloc (.cells #[.slice ao na ac, .slice bo nb bc, .slice dd nd dc] 26)) (.slice ao na ac) (.slice bo nb bc) (.slice dd nd dc))
  have hb0 := ((Below.refl _ w).alloc (Nat.le_refl _) (.cells #[.slice ao na ac, .slice bo nb bc, .slice dd nd dc] 26)).alloc (by simp) (.cells #[.slice ao na ac, .slice bo nb bc, .slice dd nd dc] 22)
  have h3 : Cat3 (w.heap.size + 1) (.slice ao na ac) (.slice bo nb bc) (.slice dd nd dc) A B D ((w.alloc (.cells #[.slice ao na ac, .slice bo nb bc, .slice dd nd dc] 26)).alloc (.cells #[.slice ao na ac, .slice bo nb bc, .slice dd nd dc] 22)) :=
    ⟨by simp, by go_simp, by go_simp, by go_simp, HR.out.1.below hb0, HR.out.2.1.below hb0, HR.out.2.2.below hb0⟩
  have HB0 := Lib.hid hb0
  refine (HCat.out _ h3).mono ?_
  rintro e w1 ⟨v1, rfl, hown1, hb1⟩
  have HB1 := Lib.hid (below_then HB0.out (Nat.le_refl _) hb1)
  have hm1 : MRow w1 v1 L := ⟨Lst.owned enM_len (by decide) rfl hown1, fun x hx => (HMR.out x hx).below HB1.out⟩
  have HM1 := Lib.hid hm1
  clear hC3 hb0 h3 hown1 hb1 hm1
  go_wp2_with fail
  refine (copies_any v1 L w1 HM1.out (fun x hx => (HSM.out x hx).over) (by have := HN.out; omega)).mono ?_
  rintro e w2 ⟨v2, R2, rfl, ⟨g, cap, rfl⟩, hmap, hcop, hb2⟩
  have HB2 := Lib.hid (below_then HB1.out (Nat.le_refl _) hb2)
  have hl2 : R2.length = L.length := by have := congrArg List.length hmap; simpa using this
  have hcop := hcop.base HB1.out.size
  have hs2 : ∀ x ∈ R2, Small x.1 := fun x hx => by
    have h1 : x.1 ∈ L.map (·.1) := by rw [← hmap]; exact List.mem_map.2 ⟨x, hx, rfl⟩
    obtain ⟨y, hy, e⟩ := List.mem_map.1 h1
    rw [← e]; exact HSM.out y hy
  rw [← hl2] at hcop
  have hsrt := sort_copied w.heap.size g cap R2 w2 hcop hs2 (by have := HN.out; omega)
  rw [hl2, ← HN.out] at hsrt
  have HSRT := Lib.hid hsrt
  have HMP := Lib.hid hmap
  have hgb := (hcop.row.lt g rfl).1
  rw [← HN.out]
  clear hsrt hmap hcop hl2 hs2 hb2
  go_wp2_with fail
  refine HSRT.out.mono ?_
  rintro e w3 ⟨rfl, R3, hp, hs, hcop, hg⟩
  have HB3 := Lib.hid (HB2.out.grown hg HB2.out.size (fun k hk => by have e2 : g = k := (by injection hk); omega))
  have HF := Lib.hid (And.intro hp (And.intro hs hcop))
  clear hp hs hcop hg
  go_wp2_with fail
  go_ret
  refine ⟨g, cap, R3, rfl, HF.out.2.2, ?_, List.pairwise_map.2 HF.out.2.1, HB3.out⟩
  have h1 := HF.out.1.map (·.1)
  rw [HMP.out, HE.out] at h1
  exact h1
end Go.Proofs.YtmjelcjdfamikaaGreatDoor.Mut

/- The walks of state.Join (layer 8). -/
namespace Go.Proofs.YtmjelcjdfamikaaGreatDoor.Mut
open Go.RowKit Go.Sort Go.Proofs.YtmjelcjdfamikaaGreatDoor.Ord
set_option linter.unusedSectionVars false
variable [Inhabited Lim]

/-- One of the first content, or one of those that come. -/
def Two (S : Mu → Prop) (l : List Mu) (y : Mu) : Prop := S y ∨ Fits l y
theorem two_snoc (S : Mu → Prop) (l : List Mu) (x y : Mu) : Two S (l ++ [x]) y ↔ Two S l y ∨ (y = x ∧ rightF x = true) := by
  unfold Two
  rw [fits_snoc, or_assoc]
theorem two_nil (S : Mu → Prop) (y : Mu) : S y ↔ Two S [] y := by
  unfold Two Fits; simp
theorem two_all {S T : Mu → Prop} {c d : Con} {l : List Mu} (h : Reps (Two S l) c) (hd : Reps T d) (hl : l.Perm d.all) (hr : ∀ m ∈ d.all, rightF m = true) : Reps (fun y => S y ∨ T y) c := by
  refine Reps.of_all hd (h.same fun y => ?_)
  unfold Two Fits
  rw [hl.mem_iff]
  exact or_congr Iff.rfl ⟨fun h => h.1, fun h => ⟨h, hr y h⟩⟩

theorem MRow.plain3 {w w' : World} {v : Value} {R : List Ro} (h : MRow w v R) (hp : Plain3 w w') : MRow w' v R := by
  refine ⟨Lst.plain3 h.row hp enM_len ?_, fun x hx => (h.over x hx).plain3 hp⟩
  intro x j u hu
  by_cases hj : 3 ≤ j
  · exact Or.inl hj
  · refine Or.inr fun ao n c e => ?_
    subst e
    unfold enM at hu
    rcases j with _ | _ | _ | j
    · simp at hu
    · simp at hu
    · simp at hu
    · omega

set_option maxHeartbeats 4000000 in
set_option maxRecDepth 100000 in
theorem join_anyF (a b d a' b' d' : Value) (c c' : Con) (S T : Mu → Prop) (n n' : Nat) (w : World) (hT : Tabs w) (hc : Lies w a b d c) (hR : Reps S c) (hO : Okc c n) (hc' : Lies w a' b' d' c') (hR' : Reps T c') (hO' : Okc c' n') (hn : n + n' ≤ 90000) :
    Calls Tryz.prog 83 #[.agg #[a, b, d], .agg #[a', b', d']] w (ConF (fun base => base ≤ w.heap.size ∧ Fresh base w a b d) w (fun y => S y ∨ T y) (n + n')) := by
  obtain ⟨ao, na, ac, rfl⟩ := hc.cells.slice
  obtain ⟨bo, nb, bc, rfl⟩ := hc.wipes.slice
  obtain ⟨dd, nd, dc, rfl⟩ := hc.sibs.slice
  obtain ⟨ao', na', ac', rfl⟩ := hc'.cells.slice
  obtain ⟨bo', nb', bc', rfl⟩ := hc'.wipes.slice
  obtain ⟨dd', nd', dc', rfl⟩ := hc'.sibs.slice
  have HAL := Lib.hid (fun (z : World) (h : RowKit.Below w.heap.size w z) => all_any _ _ _ c' n' z (hc'.below h) hO' (by omega))
  have HT := Lib.hid hT
  have HC := Lib.hid hc
  have HR := Lib.hid hR
  have HO := Lib.hid hO
  have HR' := Lib.hid hR'
  have HO' := Lib.hid hO'
  have hC0 := ((C3.new w (.slice ao na ac) (.slice bo nb bc) (.slice dd nd dc)).below ((Below.refl _ _).alloc (Nat.le_refl _) (.cells #[.slice ao' na' ac', .slice bo' nb' bc', .slice dd' nd' dc'] 26))).below ((Below.refl _ _).alloc (by simp) (.cells #[.slice none 0 0, .slice none 0 0, .slice none 0 0] 26))
  have hC1 := C3.new ((w.alloc (.cells #[.slice ao na ac, .slice bo nb bc, .slice dd nd dc] 26)).alloc (.cells #[.slice ao' na' ac', .slice bo' nb' bc', .slice dd' nd' dc'] 26)) (.slice none 0 0) (.slice none 0 0) (.slice none 0 0)
  rw [World.size_alloc, World.size_alloc] at hC1
  have hB := (((Below.refl _ w).alloc (Nat.le_refl _) (.cells #[.slice ao na ac, .slice bo nb bc, .slice dd nd dc] 26)).alloc (by simp) (.cells #[.slice ao' na' ac', .slice bo' nb' bc', .slice dd' nd' dc'] 26)).alloc (by simp; omega) (.cells #[.slice none 0 0, .slice none 0 0, .slice none 0 0] 26)
  have HC0 := Lib.hid hC0
  have HC1 := Lib.hid hC1
  have HB0 := Lib.hid hB
  clear hT hc hR hO hc' hR' hO' hC0 hC1 hB
  go_enter Tryz.func83, Tryz.ntmps83
  go_wp2_with fail
  refine (HAL.out _ HB0.out).mono ?_
  rintro e w1 ⟨g, cap, R, rfl, hcop, hperm, -, hb1⟩
  have HB1 := Lib.hid (below_then HB0.out (Nat.le_refl _) hb1)
  have HC01 := Lib.hid (HC0.out.below hb1)
  have HC11 := Lib.hid (HC1.out.below hb1)
  obtain ⟨N, hN⟩ : ∃ N, N = c'.all.length := ⟨_, rfl⟩
  have hNR : N = R.length := by have := hperm.length_eq; rw [List.length_map] at this; rw [hN, this]
  rw [← hN] at hcop ⊢
  have HV := Lib.hid hcop.mrow
  have HN := Lib.hid hNR
  have HP := Lib.hid hperm
  have hNn : N ≤ n' := by rw [hN]; exact HO'.out.len
  have HS := Lib.hid (show ∀ x ∈ R, Small x.1 from fun x hx => small_right (HO'.out.right _ (hperm.mem_iff.1 (List.mem_map.2 ⟨x, hx, rfl⟩))))
  clear hcop hperm hb1 hN hNR
  go_wp2_with fail
  go_loopw [10] (fun iv wr => ∃ (k : Nat), k ≤ N ∧ iv = .int .i64 k ∧ Hid (C3 wr (w.heap.size + 1 + 1) (.slice none 0 0) (.slice none 0 0) (.slice none 0 0)) ∧ Hid (HoldsF (fun base => base ≤ w.heap.size ∧ Fresh base w (.slice ao na ac) (.slice bo nb bc) (.slice dd nd dc)) w w.heap.size (Two S ((R.map (·.1)).take k)) (n + k) wr) ∧ Hid (MRow wr (.slice (some ⟨g, 0, none⟩) N cap) R)) (fun iv _ => N - (intOf iv).toNat)
  case atStart => exact ⟨0, by omega, rfl, HC11, Lib.hid ⟨_, _, _, _, _, _, _, _, _, c, HC01.out, HC.out.below HB1.out, HR.out.same (two_nil S), HO.out, HB1.out, fun base h => h.2.below HB1.out⟩, HV⟩
  case round =>
    obtain ⟨k, hk, rfl, hC, hH, hV⟩ := hrel
    obtain ⟨o1, m1, k1, o2, m2, k2, o3, m3, k3, cc, h3, hl, hr, ho, hb, hfr⟩ := hH.out
    have HFR := Lib.hid hfr
    have HB := Lib.hid hb
    have H3 := Lib.hid h3
    have HL := Lib.hid hl
    have HR := Lib.hid hr
    have HO := Lib.hid ho
    clear h3 hl hr ho hb hfr hH
    obtain ⟨hl3, p0, p1, p2, q0, q1, q2⟩ := H3.out
    by_cases hlt : k < N
    · have hkr : k < R.length := by have := HN.out; omega
      have hget : R[k]? = some R[k] := List.getElem?_eq_getElem hkr
      have hxs := HS.out _ (List.getElem_mem hkr)
      have hxo := hV.out.over _ (List.getElem_mem hkr)
      obtain ⟨b, off, e1, hat⟩ := hV.out.at_ hget
      have htk : (R.map (·.1)).take (k + 1) = (R.map (·.1)).take k ++ [R[k].1] := by rw [List.take_add_one, List.getElem?_map, hget]; rfl
      cases e1
      rw [Nat.zero_add] at hat
      obtain ⟨x, hx⟩ : ∃ x, x = R[k] := ⟨_, rfl⟩
      rw [← hx] at hxs hxo hat htk
      clear hx hget
      have HTK := Lib.hid htk
      have HAD := Lib.hid (fun (W : World) (hW : RowKit.Below wr.heap.size wr W) => add_anyF _ _ _ cc _ (n + k) x W ((HT.out.below HB.out).below hW) (HL.out.below hW) HR.out HO.out (by omega) (hxo.below hW) hxs)
      obtain ⟨xo, xc, ex, -, -⟩ := Over.form hxo
      obtain ⟨⟨at1, ak1, akey1, afin1, aval1, aex1, ⟨ap1, al1, aw1⟩, aov1⟩, av1⟩ := x
      simp only [] at ex
      obtain ⟨xn, hxn⟩ : ∃ k, k = aov1.length := ⟨_, rfl⟩
      rw [← hxn] at ex
      subst ex
      obtain ⟨hbl, z0, z1, z2, z3, z4, z5, z6, z7, z8, z9⟩ := hat
      clear hxn htk hxs hxo
      unfold vM at HAD
      simp only [] at HAD z0 z1 z2 z3 z4 z5 z6 z7 z8 z9
      go_wp2_with fail
      have hbm := (Below.refl wr.heap.size wr).alloc (Nat.le_refl _) (.cells #[.int .i64 at1, .int .i64 ak1, .string akey1, .string afin1, .string aval1, .int .i64 aex1, .int .i64 ap1, .int .i64 al1, .int .i64 aw1, .slice xo xn xc] 40)
      refine (HAD.out _ hbm).mono ?_
      rintro e w3 ⟨va, vb, vd, c', rfl, hl, hr, ho, hb3, hf3⟩
      have HF3 := Lib.hid (fun base (h : base ≤ w.heap.size ∧ Fresh base w (.slice ao na ac) (.slice bo nb bc) (.slice dd nd dc)) => hf3 base (Nat.le_trans h.1 (Nat.le_trans HB.out.size hbm.size)) ((HFR.out base h).below hbm))
      obtain ⟨o4, m4, k4, hv1⟩ := hl.cells.slice
      obtain ⟨o5, m5, k5, hv2⟩ := hl.wipes.slice
      obtain ⟨o6, m6, k6, hv3⟩ := hl.sibs.slice
      subst hv1 hv2 hv3
      have hb4 := below_then hbm (Nat.le_refl _) hb3
      have H34 := Lib.hid (H3.out.below hb4)
      have HC4 := Lib.hid (hC.out.below hb4)
      have HV4 := Lib.hid (hV.out.below hb4)
      have HB4 := Lib.hid (below_then HB.out (Nat.le_refl _) hb4)
      have HX := Lib.hid (And.intro hl (And.intro hr ho))
      clear hl hr ho hb3 hf3 hb4 p0 p1 p2 q0 q1 q2 z0 z1 z2 z3 z4 z5 z6 z7 z8 z9
      obtain ⟨-, p0, p1, p2, q0, q1, q2⟩ := H34.out
      go_wp2_with fail
      go_roundw
      case rel =>
        refine ⟨k + 1, by omega, by go_num, Lib.hid ?_, Lib.hid ⟨o4, m4, k4, o5, m5, k5, o6, m6, k6, c', c3_put H34.out _ _ _, HX.out.1.plain3 (plain3 H34.out _ _ _), HX.out.2.1.same (fun y => ?_), HX.out.2.2, c3_put_below HB4.out (by omega) _ _ _, fun base h => (HF3.out base h).put H34.out⟩, Lib.hid (HV4.out.plain3 (plain3 H34.out _ _ _))⟩
        · exact ((HC4.out.other (by omega)).other (by omega)).other (by omega)
        · rw [HTK.out]; exact (two_snoc _ _ _ _).symm
      case measure => simp [intOf]; omega
    · obtain rfl : k = N := by omega
      obtain ⟨-, t0, t1, t2, f0, f1, f2⟩ := hC.out
      go_wp2_with fail
      obtain ⟨-, e0, e1, e2, -⟩ := c3_put hC.out (.slice o1 m1 k1) (.slice o2 m2 k2) (.slice o3 m3 k3)
      refine bodyPost_ret (v := .agg #[.slice o1 m1 k1, .slice o2 m2 k2, .slice o3 m3 k3]) (by simp [results, Tryz.f83, go_sem, e0, e1, e2]) rfl ?_
      have hh := HR.out
      rw [HN.out, show (R.map (·.1)).take R.length = R.map (·.1) from by rw [List.take_of_length_le (by simp)]] at hh
      exact ⟨_, _, _, cc, rfl, HL.out.plain3 (plain3 hC.out _ _ _), two_all hh HR'.out HP.out HO'.out.right, HO.out.more (by omega), c3_put_below HB.out (by omega) _ _ _, fun base h => (HFR.out base h).put hC.out⟩
theorem join_any (a b d a' b' d' : Value) (c c' : Con) (S T : Mu → Prop) (n n' : Nat) (w : World) (hT : Tabs w) (hc : Lies w a b d c) (hR : Reps S c) (hO : Okc c n) (hc' : Lies w a' b' d' c') (hR' : Reps T c') (hO' : Okc c' n') (hn : n + n' ≤ 90000) :
    Calls Tryz.prog 83 #[.agg #[a, b, d], .agg #[a', b', d']] w (ConP w (fun y => S y ∨ T y) (n + n')) :=
  (join_anyF a b d a' b' d' c c' S T n n' w hT hc hR hO hc' hR' hO' hn).mono fun e w' ⟨a, b, d, c, h1, h2, h3, h4, h5, _⟩ => ⟨a, b, d, c, h1, h2, h3, h4, h5⟩
end Go.Proofs.YtmjelcjdfamikaaGreatDoor.Mut

/- The walks of slices.EqualFunc at mut.Same, state.Same (layer 8). -/
namespace Go.Proofs.YtmjelcjdfamikaaGreatDoor.Mut
open Go.RowKit Go.Sort Go.Proofs.YtmjelcjdfamikaaGreatDoor.Ord
set_option linter.unusedSectionVars false
variable [Inhabited Lim]

def eqF : List Mu → List Mu → Bool
  | [], [] => true
  | x :: a, y :: b => decide (muC x y = 0) && eqF a b
  | _, _ => false
theorem eqF_iff : ∀ a b : List Mu, eqF a b = true ↔ a = b
  | [], [] => by simp [eqF]
  | [], _ :: _ => by simp [eqF]
  | _ :: _, [] => by simp [eqF]
  | x :: a, y :: b => by
    rw [eqF, Bool.and_eq_true, decide_eq_true_iff, muO.zero, eqF_iff a b, List.cons.injEq]
theorem eqF_len : ∀ (a b : List Mu), ¬ a.length = b.length → eqF a b = false
  | [], [], h => absurd rfl h
  | [], _ :: _, _ => rfl
  | _ :: _, [], _ => rfl
  | x :: a, y :: b, h => by
    rw [eqF, eqF_len a b (by simpa using h), Bool.and_false]

set_option maxHeartbeats 4000000 in
set_option maxRecDepth 100000 in
theorem equal_any (v1 v2 : Value) (R1 R2 : List Ro) (w : World) (h1 : MRow w v1 R1) (h2 : MRow w v2 R2) (s1 : ∀ x ∈ R1, Small x.1) (s2 : ∀ x ∈ R2, Small x.1) (hn : R1.length ≤ 1000000) :
    Calls Tryz.prog 228 #[v1, v2, .func (.func 229) #[] #[]] w fun e w' => e = .returned (.bool (eqF (R1.map (·.1)) (R2.map (·.1)))) ∧ RowKit.Below w.heap.size w w' := by
  obtain ⟨ao1, cap1, rfl, -, -⟩ := h1.form
  obtain ⟨ao2, cap2, rfl, -, hc2⟩ := h2.form
  obtain ⟨n1, hn1⟩ : ∃ n, n = R1.length := ⟨_, rfl⟩
  obtain ⟨n2, hn2⟩ : ∃ n, n = R2.length := ⟨_, rfl⟩
  obtain ⟨Q, hQ⟩ : ∃ Q, Q = eqF (R1.map (·.1)) (R2.map (·.1)) := ⟨_, rfl⟩
  rw [← hQ, ← hn1, ← hn2]
  rw [← hn1] at hn
  by_cases hl : n1 = n2
  · have hl2 : R2.length = R1.length := by omega
    subst hl
    have HQ := Lib.hid hQ
    have HN := Lib.hid (And.intro hn1 hn2)
    rw [← hn1] at h1
    rw [← hn2] at h2
    have H1 := Lib.hid h1
    have H2 := Lib.hid h2
    have S1 := Lib.hid s1
    have S2 := Lib.hid s2
    clear hQ hn1 hn2 h1 h2 s1 s2 hl2
    have he : ∀ args w, (callFunc 229 args).run Tryz.prog w = .ok (.enter 229 args) w := enters_of Tryz.func229 (by kernel_rfl) rfl
    go_enter Tryz.func228, Tryz.ntmps228
    go_wp2_with fail
    go_loopw [17] (fun iv wr => ∃ k : Nat, k ≤ n1 ∧ iv = .int .i64 k ∧ Hid (eqF ((R1.drop k).map (·.1)) ((R2.drop k).map (·.1)) = Q) ∧ RowKit.Below w.heap.size w wr) (fun iv _ => n1 - (intOf iv).toNat)
    case atStart => exact ⟨0, by omega, rfl, Lib.hid (by rw [HQ.out]; rfl), Below.refl _ _⟩
    case round =>
      obtain ⟨k, hk, rfl, hi, hb⟩ := hrel
      by_cases hlt : k < n1
      · have hk1 : k < R1.length := by have := HN.out; omega
        have hk2 : k < R2.length := by have := HN.out; omega
        obtain ⟨x, hx⟩ : ∃ x, R1[k]? = some x := ⟨_, List.getElem?_eq_getElem hk1⟩
        obtain ⟨y, hy⟩ : ∃ y, R2[k]? = some y := ⟨_, List.getElem?_eq_getElem hk2⟩
        have hxe : R1[k] = x := (List.getElem?_eq_some_iff.1 hx).2
        have hye : R2[k] = y := (List.getElem?_eq_some_iff.1 hy).2
        obtain ⟨xb, xoff, hao1, hat1⟩ := (H1.out.below hb).at_ hx
        obtain ⟨yb, yoff, hao2, hat2⟩ := (H2.out.below hb).at_ hy
        cases hao1
        cases hao2
        have hi' : (decide (muC x.1 y.1 = 0) && eqF ((R1.drop (k + 1)).map (·.1)) ((R2.drop (k + 1)).map (·.1))) = Q := by rw [← hi.out, List.drop_eq_getElem_cons hk1, List.drop_eq_getElem_cons hk2, hxe, hye]; rfl
        have hxo := (H1.out.below hb).over x (List.mem_of_getElem? hx)
        have hyo := (H2.out.below hb).over y (List.mem_of_getElem? hy)
        have HC := Lib.hid (fun (z : World) (hz : RowKit.Below wr.heap.size wr z) => same_any x y z (hxo.below hz) (hyo.below hz) (S1.out x (List.mem_of_getElem? hx)).over (S2.out y (List.mem_of_getElem? hy)).over)
        obtain ⟨q, hq⟩ : ∃ q, q = decide (muC x.1 y.1 = 0) := ⟨_, rfl⟩
        rw [← hq] at HC hi'
        have HI := Lib.hid hi'
        obtain ⟨xo, xc, ex, -, -⟩ := Over.form hxo
        obtain ⟨yo, yc, ey, -, -⟩ := Over.form hyo
        clear hi' hq hx hy hxe hye hi hxo hyo
        obtain ⟨hbl1, a0, a1, a2, a3, a4, a5, a6, a7, a8, a9⟩ := hat1
        obtain ⟨hbl2, b0, b1, b2, b3, b4, b5, b6, b7, b8, b9⟩ := hat2
        obtain ⟨⟨at1, ak1, akey1, afin1, aval1, aex1, ⟨ap1, al1, aw1⟩, aov1⟩, av1⟩ := x
        obtain ⟨⟨at2, ak2, akey2, afin2, aval2, aex2, ⟨ap2, al2, aw2⟩, aov2⟩, av2⟩ := y
        simp only [] at ex ey a0 a1 a2 a3 a4 a5 a6 a7 a8 a9 b0 b1 b2 b3 b4 b5 b6 b7 b8 b9
        obtain ⟨xn, hxn⟩ : ∃ k, k = aov1.length := ⟨_, rfl⟩
        obtain ⟨yn, hyn⟩ : ∃ k, k = aov2.length := ⟨_, rfl⟩
        rw [← hxn] at ex
        rw [← hyn] at ey
        subst ex ey
        clear hxn hyn
        unfold vM at HC
        simp only [] at HC
        go_wp2_with fail
        have hbm := ((Below.refl wr.heap.size wr).alloc (Nat.le_refl _) (.cells #[.int .i64 at1, .int .i64 ak1, .string akey1, .string afin1, .string aval1, .int .i64 aex1, .int .i64 ap1, .int .i64 al1, .int .i64 aw1, .slice xo xn xc] 40)).alloc (by simp) (.cells #[.int .i64 at2, .int .i64 ak2, .string akey2, .string afin2, .string aval2, .int .i64 aex2, .int .i64 ap2, .int .i64 al2, .int .i64 aw2, .slice yo yn yc] 40)
        refine (HC.out _ hbm).mono ?_
        rintro e w1 ⟨rfl, hb1⟩
        have HB1 := Lib.hid (below_then hb (Nat.le_refl _) (below_then hbm (Nat.le_refl _) hb1.below))
        clear hb1 a0 a1 a2 a3 a4 a5 a6 a7 a8 a9 b0 b1 b2 b3 b4 b5 b6 b7 b8 b9 hbm
        cases q
        · go_wp2_with fail
          go_ret
          exact ⟨ret_bool (by rw [← HI.out]; rfl), HB1.out⟩
        · go_wp2_with fail
          go_roundw
          case rel => exact ⟨k + 1, by omega, by go_num, Lib.hid (by rw [← HI.out]; rfl), HB1.out⟩
          case measure => simp [intOf]; omega
      · obtain rfl : k = n1 := by omega
        have he2 : true = Q := by rw [← hi.out, List.drop_of_length_le (by have := HN.out; omega), List.drop_of_length_le (by have := HN.out; omega)]; rfl
        have HE := Lib.hid he2
        clear he2
        go_wp2_with fail
        go_ret
        exact ⟨ret_bool HE.out, hb⟩
  · have hq : Q = false := by rw [hQ]; exact eqF_len _ _ (by simp; omega)
    have HQ := Lib.hid hq
    have hne : ¬ ((n1 : Int) = (n2 : Int)) := by omega
    clear hq hQ hn1 hn2 h1 h2 s1 s2
    go_enter Tryz.func228, Tryz.ntmps228
    go_wp2_with fail
    go_ret
    exact ⟨ret_bool HQ.out.symm, Below.refl _ _⟩
theorem eqF_all {S T : Mu → Prop} {c d : Con} (h : Reps S c) (g : Reps T d) {l k : List Mu} (h1 : l.Perm c.all) (h2 : l.Pairwise fun a b => muC a b ≤ 0) (g1 : k.Perm d.all) (g2 : k.Pairwise fun a b => muC a b ≤ 0) : eqF l k = true ↔ c = d := by
  rw [eqF_iff]
  exact AllOf.eq_iff h g (AllOf.of_perm h h1 h2) (AllOf.of_perm g g1 g2)
theorem bool_of_iff {a : Bool} {p : Prop} (q : Bool) (h : a = true ↔ p) (hq : q = true ↔ p) : a = q := by
  cases a <;> cases q <;> simp_all

set_option maxHeartbeats 4000000 in
set_option maxRecDepth 100000 in
theorem same_con (a b d a' b' d' : Value) (c c' : Con) (S T : Mu → Prop) (n n' : Nat) (w : World) (q : Bool) (hq : q = true ↔ c = c') (hc : Lies w a b d c) (hR : Reps S c) (hO : Okc c n) (hc' : Lies w a' b' d' c') (hR' : Reps T c') (hO' : Okc c' n') (hn : n ≤ 100000) (hn' : n' ≤ 100000) :
    Calls Tryz.prog 204 #[.agg #[a, b, d], .agg #[a', b', d']] w fun e w' => e = .returned (.bool q) ∧ RowKit.Below w.heap.size w w' := by
  obtain ⟨ao, na, ac, rfl⟩ := hc.cells.slice
  obtain ⟨bo, nb, bc, rfl⟩ := hc.wipes.slice
  obtain ⟨dd, nd, dc, rfl⟩ := hc.sibs.slice
  obtain ⟨ao', na', ac', rfl⟩ := hc'.cells.slice
  obtain ⟨bo', nb', bc', rfl⟩ := hc'.wipes.slice
  obtain ⟨dd', nd', dc', rfl⟩ := hc'.sibs.slice
  have HA := Lib.hid (fun (z : World) (h : RowKit.Below w.heap.size w z) => all_any _ _ _ c n z (hc.below h) hO hn)
  have HA' := Lib.hid (fun (z : World) (h : RowKit.Below w.heap.size w z) => all_any _ _ _ c' n' z (hc'.below h) hO' hn')
  have hP := (C3.new w (.slice ao na ac) (.slice bo nb bc) (.slice dd nd dc)).below ((Below.refl _ _).alloc (Nat.le_refl _) (.cells #[.slice ao' na' ac', .slice bo' nb' bc', .slice dd' nd' dc'] 26))
  have hP' := C3.new (w.alloc (.cells #[.slice ao na ac, .slice bo nb bc, .slice dd nd dc] 26)) (.slice ao' na' ac') (.slice bo' nb' bc') (.slice dd' nd' dc')
  rw [World.size_alloc] at hP'
  have hB := ((Below.refl _ w).alloc (Nat.le_refl _) (.cells #[.slice ao na ac, .slice bo nb bc, .slice dd nd dc] 26)).alloc (by simp) (.cells #[.slice ao' na' ac', .slice bo' nb' bc', .slice dd' nd' dc'] 26)
  have HR := Lib.hid (And.intro hR hR')
  have HO := Lib.hid (And.intro hO hO')
  have HQ := Lib.hid hq
  have hl1 := hO.len
  have hl2 := hO'.len
  obtain ⟨N, hN⟩ : ∃ N, N = c.all.length := ⟨_, rfl⟩
  obtain ⟨N', hN'⟩ : ∃ N, N = c'.all.length := ⟨_, rfl⟩
  unfold AllP at HA HA'
  rw [← hN] at HA
  rw [← hN'] at HA'
  have HN := Lib.hid (And.intro hN hN')
  obtain ⟨W0, hW0⟩ : ∃ W0, W0 = ((w.alloc (.cells #[.slice ao na ac, .slice bo nb bc, .slice dd nd dc] 26)).alloc (.cells #[.slice ao' na' ac', .slice bo' nb' bc', .slice dd' nd' dc'] 26)) := ⟨_, rfl⟩
  rw [← hW0] at hP hP' hB
  have HP := Lib.hid hP
  have HP' := Lib.hid hP'
  have HB0 := Lib.hid hB
  have HW := Lib.hid hW0
  clear hP hP' hB hc hR hO hc' hR' hO' hq hN hN' hW0
  go_enter Tryz.func204, Tryz.ntmps204
  go_wp2_with fail
  rw [← HW.out]
  clear HW
  obtain ⟨-, p0, p1, p2, -⟩ := HP.out
  obtain ⟨-, q0, q1, q2, -⟩ := HP'.out
  go_region_law (first
    | (go_simp; go_at_call 127; (with_reducible refine (HA.out _ (HB0.out.drew)).mono ?_); rintro e w1 ⟨g1, k1, R1, rfl, hcop1, hp1, hs1, hb1⟩; have B1 := below_then ((Below.refl W0.heap.size W0).drew) (Nat.le_refl _) hb1; obtain ⟨-, p0, p1, p2, -⟩ := HP.out.below B1; obtain ⟨-, q0, q1, q2, -⟩ := HP'.out.below B1; have HB1 := Lib.hid (below_then HB0.out (Nat.le_refl _) B1); have HC1 := Lib.hid (And.intro hcop1 (And.intro hp1 hs1)); clear hcop1 hp1 hs1 hb1 B1)
    | (go_simp; go_at_call 127; (with_reducible refine (HA'.out _ (HB1.out)).mono ?_); rintro e w2 ⟨g2, k2, R2, rfl, hcop2, hp2, hs2, hb2⟩; have HB2 := Lib.hid (below_then HB1.out (Nat.le_refl _) hb2); have HB12 := Lib.hid hb2; have HC2 := Lib.hid (And.intro hcop2 (And.intro hp2 hs2)); clear hcop2 hp2 hs2 hb2)
    | (go_simp; go_at_call 228; (with_reducible refine (equal_any _ _ R1 R2 w2 (HC1.out.1.below HB12.out).mrow HC2.out.1.mrow (fun x hx => small_right (HO.out.1.right _ (HC1.out.2.1.mem_iff.1 (List.mem_map.2 ⟨x, hx, rfl⟩)))) (fun x hx => small_right (HO.out.2.right _ (HC2.out.2.1.mem_iff.1 (List.mem_map.2 ⟨x, hx, rfl⟩)))) (by have h1 := HC1.out.2.1.length_eq; rw [List.length_map] at h1; have h2 := HN.out.1; omega)).mono ?_); rintro e w3 ⟨rfl, hb3⟩; have HB3 := Lib.hid (below_then HB2.out (Nat.le_refl _) hb3); clear hb3))
  all_goals
    go_wp2_with fail
    go_ret
    exact ⟨ret_bool (bool_of_iff q (eqF_all HR.out.1 HR.out.2 HC1.out.2.1 HC1.out.2.2 HC2.out.2.1 HC2.out.2.2) HQ.out), HB3.out⟩
end Go.Proofs.YtmjelcjdfamikaaGreatDoor.Mut

/- The walk of the law's Great (layer 8). -/
namespace Go.Proofs.YtmjelcjdfamikaaGreatDoor.Mut
open Go.RowKit Go.Sort Go.Proofs.YtmjelcjdfamikaaGreatDoor.Ord
set_option linter.unusedSectionVars false
variable [Inhabited Lim]

def greatM (m : Mu) : Bool := decide (200 < m.key.size) || (decide (200 < m.fin.size) || (decide (200 < m.val.size) || decide (50 < m.over.length)))
def greatF (l : List Mu) (most : Nat) : Bool := decide (most < l.length) || l.any greatM
theorem great_small {l : List Mu} {most : Nat} (h : greatF l most = false) : l.length ≤ most ∧ ∀ m ∈ l, Small m := by
  unfold greatF at h
  simp only [Bool.or_eq_false_iff, decide_eq_false_iff_not, List.any_eq_false] at h
  refine ⟨by omega, fun m hm => ?_⟩
  have := h.2 m hm
  unfold greatM at this
  simp only [Bool.or_eq_true, decide_eq_true_eq, not_or] at this
  exact ⟨by omega, by omega, by omega, by omega⟩

set_option maxHeartbeats 4000000 in
set_option maxRecDepth 100000 in
theorem great_any (v : Value) (R : List Ro) (most : Nat) (w : World) (hv : MRow w v R) (hm : most ≤ 1000) (hz : ∀ x ∈ R, x.1.key.size ≤ maxLen ∧ x.1.fin.size ≤ maxLen ∧ x.1.val.size ≤ maxLen) :
    Calls Tryz.prog 4 #[v, .int .i64 most] w fun e w' => e = .returned (.bool (greatF (R.map (·.1)) most)) ∧ w = w' := by
  obtain ⟨ao, cap, rfl, hc1, hc2⟩ := hv.form
  obtain ⟨n, hnn⟩ : ∃ n, n = R.length := ⟨_, rfl⟩
  obtain ⟨Q, hQ⟩ : ∃ Q, Q = greatF (R.map (·.1)) most := ⟨_, rfl⟩
  rw [← hQ]
  have hQ2 : Q = (decide (most < n) || (R.map (·.1)).any greatM) := by rw [hQ, hnn]; unfold greatF; rw [List.length_map]
  rw [← hnn] at hv hc1 ⊢
  unfold maxLen at hc2 hz
  have hn9 : n ≤ 9223372036854775807 := by omega
  have HV := Lib.hid hv
  have HN := Lib.hid hnn
  have HZ := Lib.hid hz
  have HQ := Lib.hid hQ2
  clear hv hnn hQ hQ2 hz hc1 hc2
  by_cases hlt : most < n
  · have hq : true = Q := by have := HQ.out; rw [decide_eq_true hlt] at this; rw [this]; rfl
    have HE := Lib.hid hq
    clear hq
    have hd : decide ((most : Int) < (n : Int)) = true := decide_eq_true (by omega)
    go_enter Tryz.func4, Tryz.ntmps4
    go_wp2_with fail
    go_ret
    exact ⟨ret_bool HE.out, rfl⟩
  · have hq : Q = (R.map (·.1)).any greatM := by have := HQ.out; rw [decide_eq_false hlt, Bool.false_or] at this; exact this
    have HE := Lib.hid hq
    clear hq HQ
    have hd : decide ((most : Int) < (n : Int)) = false := decide_eq_false (by omega)
    go_enter Tryz.func4, Tryz.ntmps4
    go_wp2_with fail
    clear hd
    go_loop [5] (fun iv => ∃ k : Nat, k ≤ n ∧ iv = .int .i64 k ∧ Hid (((R.drop k).map (·.1)).any greatM = Q)) (fun iv => n - (intOf iv).toNat)
    case atStart => exact ⟨0, by omega, rfl, Lib.hid (by rw [HE.out]; rfl)⟩
    case round =>
      obtain ⟨k, hk, rfl, hi⟩ := hrel
      by_cases hlt2 : k < n
      · have hk1 : k < R.length := by have := HN.out; omega
        obtain ⟨x, hx⟩ : ∃ x, R[k]? = some x := ⟨_, List.getElem?_eq_getElem hk1⟩
        have hxe : R[k] = x := (List.getElem?_eq_some_iff.1 hx).2
        obtain ⟨xb, xoff, hao, hat⟩ := HV.out.at_ hx
        cases hao
        have hxo := HV.out.over x (List.mem_of_getElem? hx)
        obtain ⟨xo, xc, ex, hxc, hxm⟩ := Over.form hxo
        obtain ⟨z1, z2, z3⟩ := HZ.out x (List.mem_of_getElem? hx)
        have hi' : (greatM x.1 || ((R.drop (k + 1)).map (·.1)).any greatM) = Q := by rw [← hi.out, List.drop_eq_getElem_cons hk1, hxe]; rfl
        unfold greatM at hi'
        have HI := Lib.hid hi'
        clear hi' hi hx hxe hxo
        obtain ⟨hbl, a0, a1, a2, a3, a4, a5, a6, a7, a8, a9⟩ := hat
        obtain ⟨⟨at1, ak1, akey1, afin1, aval1, aex1, ⟨ap1, al1, aw1⟩, aov1⟩, av1⟩ := x
        simp only [] at ex z1 z2 z3 a0 a1 a2 a3 a4 a5 a6 a7 a8 a9 HI
        obtain ⟨xn, hxn⟩ : ∃ k, k = aov1.length := ⟨_, rfl⟩
        unfold maxLen at hxm
        rw [← hxn] at ex HI hxc
        subst ex
        clear hxn
        by_cases t1 : 200 < akey1.size
        · have HT := Lib.hid (show true = Q by rw [← HI.out, decide_eq_true t1]; rfl)
          have d1 : decide ((200 : Int) < (akey1.size : Int)) = true := decide_eq_true (by omega)
          clear HI
          go_wp2_with fail
          go_ret
          exact ⟨ret_bool HT.out, rfl⟩
        have d1 : decide ((200 : Int) < (akey1.size : Int)) = false := decide_eq_false (by omega)
        by_cases t2 : 200 < afin1.size
        · have HT := Lib.hid (show true = Q by rw [← HI.out, decide_eq_false t1, decide_eq_true t2]; rfl)
          have d2 : decide ((200 : Int) < (afin1.size : Int)) = true := decide_eq_true (by omega)
          clear HI
          go_wp2_with fail
          go_ret
          exact ⟨ret_bool HT.out, rfl⟩
        have d2 : decide ((200 : Int) < (afin1.size : Int)) = false := decide_eq_false (by omega)
        by_cases t3 : 200 < aval1.size
        · have HT := Lib.hid (show true = Q by rw [← HI.out, decide_eq_false t1, decide_eq_false t2, decide_eq_true t3]; rfl)
          have d3 : decide ((200 : Int) < (aval1.size : Int)) = true := decide_eq_true (by omega)
          clear HI
          go_wp2_with fail
          go_ret
          exact ⟨ret_bool HT.out, rfl⟩
        have d3 : decide ((200 : Int) < (aval1.size : Int)) = false := decide_eq_false (by omega)
        by_cases t4 : 50 < xn
        · have HT := Lib.hid (show true = Q by rw [← HI.out, decide_eq_false t1, decide_eq_false t2, decide_eq_false t3, decide_eq_true t4]; rfl)
          have d4 : decide ((50 : Int) < (xn : Int)) = true := decide_eq_true (by omega)
          clear HI
          go_wp2_with fail
          go_ret
          exact ⟨ret_bool HT.out, rfl⟩
        have d4 : decide ((50 : Int) < (xn : Int)) = false := decide_eq_false (by omega)
        have HT := Lib.hid (show ((R.drop (k + 1)).map (·.1)).any greatM = Q by rw [← HI.out, decide_eq_false t1, decide_eq_false t2, decide_eq_false t3, decide_eq_false t4]; rfl)
        clear HI
        go_wp2_with fail
        go_round
        case rel => exact ⟨k + 1, by omega, by go_num, HT⟩
        case measure => simp [intOf]; omega
      · obtain rfl : k = n := by omega
        have HT := Lib.hid (show false = Q by rw [← hi.out, List.drop_of_length_le (by have := HN.out; omega)]; rfl)
        go_wp2_with fail
        go_ret
        exact ⟨ret_bool HT.out, rfl⟩
end Go.Proofs.YtmjelcjdfamikaaGreatDoor.Mut

/- append of a row of mutations, nil or not, to a row of the call's own; contents and rows at hand, in bundles. -/
namespace Go.Proofs.YtmjelcjdfamikaaGreatDoor.Mut
open Go.RowKit Go.Sort Go.Proofs.YtmjelcjdfamikaaGreatDoor.Ord
set_option linter.unusedSectionVars false
variable [Inhabited Lim]

theorem wpList_append_rows {w : World} {ops : Array Oper} {rest : List Oper} {o : Oper} {a : Act} {Q : Exit → Act → World → Prop} (hgd : o.guard = none) (s x : Operand)
    (ho : o.op = .call { callee := .builtin .append, args := #[s, x], argTypes := #[22, 22] }) (base : Nat) (v : Value) (n : Nat) (xs : List Value) (hs : a.eval s = v) (hown : w.ownsRow base 40 10 v n xs)
    (ao : Option Addr) (m c : Nat) (R : List Ro) (hx : a.eval x = .slice ao m c) (hR : MRow w (.slice ao m c) R) (hm : n + m ≤ 1000000) (hbase : base ≤ w.heap.size)
    (h : ∀ v' w', w'.ownsRow base 40 10 v' (n + m) (xs ++ R.flatMap enM) → w.grownBy w' v.ownBlock → wpList Tryz.prog ops Q rest (a.put o.dst v') w') : wpList Tryz.prog ops Q (o :: rest) a w := by
  obtain ⟨i0, hi, hz0, hz1, hz2⟩ := info_parts info_M
  obtain ⟨_, _, e, -, -⟩ := hR.form
  obtain ⟨rfl⟩ : m = R.length := by injection e
  cases ao with
  | none =>
    have h0 := hR.nil_of
    subst h0
    refine wpList_append_own_none' hgd s x 22 ho base 40 i0 10 c Tryz.underlying22 hi v n xs hs hown hx ?_
    exact h v w (by simpa using hown) (World.grownBy.refl _ _)
  | some ad =>
    exact wpList_append_own _ hgd s x 22 ho base 40 i0 zeroM 10 120 Tryz.underlying22 hi hz0 hz1 hz2 rfl (by decide) v n xs hs hown ad R.length c (R.flatMap enM) hx (flatMap_len enM_len R) (Lst.news enM_len (by decide) hR.row) (flatM_one hR.forms) (by unfold maxLen; omega) (by omega) hbase (fun v' w' h1 h2 _ => h v' w' h1 h2)

/-- Contents at hand. -/
structure Cv where
  a : Value
  b : Value
  d : Value
  c : Con
def HasC (W : World) (l : List Cv) : Prop := ∀ p, p ∈ l → Lies W p.a p.b p.d p.c
theorem HasC.get {W : World} {l : List Cv} {a b d : Value} {c : Con} (h : HasC W l) (hm : (⟨a, b, d, c⟩ : Cv) ∈ l) : Lies W a b d c := h _ hm
theorem HasC.nil (W : World) : HasC W [] := fun p hp => by cases hp
theorem HasC.below {W W' : World} {l : List Cv} (h : HasC W l) (hb : RowKit.Below W.heap.size W W') : HasC W' l := fun p hp => (h p hp).below hb
theorem HasC.cons {W : World} {l : List Cv} {a b d : Value} {c : Con} (hv : Lies W a b d c) (h : HasC W l) : HasC W (⟨a, b, d, c⟩ :: l) := fun p hp => by
  rcases List.mem_cons.1 hp with e | e
  · subst e; exact hv
  · exact h p e
/-- Rows at hand. -/
def HasR (W : World) (l : List (Value × List Ro)) : Prop := ∀ p, p ∈ l → MRow W p.1 p.2
theorem HasR.get {W : World} {l : List (Value × List Ro)} {v : Value} {R : List Ro} (h : HasR W l) (hm : (v, R) ∈ l) : MRow W v R := h _ hm
theorem HasR.nil (W : World) : HasR W [] := fun p hp => by cases hp
theorem HasR.below {W W' : World} {l : List (Value × List Ro)} (h : HasR W l) (hb : RowKit.Below W.heap.size W W') : HasR W' l := fun p hp => (h p hp).below hb
theorem HasR.cons {W : World} {l : List (Value × List Ro)} {v : Value} {R : List Ro} (hv : MRow W v R) (h : HasR W l) : HasR W ((v, R) :: l) := fun p hp => by
  rcases List.mem_cons.1 hp with e | e
  · subst e; exact hv
  · exact h p e
theorem HasC.plain3 {W W' : World} {l : List Cv} (h : HasC W l) (hp : Plain3 W W') : HasC W' l := fun p hm => (h p hm).plain3 hp
theorem HasR.plain3 {W W' : World} {l : List (Value × List Ro)} (h : HasR W l) (hp : Plain3 W W') : HasR W' l := fun p hm => (h p hm).plain3 hp
end Go.Proofs.YtmjelcjdfamikaaGreatDoor.Mut
