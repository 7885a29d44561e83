/- The walks of slices.Grow at nil and slices.Concat of three rows of mutations (layer 8). -/
import Derived.Test.YtgcfhlleaekgfaaDoorConOf
import Derived.Lib.AppendZeros
namespace Go.Proofs.YtgcfhlleaekgfaaDoor.Mut
open Go.RowKit Go.Sort Go.Proofs.YtgcfhlleaekgfaaDoor.Ord

def RoomP (w : World) (r : Ending) (w' : World) : Prop := ∃ v, r = .returned v ∧ w'.ownsRow w.heap.size 34 10 v 0 [] ∧ RowKit.Below w.heap.size w w'
set_option maxHeartbeats 2000000 in
set_option maxRecDepth 100000 in
theorem grow_nil (n : Nat) (w : World) (hn : n ≤ 1000000) : Calls Tryd.prog 23 #[.slice none 0 0, .int .i64 n] w (RoomP w) := by
  by_cases h0 : n = 0
  · subst h0
    go_enter Tryd.func23, Tryd.ntmps23
    go_wp2_with fail
    go_ret
    exact ⟨_, rfl, World.ownsRow_nil _ _ _ _, Below.refl _ _⟩
  · obtain ⟨i0, hi, hz0, hz1, hz2⟩ := info_parts info_M
    obtain ⟨G, hG⟩ : ∃ G, G = grownCap w n 0 34 := ⟨_, rfl⟩
    have hGm : G ≤ maxLen := by rw [hG]; exact grownCap_le_maxLen w n 0 34 (by unfold maxLen; omega)
    have hGn : n ≤ G := by rw [hG]; exact grownCap_ge w _ _ _
    obtain ⟨row, hrow⟩ : ∃ row : List Value, row = (Builtin.zeroCells zeroM.cells n ++ Builtin.zeroCells zeroM.cells (G - n)).toList := ⟨_, rfl⟩
    have hrl : row.length = G * 10 := by
      have e1 : zeroM.cells.size = 10 := rfl
      rw [hrow, Array.length_toList, Array.size_append, size_zeroCells, size_zeroCells, e1]
      omega
    have hrz : ∀ ty, (Builtin.append_ #[22, 3] ty #[.slice none 0 0, .int .i64 n]).run Tryd.prog w = .ok (.slice (some ⟨w.heap.size, 0, none⟩) n G) (w.drew.alloc (.cells ⟨row⟩ 34)) := fun ty => by
      have h := Lib.run_append_nil_zeros w 22 3 ty 34 i0 _ .i64 .i64 Tryd.underlying22 Tryd.underlying3 hi hz0 n (by omega) (by omega) (by omega) (by rw [hz2]; omega)
      rw [← hG] at h
      rw [h, hrow]
    have RZ := Lib.hid hrz
    have HRL := Lib.hid hrl
    have HGM := Lib.hid hGm
    clear hrz hrl hrow hG hi hz0 hz1 hz2 hGm
    go_enter Tryd.func23, Tryd.ntmps23
    go_wp2_with (at_builtin; refine Lib.wpList_append_run _ rfl _ _ 22 3 rfl _ _ rfl rfl _ _ (RZ.out _) ?_)
    go_ret
    refine ⟨_, rfl, own_mk (xs := []) (spare := row) (Nat.le_refl _) ?_ (Nat.zero_le _) HGM.out (by simpa using HRL.out) rfl, (Below.refl _ _).drew.alloc (by simp) _⟩
    exact heap_alloc_new w.drew _
/-- The first rows of three, one behind the other. -/
def cat3 (A B D : List Ro) : Nat → List Ro
  | 0 => []
  | 1 => A
  | 2 => A ++ B
  | _ => A ++ (B ++ D)
structure Cat3 (g : Nat) (a b d : Value) (A B D : List Ro) (w : World) : Prop where
  lt : g < w.heap.size
  c0 : w.cell? ⟨g, 0, none⟩ = some a
  c1 : w.cell? ⟨g, 1, none⟩ = some b
  c2 : w.cell? ⟨g, 2, none⟩ = some d
  r0 : MRow w a A
  r1 : MRow w b B
  r2 : MRow w d D
theorem Cat3.below {g : Nat} {a b d : Value} {A B D : List Ro} {w w' : World} (h : Cat3 g a b d A B D w) (hb : RowKit.Below w.heap.size w w') : Cat3 g a b d A B D w' :=
  ⟨Nat.lt_of_lt_of_le h.lt hb.size, (hb.cell (p := ⟨g, 0, none⟩) h.lt).trans h.c0, (hb.cell (p := ⟨g, 1, none⟩) h.lt).trans h.c1, (hb.cell (p := ⟨g, 2, none⟩) h.lt).trans h.c2, h.r0.below hb, h.r1.below hb, h.r2.below hb⟩
theorem Cat3.get {g : Nat} {a b d : Value} {A B D : List Ro} {w : World} (h : Cat3 g a b d A B D w) {k : Nat} (hk : k < 3) : ∃ X ao cap, w.cell? ⟨g, k, none⟩ = some (.slice ao X.length cap) ∧ MRow w (.slice ao X.length cap) X ∧ cat3 A B D (k + 1) = cat3 A B D k ++ X := by
  obtain ⟨ao0, c0, e0, -, -⟩ := h.r0.form
  obtain ⟨ao1, c1, e1, -, -⟩ := h.r1.form
  obtain ⟨ao2, c2, e2, -, -⟩ := h.r2.form
  rcases k with _ | _ | _ | k
  · exact ⟨A, ao0, c0, by rw [h.c0, e0], e0 ▸ h.r0, rfl⟩
  · exact ⟨B, ao1, c1, by rw [← e1]; exact h.c1, e1 ▸ h.r1, rfl⟩
  · exact ⟨D, ao2, c2, by rw [← e2]; exact h.c2, e2 ▸ h.r2, by simp [cat3]⟩
  · omega
theorem cat3_len {A B D : List Ro} (k : Nat) : (cat3 A B D k).length ≤ (A ++ (B ++ D)).length := by
  unfold cat3
  split <;> simp <;> omega

theorem run_append_owned_none' {P : Program} {w : World} (base : Nat) (t ty e : TypeId) (i : TypeInfo) (size c : Nat) (ht : P.underlying t = some (.slice e)) (hi : P.info? e = some i)
    (v : Value) (n : Nat) (xs : List Value) (hown : w.ownsRow base e size v n xs) :
    (Builtin.append_ #[t, t] ty #[v, .slice none 0 c]).run P w = .ok v w := by
  rcases hown.2 with ⟨rfl, rfl⟩ | ⟨g, cap, cur, rfl, _, _, hnc, _⟩
  · simp [Builtin.append_, run_underlying ht, sizeOf, typeInfo, hi, Builtin.lenOf, Builtin.firstCells]
  · simp [Builtin.append_, run_underlying ht, sizeOf, typeInfo, hi, Builtin.lenOf, Builtin.firstCells, hnc, storeCells]
theorem wpList_append_own_none' {P : Program} {w : World} {ops : Array Oper} {rest : List Oper} {o : Oper} {a : Act} {Q : Exit → Act → World → Prop} (hgd : o.guard = none) (s x : Operand) (t : TypeId)
    (ho : o.op = .call { callee := .builtin .append, args := #[s, x], argTypes := #[t, t] })
    (base : Nat) (e : TypeId) (i : TypeInfo) (size c : Nat) (ht : P.underlying t = some (.slice e)) (hi : P.info? e = some i)
    (v : Value) (n : Nat) (xs : List Value) (hs : a.eval s = v) (hown : w.ownsRow base e size v n xs) (hx : a.eval x = .slice none 0 c)
    (h : wpList P ops Q rest (a.put o.dst v) w) : wpList P ops Q (o :: rest) a w := by
  refine wpList_plain hgd fun K hK => ?_
  have hrun := run_append_owned_none' (P := P) (w := w) base t o.type e i size c ht hi v n xs hown
  unfold Oper.wp
  simp [execOp, ho, resolve, invoke, builtin, hs, hx, hrun, Result.andThen]
  exact hK _ _ h
theorem MRow.nil_of {w : World} {n cap : Nat} {R : List Ro} (h : MRow w (.slice none n cap) R) : R = [] := by
  cases R with
  | nil => rfl
  | cons x l => obtain ⟨b, off, e, _⟩ := Lst.get h.row (show 0 < (x :: l).length by simp); cases e

set_option maxHeartbeats 4000000 in
set_option maxRecDepth 100000 in
theorem concat_any (g : Nat) (a b d : Value) (A B D : List Ro) (w : World) (h : Cat3 g a b d A B D w) (hn : (A ++ (B ++ D)).length ≤ 100000) :
    Calls Tryd.prog 15 #[.slice (some ⟨g, 0, none⟩) 3 3] w (OwnP 34 10 enM w (A ++ (B ++ D))) := by
  have HG := Lib.hid (fun (z : World) (m : Nat) (hm : m ≤ 1000000) => grow_nil m z hm)
  have HH := Lib.hid h
  have hz : g < w.heap.size := h.lt
  obtain ⟨i0, hi, hz0, hz1, hz2⟩ := info_parts info_M
  have HI := Lib.hid hi
  have HZ0 := Lib.hid hz0
  have HZ1 := Lib.hid hz1
  have HZ2 := Lib.hid hz2
  obtain ⟨C, hC⟩ : ∃ C : Nat → List Ro, C = cat3 A B D := ⟨_, rfl⟩
  have HC3 := Lib.hid (show A ++ (B ++ D) = C 3 from by rw [hC]; rfl)
  have HC0 := Lib.hid (show C 0 = [] from by rw [hC]; rfl)
  have HCl := Lib.hid (fun k => (show (C k).length ≤ 100000 from by rw [hC]; exact Nat.le_trans (cat3_len k) hn))
  have HCs := Lib.hid (fun (z : World) (hzb : RowKit.Below w.heap.size w z) (k : Nat) (hk : k < 3) => show ∃ X ao cap, z.cell? ⟨g, k, none⟩ = some (.slice ao X.length cap) ∧ MRow z (.slice ao X.length cap) X ∧ C (k + 1) = C k ++ X from by rw [hC]; exact (h.below hzb).get hk)
  rw [HC3.out]
  clear hi hz0 hz1 hz2 h hC hn
  go_enter Tryd.func15, Tryd.ntmps15
  go_wp2_with fail
  go_loop [3, 11] (fun sv iv => ∃ k m : Nat, k ≤ 3 ∧ iv = .int .i64 k ∧ sv = .int .i64 m ∧ Hid (m = (C k).length)) (fun _ iv => 3 - (intOf iv).toNat)
  case atStart => exact ⟨0, 0, by omega, rfl, rfl, Lib.hid (by rw [HC0.out]; rfl)⟩
  case round =>
    obtain ⟨k, m, hk, rfl, rfl, hm⟩ := hrel
    have hml : m ≤ 100000 := by rw [hm.out]; exact HCl.out k
    by_cases hlt : k < 3
    · obtain ⟨X, ao, cap, hc, -, hcat⟩ := HCs.out w (Below.refl _ _) k hlt
      have hlen : (C (k + 1)).length = (C k).length + X.length := by rw [hcat]; simp
      have hm2 := HCl.out (k + 1)
      obtain ⟨mx, hmx⟩ : ∃ q, q = X.length := ⟨_, rfl⟩
      rw [← hmx] at hc hlen
      have hmx2 : m + mx ≤ 100000 := by rw [hm.out]; omega
      have HM := Lib.hid (show m + mx = (C (k + 1)).length by rw [hm.out, hlen])
      clear hlen hm2 hcat hmx
      go_wp2
      go_round
      case rel => exact ⟨k + 1, m + mx, by omega, by go_num, by go_num, HM⟩
      case measure => simp [intOf]; omega
    · obtain rfl : k = 3 := by omega
      go_wp2_with fail
      refine (HG.out _ m (by omega)).mono ?_
      rintro e w1 ⟨v, rfl, hown, hb1⟩
      have HO := Lib.hid (show w1.ownsRow w.heap.size 34 10 v (C 0).length ((C 0).flatMap enM) from by rw [HC0.out]; exact hown)
      have HB1 := Lib.hid hb1
      clear hown hb1 hm
      go_wp2_with fail
      go_loopw [6, 27] (fun ov iv wr => ∃ k : Nat, k ≤ 3 ∧ iv = .int .i64 k ∧ Hid (wr.ownsRow w.heap.size 34 10 ov (C k).length ((C k).flatMap enM)) ∧ Hid (RowKit.Below w.heap.size w wr)) (fun _ iv _ => 3 - (intOf iv).toNat)
      case atStart => exact ⟨0, by omega, rfl, HO, HB1⟩
      case round =>
        obtain ⟨k, hk, rfl, hown, hbl⟩ := hrel
        by_cases hlt : k < 3
        · obtain ⟨X, ao, cap, hc, hX, hcat⟩ := HCs.out _ hbl.out k hlt
          have HCAT := Lib.hid hcat
          have hm2 := HCl.out (k + 1)
          have hlen : (C (k + 1)).length = (C k).length + X.length := by rw [hcat]; simp
          have hsum : (C k).length + X.length ≤ 100000 := by omega
          have HX := Lib.hid hX
          have HS := Lib.hid hsum
          have hbs := hbl.out.size
          clear hcat hm2 hlen hX hsum
          cases ao with
          | none =>
            have h0 := HX.out.nil_of
            have HX0 := Lib.hid h0
            rw [h0] at hc
            clear h0
            go_wp2_with (at_builtin; refine wpList_append_own_none' rfl _ _ 22 rfl w.heap.size 34 i0 10 cap Tryd.underlying22 HI.out _ _ _ rfl hown.out rfl ?_)
            go_roundw
            case rel => exact ⟨k + 1, by omega, by go_num, by rw [HCAT.out, HX0.out, List.append_nil]; exact hown, hbl⟩
            case measure => simp [intOf]; omega
          | some ad =>
            obtain ⟨mx, hmx⟩ : ∃ q, q = X.length := ⟨_, rfl⟩
            rw [← hmx] at hc
            have HMX := Lib.hid hmx
            have hmm : mx ≤ 100000 := by have := HS.out; omega
            clear hmx
            go_wp2_with (at_builtin; refine wpList_append_own _ rfl _ _ 22 rfl w.heap.size 34 i0 zeroM 10 120 Tryd.underlying22 HI.out HZ0.out HZ1.out HZ2.out rfl (by decide) _ _ _ rfl hown.out ad mx cap (X.flatMap enM) rfl ?c1 ?c2 ?c3 ?c4 ?c5 ?c6 ?_)
            case c1 => rw [HMX.out]; exact flatMap_len enM_len X
            case c2 => exact Lst.news enM_len (by decide) HX.out.row
            case c3 => exact flatM_one HX.out.forms
            case c4 => have := HS.out; have := HMX.out; unfold maxLen; omega
            case c5 => have := HS.out; have := HMX.out; omega
            case c6 => exact hbs
            intro v' w3 hown3 hgrow3 _
            have hb3 : RowKit.Below w.heap.size w w3 := hbl.out.grown hgrow3 hbs (fun k hk => (World.ownsRow.lt hown.out k hk).1)
            have HO3 := Lib.hid (show w3.ownsRow w.heap.size 34 10 v' (C (k + 1)).length ((C (k + 1)).flatMap enM) from by rw [HCAT.out, List.length_append, List.flatMap_append, ← HMX.out]; exact hown3)
            have HB3 := Lib.hid hb3
            clear hown3 hgrow3 hb3
            go_wp2
            go_roundw
            case rel => exact ⟨k + 1, by omega, by go_num, HO3, HB3⟩
            case measure => simp [intOf]; omega
        · obtain rfl : k = 3 := by omega
          go_wp2_with fail
          go_ret
          exact ⟨_, rfl, hown.out, hbl.out⟩
end Go.Proofs.YtgcfhlleaekgfaaDoor.Mut
