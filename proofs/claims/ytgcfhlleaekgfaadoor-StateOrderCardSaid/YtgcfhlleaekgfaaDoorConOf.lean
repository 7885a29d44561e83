/- The walk of state.Of (layer 8). -/
import Derived.Test.YtgcfhlleaekgfaaDoorConNew
namespace Go.Proofs.YtgcfhlleaekgfaaDoor.Mut
open Go.RowKit Go.Sort Go.Proofs.YtgcfhlleaekgfaaDoor.Ord

/-- A content lies in a variable. -/
def Holds (w0 : World) (t : Nat) (S : Mu → Prop) (n : Nat) (w : World) : Prop :=
  ∃ (o1 : Option Addr) (m1 k1 : Nat) (o2 : Option Addr) (m2 k2 : Nat) (o3 : Option Addr) (m3 k3 : Nat) (c : Con), C3 w t (.slice o1 m1 k1) (.slice o2 m2 k2) (.slice o3 m3 k3) ∧ Lies w (.slice o1 m1 k1) (.slice o2 m2 k2) (.slice o3 m3 k3) c ∧ Reps S c ∧ Okc c n ∧ RowKit.Below w0.heap.size w0 w
/-- A content comes back. -/
def ConP (w : World) (S : Mu → Prop) (n : Nat) (e : Ending) (w' : World) : Prop :=
  ∃ a b d c, e = .returned (.agg #[a, b, d]) ∧ Lies w' a b d c ∧ Reps S c ∧ Okc c n ∧ RowKit.Below w.heap.size w w'
/-- Those of a row that may be. -/
def Fits (l : List Mu) (m : Mu) : Prop := m ∈ l ∧ rightF m = true
theorem fits_snoc (l : List Mu) (x y : Mu) : Fits (l ++ [x]) y ↔ Fits l y ∨ (y = x ∧ rightF x = true) := by
  unfold Fits
  rw [List.mem_append, List.mem_singleton]
  constructor
  · rintro ⟨h | rfl, h2⟩
    · exact Or.inl ⟨h, h2⟩
    · exact Or.inr ⟨rfl, h2⟩
  · rintro (⟨h, h2⟩ | ⟨rfl, h2⟩)
    · exact ⟨Or.inl h, h2⟩
    · exact ⟨Or.inr rfl, h2⟩

set_option maxHeartbeats 4000000 in
set_option maxRecDepth 100000 in
theorem of_any (v : Value) (R : List Ro) (w : World) (hT : Tabs w) (hv : MRow w v R) (hn : R.length ≤ 10000) (hs : ∀ x ∈ R, Small x.1) :
    Calls Tryd.prog 5 #[v] w (ConP w (Fits (R.map (·.1))) R.length) := by
  obtain ⟨ao, cap, rfl, -, -⟩ := hv.form
  obtain ⟨n, hN⟩ : ∃ n, n = R.length := ⟨_, rfl⟩
  rw [← hN]
  have HN := Lib.hid hN
  have HV := Lib.hid hv
  have HS := Lib.hid hs
  have HT := Lib.hid hT
  have hn' : n ≤ 10000 := by omega
  clear hv hN hs hT hn
  go_enter Tryd.func5, Tryd.ntmps5
  go_wp2_with fail
  have hC0 := (C3.new w (.slice none 0 0) (.slice none 0 0) (.slice none 0 0)).below ((Below.refl _ _).alloc (Nat.le_refl _) (.cells #[.slice none 0 0, .slice none 0 0, .slice none 0 0] 25))
  have hC1 := C3.new (w.alloc (.cells #[.slice none 0 0, .slice none 0 0, .slice none 0 0] 25)) (.slice none 0 0) (.slice none 0 0) (.slice none 0 0)
  have hB := ((Below.refl _ w).alloc (Nat.le_refl _) (.cells #[.slice none 0 0, .slice none 0 0, .slice none 0 0] 25)).alloc (by simp) (.cells #[.slice none 0 0, .slice none 0 0, .slice none 0 0] 25)
  rw [World.size_alloc] at hC1
  go_loopw [9] (fun iv wr => ∃ (k : Nat), k ≤ n ∧ iv = .int .i64 k ∧ Hid (C3 wr w.heap.size (.slice none 0 0) (.slice none 0 0) (.slice none 0 0)) ∧ Hid (Holds w (w.heap.size + 1) (Fits ((R.map (·.1)).take k)) k wr)) (fun iv _ => n - (intOf iv).toNat)
  case atStart => exact ⟨0, by omega, rfl, Lib.hid hC0, Lib.hid ⟨_, _, _, _, _, _, _, _, _, ⟨[], [], []⟩, hC1, Lies.none _, Reps.none.same (fun m => by unfold Fits; simp), ⟨fun m hm => (by cases hm), Nat.le_refl _⟩, hB⟩⟩
  case round =>
    obtain ⟨k, hk, rfl, hC, hH⟩ := hrel
    obtain ⟨o1, m1, k1, o2, m2, k2, o3, m3, k3, c, h3, hl, hr, ho, hb⟩ := hH.out
    have HB := Lib.hid hb
    have H3 := Lib.hid h3
    have HL := Lib.hid hl
    have HR := Lib.hid hr
    have HO := Lib.hid ho
    clear h3 hl hr ho hb hC0 hC1 hB hH
    obtain ⟨hl3, p0, p1, p2, q0, q1, q2⟩ := H3.out
    by_cases hlt : k < n
    · have hkr : k < R.length := by have := HN.out; omega
      have hget : R[k]? = some R[k] := List.getElem?_eq_getElem hkr
      have hxs := HS.out _ (List.getElem_mem hkr)
      have hxo := (HV.out.below HB.out).over _ (List.getElem_mem hkr)
      obtain ⟨b, off, e1, hat⟩ := (HV.out.below HB.out).at_ hget
      have htk : (R.map (·.1)).take (k + 1) = (R.map (·.1)).take k ++ [R[k].1] := by rw [List.take_add_one, List.getElem?_map, hget]; rfl
      subst e1
      obtain ⟨x, hx⟩ : ∃ x, x = R[k] := ⟨_, rfl⟩
      rw [← hx] at hxs hxo hat htk
      clear hx hget
      have HTK := Lib.hid htk
      have HAD := Lib.hid (fun (W : World) (hW : RowKit.Below wr.heap.size wr W) => add_any _ _ _ c _ k x W ((HT.out.below HB.out).below hW) (HL.out.below hW) HR.out HO.out (by omega) (hxo.below hW) hxs)
      obtain ⟨xo, xc, ex, -, -⟩ := Over.form hxo
      obtain ⟨⟨at1, ak1, akey1, afin1, aval1, aex1, ⟨ap1, al1, aw1⟩, aov1⟩, av1⟩ := x
      simp only [] at ex
      obtain ⟨xn, hxn⟩ : ∃ k, k = aov1.length := ⟨_, rfl⟩
      rw [← hxn] at ex
      subst ex
      obtain ⟨hbl, z0, z1, z2, z3, z4, z5, z6, z7, z8, z9⟩ := hat
      clear hxn htk hxs hxo
      unfold vM at HAD
      simp only [] at HAD z0 z1 z2 z3 z4 z5 z6 z7 z8 z9
      go_wp2_with fail
      have hbm := (Below.refl wr.heap.size wr).alloc (Nat.le_refl _) (.cells #[.int .i64 at1, .int .i64 ak1, .string akey1, .string afin1, .string aval1, .int .i64 aex1, .int .i64 ap1, .int .i64 al1, .int .i64 aw1, .slice xo xn xc] 34)
      refine (HAD.out _ hbm).mono ?_
      rintro e w3 ⟨va, vb, vd, c', rfl, hl, hr, ho, hb3⟩
      obtain ⟨o4, m4, k4, hv1⟩ := hl.cells.slice
      obtain ⟨o5, m5, k5, hv2⟩ := hl.wipes.slice
      obtain ⟨o6, m6, k6, hv3⟩ := hl.sibs.slice
      subst hv1 hv2 hv3
      have hb4 := below_then hbm (Nat.le_refl _) hb3
      have H34 := Lib.hid (H3.out.below hb4)
      have HC4 := Lib.hid (hC.out.below hb4)
      have HB4 := Lib.hid (below_then HB.out (Nat.le_refl _) hb4)
      have HX := Lib.hid (And.intro hl (And.intro hr ho))
      clear hl hr ho hb3 hb4 p0 p1 p2 q0 q1 q2 z0 z1 z2 z3 z4 z5 z6 z7 z8 z9
      obtain ⟨-, p0, p1, p2, q0, q1, q2⟩ := H34.out
      go_wp2_with fail
      go_roundw
      case rel =>
        refine ⟨k + 1, by omega, by go_num, Lib.hid ?_, Lib.hid ⟨o4, m4, k4, o5, m5, k5, o6, m6, k6, c', c3_put H34.out _ _ _, HX.out.1.plain3 (plain3 H34.out _ _ _), HX.out.2.1.same (fun y => ?_), HX.out.2.2, c3_put_below HB4.out (by omega) _ _ _⟩⟩
        · exact ((HC4.out.other (by omega)).other (by omega)).other (by omega)
        · rw [HTK.out]; exact (fits_snoc _ _ _).symm
      case measure => simp [intOf]; omega
    · obtain rfl : k = n := by omega
      obtain ⟨-, t0, t1, t2, f0, f1, f2⟩ := hC.out
      go_wp2_with fail
      obtain ⟨-, e0, e1, e2, -⟩ := c3_put hC.out (.slice o1 m1 k1) (.slice o2 m2 k2) (.slice o3 m3 k3)
      refine bodyPost_ret (v := .agg #[.slice o1 m1 k1, .slice o2 m2 k2, .slice o3 m3 k3]) (by simp [results, Tryd.f5, go_sem, e0, e1, e2]) rfl ?_
      have hh := HR.out
      rw [HN.out, show (R.map (·.1)).take R.length = R.map (·.1) from by rw [List.take_of_length_le (by simp)]] at hh
      exact ⟨_, _, _, c, rfl, HL.out.plain3 (plain3 hC.out _ _ _), hh, HO.out, c3_put_below HB.out (Nat.le_refl _) _ _ _⟩
end Go.Proofs.YtgcfhlleaekgfaaDoor.Mut
