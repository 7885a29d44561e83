/- The walks of layer 5 (vector): a map that reads as a row; vector.Of, Knows. -/
import Derived.Test.YtihfcohebgemdaaVecRef3
import Derived.Maps.OwnOps
import Derived.Maps.OwnIn
namespace Go.Proofs.Ytihfcohebgemdaa.Vec
open Go.RowKit Go.Maps

abbrev VMap (w : World) (b : Nat) (l : List P) : Prop := w.ownsMap (H := Unit) Try.prog 3 (plainElem Try.prog 3) b l.length (dat l)
theorem law : Keyed Try.prog 3 := int_keyed Try.underlying3
theorem wf64 {x : Int} (h1 : -9223372036854775808 ≤ x) (h2 : x ≤ 9223372036854775807) : (Lit.int .i64 x).wf = true := by
  simp [Lit.wf, IntKind.min, IntKind.max, IntKind.bits, IntKind.signed]; omega
theorem key {x : Int} (h1 : -9223372036854775808 ≤ x) (h2 : x ≤ 9223372036854775807) : keyOf Try.prog 3 (.int .i64 x) = some (.int .i64 x) := keyOf_int_mk Try.underlying3 (wf64 h1 h2)
theorem VMap.below {w w' : World} {b : Nat} {l : List P} (h : VMap w b l) (hb : Below w.heap.size w w') : VMap w' b l :=
  h.kept (row := none) ⟨hb.os, hb.tape, hb.output, hb.size, fun i hi _ => hb.block i hi⟩ (by simp)
theorem VMap.lt {w : World} {b : Nat} {l : List P} (h : VMap w b l) : b < w.heap.size := World.ownsMap.lt h
/-- Whose writes they are lies in an int. -/
def Sm (l : List P) : Prop := ∀ x ∈ l, x.who ≤ 9223372036854775807
theorem Sm.set {l : List P} {d : P} (h : Sm l) (hd : d.who ≤ 9223372036854775807) : Sm (setF l d) := fun x hx => by
  rcases mem_setG hx with h1 | h1
  · subst h1; exact hd
  · exact h x h1.1
theorem Sm.up {l : List P} {d : P} (h : Sm l) (hd : d.who ≤ 9223372036854775807) : Sm (up l d) := by
  unfold Vec.up
  split
  · exact h.set hd
  · exact h
theorem Sm.foldl : ∀ {l a : List P}, Sm a → Sm l → Sm (l.foldl Vec.up a)
  | [], _, h, _ => h
  | x :: t, a, h, hl => Sm.foldl (l := t) (a := Vec.up a x) (Sm.up h (hl x (by simp))) fun y hy => hl y (by simp [hy])
theorem Sm.of {l : List P} (h : Sm l) : Sm (ofF l) := Sm.foldl (fun x hx => by simp at hx) h
theorem Sm.join {a b : List P} (ha : Sm a) (hb : Sm b) : Sm (joinF a b) := Sm.foldl ha hb
theorem Sm.meet {a b : List P} (ha : Sm a) : Sm (meetF a b) := fun x hx => by
  obtain ⟨y, hy, e, _⟩ := mem_meetF hx
  have := ha y hy
  omega
theorem Sm.take {l : List P} (h : Sm l) (k : Nat) : Sm (l.take k) := fun x hx => h x (List.mem_of_mem_take hx)

/-- A new map comes back. -/
def MapPost (w : World) (l : List P) (e : Ending) (w' : World) : Prop := ∃ b, e = .returned (.map (some b)) ∧ VMap w' b l ∧ w.heap.size ≤ b ∧ Below w.heap.size w w'

theorem right_lit (q : Bool) (d : P) (w : World) (h : right d = q) :
    Calls Try.prog 45 #[.agg #[.int .i64 d.who, .int .i64 d.n]] w fun e w' => e = .returned (.bool q) ∧ Below w.heap.size w w' := by
  subst h; exact right_any d w

set_option maxHeartbeats 1000000 in
theorem knows_any (b : Nat) (l : List P) (d : P) (w : World) (ha : VMap w b l) (h1 : -9223372036854775808 ≤ d.who) (h2 : d.who ≤ 9223372036854775807) :
    Calls Try.prog 44 #[.map (some b), .agg #[.int .i64 d.who, .int .i64 d.n]] w fun e w' => e = .returned (.bool (knowsF l d)) ∧ Below w.heap.size w w' := by
  have HA := Lib.hid ha
  clear ha
  unfold knowsF
  cases hr : right d
  all_goals
    go_enter Try.func44, Try.ntmps44
    go_wp2_with fail
    refine (right_lit _ d _ hr).mono ?_
    rintro e w2 ⟨rfl, hb2⟩
    have hb : Below w.heap.size w w2 := below_then ((Below.refl _ _).alloc (Nat.le_refl _) _) (Nat.le_refl _) hb2
    have c0 := (hb2.cell (p := ⟨w.heap.size, 0, none⟩) (by simp)).trans (show (w.alloc (.cells #[.int .i64 d.who, .int .i64 d.n] 33)).cell? ⟨w.heap.size, 0, none⟩ = some (.int .i64 d.who) by go_simp)
    have c1 := (hb2.cell (p := ⟨w.heap.size, 1, none⟩) (by simp)).trans (show (w.alloc (.cells #[.int .i64 d.who, .int .i64 d.n] 33)).cell? ⟨w.heap.size, 1, none⟩ = some (.int .i64 d.n) by go_simp)
    have hs := hb2.size
    simp at hs
    obtain ⟨c, hrun, hat, hwc⟩ := (HA.out.below hb).lookup_int law Try.underlying38 Try.underlying3 (Try.zeroValue3 _) (key h1 h2)
    obtain rfl := dat_get hat
    have HW := Lib.hid hb
    clear hb2 hb hat hwc
    go_wp2_with fail
    go_ret
    exact ⟨ret_bool (by simp), HW.out⟩

set_option maxRecDepth 100000 in
set_option maxHeartbeats 2000000 in
theorem of_any (ao : Option Addr) (ac : Nat) (l : List P) (w : World) (ha : DRow w (.slice ao l.length ac) l) (h1 : l.length ≤ 1000) (hs : Sm l) :
    Calls Try.prog 75 #[.slice ao l.length ac] w (MapPost w (ofF l)) := by
  have HA := Lib.hid ha
  have HS := Lib.hid hs
  clear ha hs
  have hmm := @run_makeMap Try.prog
  go_enter Try.func75, Try.ntmps75
  go_wp2_with fail
  have h0 : VMap (w.alloc (.map #[] 0)) w.heap.size [] := World.ownsMap_made _ _ _ _
  have H0 := Lib.hid h0
  clear h0
  go_loopw [9] (fun iv wr => ∃ (k : Nat), k ≤ l.length ∧ iv = .int .i64 k ∧ Hid (VMap wr w.heap.size (ofF (l.take k))) ∧ Below w.heap.size w wr) (fun iv _ => l.length - (vInt iv).toNat)
  case atStart => exact ⟨0, by omega, rfl, H0, (Below.refl _ _).alloc (Nat.le_refl _) _⟩
  case round =>
    obtain ⟨k, hk, rfl, hown, hbl⟩ := hrel
    have hsz := hbl.size
    by_cases hlt : k < l.length
    · have HA' := Lib.hid (Lst.below HA.out hbl)
      obtain ⟨ab, aoff, rfl, hab, a0, a1⟩ := dot_at HA'.out (List.getElem?_eq_getElem hlt)
      have htk := List.take_succ_eq_append_getElem hlt
      have hmem : l[k] ∈ l := List.getElem_mem hlt
      obtain ⟨y, hy⟩ : ∃ y, y = l[k] := ⟨_, rfl⟩
      rw [← hy] at a0 a1 htk hmem
      have hsm := HS.out y hmem
      have hpu := ofF_snoc (l.take k) y
      rw [← htk] at hpu
      have hgd := ofF_good (l.take k)
      have hle : (ofF (l.take k)).length ≤ 1000 := by have := ofF_len (l.take k); have h3 := List.length_take_le k l; omega
      clear hy htk hmem
      generalize ofF (l.take k) = out at *
      have hlt2 := hown.out.lt
      have HP := Lib.hid hpu
      have HG := Lib.hid hgd
      clear hpu hgd
      cases hr : right y
      · have hpo : out = ofF (l.take (k + 1)) := by rw [HP.out]; unfold up; rw [if_neg (by simp [hr])]
        have HPO := Lib.hid hpo
        clear hpo HP
        go_wp2_with fail
        refine (right_lit _ y _ hr).mono ?_
        rintro e w2 ⟨rfl, hb2⟩
        have hb3 : Below wr.heap.size wr w2 := below_then ((Below.refl _ _).alloc (Nat.le_refl _) _) (Nat.le_refl _) hb2
        have HV := Lib.hid (hown.out.below hb3)
        have HB := Lib.hid (below_then hbl (Nat.le_refl _) hb3)
        clear hb2 hb3
        go_wp2
        go_roundw
        case rel => exact ⟨k + 1, by omega, by go_num, by rw [← HPO.out]; exact HV, HB.out⟩
        case measure => simp [vInt]; omega
      · have hry := (right_iff y).1 hr
        have hpo : setF out ⟨y.who, max (getF out y.who) y.n⟩ = ofF (l.take (k + 1)) := by rw [HP.out]; unfold up; rw [if_pos hr]
        have hnn := HG.out.nonneg y.who
        have HPO := Lib.hid hpo
        clear hpo HP
        go_wp2_with fail
        refine (right_lit _ y _ hr).mono ?_
        rintro e w2 ⟨rfl, hb2⟩
        have c0 := (hb2.cell (p := ⟨wr.heap.size, 0, none⟩) (by simp)).trans (show (wr.alloc (.cells #[.int .i64 y.who, .int .i64 y.n] 33)).cell? ⟨wr.heap.size, 0, none⟩ = some (.int .i64 y.who) by go_simp)
        have c1 := (hb2.cell (p := ⟨wr.heap.size, 1, none⟩) (by simp)).trans (show (wr.alloc (.cells #[.int .i64 y.who, .int .i64 y.n] 33)).cell? ⟨wr.heap.size, 1, none⟩ = some (.int .i64 y.n) by go_simp)
        have hb3 : Below wr.heap.size wr w2 := below_then ((Below.refl _ _).alloc (Nat.le_refl _) _) (Nat.le_refl _) hb2
        have hs2 := hb2.size
        simp at hs2
        have hv := hown.out.below hb3
        obtain ⟨c, hrun, hat, hwc⟩ := hv.lookup_int law Try.underlying38 Try.underlying3 (Try.zeroValue3 _) (key (by omega) hsm)
        obtain rfl := dat_get hat
        have HV := Lib.hid hv
        have HB := Lib.hid (below_then hbl (Nat.le_refl _) hb3)
        clear hb2 hb3 hat hwc hv
        have hkey := key (x := y.who) (by omega) hsm
        have hval : plainElem (H := Unit) Try.prog 3 (.int .i64 (max (getF out y.who) y.n)) = some (.lit (.int .i64 (max (getF out y.who) y.n)), []) := plainElem_int Try.underlying3 (wf64 (by omega) (by omega))
        go_wp2_with (at_mapUpdate; refine wpList_mapUpdate_own _ rfl _ _ _ 38 rfl 3 3 law Try.underlying38 _ w.heap.size out.length (dat out) rfl HV.out (by unfold maxLen; omega) _ _ (.int .i64 y.who) rfl rfl hkey _ [] hval ?_)
        intro w3 hown3 hgrow3
        rw [dat_put HG.out.1 ⟨y.who, max (getF out y.who) y.n⟩] at hown3
        have HV3 := Lib.hid (own_tight hown3)
        rw [HPO.out] at HV3
        have HB3 := Lib.hid (HB.out.grown hgrow3 (by omega) (fun k hk => by cases hk; exact Nat.le_refl _))
        clear hown3 hgrow3
        go_wp2
        go_roundw
        case rel => exact ⟨k + 1, by omega, by go_num, HV3, HB3.out⟩
        case measure => simp [vInt]; omega
    · obtain rfl : k = l.length := by omega
      have hr := hown.out
      rw [List.take_length] at hr
      have HR := Lib.hid hr
      clear hr
      go_wp2
      go_ret
      exact ⟨_, rfl, HR.out, Nat.le_refl _, hbl⟩
end Go.Proofs.Ytihfcohebgemdaa.Vec
