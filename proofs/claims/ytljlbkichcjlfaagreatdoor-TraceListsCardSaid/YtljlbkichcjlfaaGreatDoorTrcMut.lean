/- Layer 30 (trace): name, what, nodes, Mut. PRINTED by wip/gentrcmut.py. -/
import Derived.Test.YtljlbkichcjlfaaGreatDoorTrcQuote
import Derived.Test.YtljlbkichcjlfaaGreatDoorInts
import Derived.Test.YtljlbkichcjlfaaGreatDoorConBase
import Derived.Deep.MidRow
set_option linter.unusedSimpArgs false
set_option linter.unusedVariables false
namespace Go.Proofs.YtljlbkichcjlfaaGreatDoor.Trc
open Go.RowKit Go.Proofs.YtljlbkichcjlfaaGreatDoor.RegInv Go.Proofs.YtljlbkichcjlfaaGreatDoor.Mut Go.Proofs.YtljlbkichcjlfaaGreatDoor.Ints
set_option linter.unusedSectionVars false
variable [Inhabited Lim]

/-- These cells, from a block's head on. -/
structure CellsAt (w : World) (g : Nat) (l : List Value) : Prop where
  lt : g < w.heap.size
  get : ∀ (k : Nat) (v : Value), l[k]? = some v → w.cell? ⟨g, k, none⟩ = some v
theorem CellsAt.below {w w' : World} {g : Nat} {l : List Value} (h : CellsAt w g l) (hb : Below w.heap.size w w') : CellsAt w' g l :=
  ⟨Nat.lt_of_lt_of_le h.lt hb.size, fun k v hv => (hb.cell (p := ⟨g, k, none⟩) h.lt).trans (h.get k v hv)⟩
theorem CellsAt.new (w : World) (l : List Value) (t : TypeId) : CellsAt (w.alloc (.cells ⟨l⟩ t)) w.heap.size l :=
  ⟨by simp, fun k v hv => by
    have h := new_cells w l t k v hv
    rw [addr_add, Nat.zero_add] at h
    exact h⟩
/-- A struct in the middle of them, loaded. -/
theorem CellsAt.load {w : World} {g : Nat} {l : List Value} (h : CellsAt w g l) (o : Nat) (ty : TypeId) (cs : List Value) (d : TypeDesc) (hcs : ∀ j v, cs[j]? = some v → l[o + j]? = some v)
    (hu : Tryz.prog.underlying ty = some d) (hd : d.isRow = true) (hi : (Tryz.prog.info? ty).map (·.size) = some cs.length) : (Instr.loadAt ty (.pointer (some ⟨g, o, none⟩))).run Tryz.prog w = .ok (.agg cs.toArray) w :=
  run_loadAt_mid w g o ty cs d (fun j v hv => h.get _ _ (hcs j v hv)) hu hd hi
theorem CellsAt.cut {l : List Value} {o : Nat} {cs : List Value} (h : (l.drop o).take cs.length = cs) : ∀ j v, cs[j]? = some v → l[o + j]? = some v := fun j v hv => by
  rw [← List.getElem?_drop]
  have hj := (List.getElem?_eq_some_iff.1 hv).1
  rw [← h, List.getElem?_take_of_lt hj] at hv
  exact hv
def nameF (k : Int) : ByteArray :=
  if k = 1 then ⟨#[97, 99, 99, 101, 112, 116]⟩
  else if k = 2 then ⟨#[105, 110, 115, 116, 97, 108, 108]⟩
  else if k = 3 then ⟨#[102, 105, 110, 105, 115, 104]⟩
  else if k = 4 then ⟨#[115, 119, 101, 112, 116]⟩
  else if k = 5 then ⟨#[114, 101, 112, 108, 121]⟩
  else if k = 6 then ⟨#[100, 111, 119, 110]⟩
  else if k = 7 then ⟨#[117, 112]⟩
  else if k = 8 then ⟨#[113, 117, 97, 114, 97, 110, 116, 105, 110, 101]⟩
  else if k = 9 then ⟨#[116, 114, 121]⟩
  else if k = 10 then ⟨#[116, 111, 108, 100]⟩
  else if k = 11 then ⟨#[98, 101, 103, 97, 110]⟩
  else ByteArray.empty
theorem nameF_size (k : Int) : (nameF k).size ≤ 10 := by
  unfold nameF
  repeat' split
  all_goals decide
set_option maxRecDepth 100000 in
set_option maxHeartbeats 2000000 in
theorem name_any (k : Int) (w : World) : Calls Tryz.prog 20 #[.int .i64 k] w fun e w' => e = .returned (.string (nameF k)) ∧ Below w.heap.size w w' := by
  go_enter Tryz.func20, Tryz.ntmps20
  by_cases h1 : k = 1
  · subst h1
    go_wp2_with fail
    go_ret
    exact ⟨rfl, Below.refl _ _⟩
  have n1 : (k == 1) = false := by rw [beq_eq_false_iff_ne]; exact h1
  by_cases h2 : k = 2
  · subst h2
    go_wp2_with fail
    go_ret
    exact ⟨rfl, Below.refl _ _⟩
  have n2 : (k == 2) = false := by rw [beq_eq_false_iff_ne]; exact h2
  by_cases h3 : k = 3
  · subst h3
    go_wp2_with fail
    go_ret
    exact ⟨rfl, Below.refl _ _⟩
  have n3 : (k == 3) = false := by rw [beq_eq_false_iff_ne]; exact h3
  by_cases h4 : k = 4
  · subst h4
    go_wp2_with fail
    go_ret
    exact ⟨rfl, Below.refl _ _⟩
  have n4 : (k == 4) = false := by rw [beq_eq_false_iff_ne]; exact h4
  by_cases h5 : k = 5
  · subst h5
    go_wp2_with fail
    go_ret
    exact ⟨rfl, Below.refl _ _⟩
  have n5 : (k == 5) = false := by rw [beq_eq_false_iff_ne]; exact h5
  by_cases h6 : k = 6
  · subst h6
    go_wp2_with fail
    go_ret
    exact ⟨rfl, Below.refl _ _⟩
  have n6 : (k == 6) = false := by rw [beq_eq_false_iff_ne]; exact h6
  by_cases h7 : k = 7
  · subst h7
    go_wp2_with fail
    go_ret
    exact ⟨rfl, Below.refl _ _⟩
  have n7 : (k == 7) = false := by rw [beq_eq_false_iff_ne]; exact h7
  by_cases h8 : k = 8
  · subst h8
    go_wp2_with fail
    go_ret
    exact ⟨rfl, Below.refl _ _⟩
  have n8 : (k == 8) = false := by rw [beq_eq_false_iff_ne]; exact h8
  by_cases h9 : k = 9
  · subst h9
    go_wp2_with fail
    go_ret
    exact ⟨rfl, Below.refl _ _⟩
  have n9 : (k == 9) = false := by rw [beq_eq_false_iff_ne]; exact h9
  by_cases h10 : k = 10
  · subst h10
    go_wp2_with fail
    go_ret
    exact ⟨rfl, Below.refl _ _⟩
  have n10 : (k == 10) = false := by rw [beq_eq_false_iff_ne]; exact h10
  by_cases h11 : k = 11
  · subst h11
    go_wp2_with fail
    go_ret
    exact ⟨rfl, Below.refl _ _⟩
  have n11 : (k == 11) = false := by rw [beq_eq_false_iff_ne]; exact h11
  have HF := Lib.hid (show nameF k = ByteArray.empty from by unfold nameF; rw [if_neg h1, if_neg h2, if_neg h3, if_neg h4, if_neg h5, if_neg h6, if_neg h7, if_neg h8, if_neg h9, if_neg h10, if_neg h11])
  clear h1 h2 h3 h4 h5 h6 h7 h8 h9 h10 h11
  go_wp2_with fail
  go_ret
  exact ⟨by rw [HF.out]; rfl, Below.refl _ _⟩

def whatF (k : Int) : ByteArray := if k = 1 then ⟨#[112, 117, 116]⟩ else if k = 2 then ⟨#[100, 101, 108]⟩ else if k = 3 then ⟨#[119, 105, 112, 101]⟩ else ⟨#[110, 111, 110, 101]⟩
theorem whatF_size (k : Int) : (whatF k).size ≤ 4 := by
  unfold whatF
  repeat' split
  all_goals decide
set_option maxRecDepth 100000 in
set_option maxHeartbeats 2000000 in
theorem what_any (x : Ro) (w : World) : Calls Tryz.prog 38 #[vM x] w fun e w' => e = .returned (.string (whatF x.1.kind)) ∧ Below w.heap.size w w' := by
  obtain ⟨⟨table, k, key, fin, val, expiry, at_, ovr⟩, v⟩ := x
  unfold vM
  simp only []
  go_enter Tryz.func38, Tryz.ntmps38
  by_cases h1 : k = 1
  · subst h1
    go_wp2_with fail
    go_ret
    exact ⟨rfl, (Below.refl _ _).alloc (Nat.le_refl _) _⟩
  have n1 : (k == 1) = false := by rw [beq_eq_false_iff_ne]; exact h1
  by_cases h2 : k = 2
  · subst h2
    go_wp2_with fail
    go_ret
    exact ⟨rfl, (Below.refl _ _).alloc (Nat.le_refl _) _⟩
  have n2 : (k == 2) = false := by rw [beq_eq_false_iff_ne]; exact h2
  by_cases h3 : k = 3
  · subst h3
    go_wp2_with fail
    go_ret
    exact ⟨rfl, (Below.refl _ _).alloc (Nat.le_refl _) _⟩
  have n3 : (k == 3) = false := by rw [beq_eq_false_iff_ne]; exact h3
  have HF := Lib.hid (show whatF k = ⟨#[110, 111, 110, 101]⟩ from by unfold whatF; rw [if_neg h1, if_neg h2, if_neg h3])
  clear h1 h2 h3
  go_wp2_with fail
  go_ret
  exact ⟨by rw [HF.out]; rfl, (Below.refl _ _).alloc (Nat.le_refl _) _⟩

def nodesFrom : List Int → Nat → ByteArray → ByteArray
  | [], _, acc => acc
  | n :: l, i, acc => nodesFrom l (i + 1) ((if 0 < i then acc ++ ⟨#[44]⟩ else acc) ++ textF n)
def nodesF (l : List Int) : ByteArray := nodesFrom l 0 ⟨#[]⟩
theorem nodesFrom_size : ∀ (l : List Int) (i : Nat) (acc : ByteArray), (nodesFrom l i acc).size ≤ acc.size + 21 * l.length
  | [], _, _ => by simp [nodesFrom]
  | n :: l, i, acc => by
    have h := nodesFrom_size l (i + 1) ((if 0 < i then acc ++ ⟨#[44]⟩ else acc) ++ textF n)
    have h2 := textF_size n
    have h3 : (⟨#[44]⟩ : ByteArray).size = 1 := rfl
    unfold nodesFrom
    rw [ByteArray.size_append] at h
    split at h
    · rw [ByteArray.size_append] at h
      rw [List.length_cons]
      rw [if_pos (by assumption)]
      omega
    · rw [List.length_cons]
      rw [if_neg (by assumption)]
      omega
theorem nodesF_size (l : List Int) : (nodesF l).size ≤ 21 * l.length := by
  have h := nodesFrom_size l 0 ⟨#[]⟩
  have h3 : (⟨#[]⟩ : ByteArray).size = 0 := rfl
  unfold nodesF
  omega

set_option maxRecDepth 100000 in
set_option maxHeartbeats 2000000 in
theorem nodes_any (ao : Option Addr) (ac : Nat) (l : List Int) (w : World) (ha : IRow w (.slice ao l.length ac) l) (hl : l.length ≤ 1000) :
    Calls Tryz.prog 24 #[.slice ao l.length ac] w fun e w' => e = .returned (.string (nodesF l)) ∧ Below w.heap.size w w' := by
  have HA := Lib.hid ha
  obtain ⟨n, hn⟩ : ∃ n, n = l.length := ⟨_, rfl⟩
  have HN := Lib.hid hn
  rw [← hn] at hl HA ⊢
  clear ha hn
  go_enter Tryz.func24, Tryz.ntmps24
  go_wp2_with fail
  go_loopw [3, 8] (fun sv iv wr => ∃ (k : Nat) (acc : ByteArray), k ≤ n ∧ iv = .int .i64 k ∧ sv = .string acc ∧ acc.size ≤ 21 * k ∧ Hid (nodesFrom (l.drop k) k acc = nodesF l) ∧ Hid (Below w.heap.size w wr)) (fun _ iv _ => n - (intOf iv).toNat)
  case atStart => exact ⟨0, _, by omega, rfl, rfl, by decide, Lib.hid rfl, Lib.hid (Below.refl _ _)⟩
  case round =>
    obtain ⟨k, acc, hk, rfl, rfl, hz, hq, hbl⟩ := hrel
    by_cases hlt : k < n
    · have hkl : k < l.length := by have := HN.out; omega
      obtain ⟨x, hx⟩ : ∃ x, l[k]? = some x := ⟨_, List.getElem?_eq_getElem hkl⟩
      obtain ⟨ab, aoff, rfl, hab, a0⟩ := int_at (HA.out.below hbl.out) hx
      have hst : nodesFrom (l.drop k) k acc = nodesFrom (l.drop (k + 1)) (k + 1) ((if 0 < k then acc ++ ⟨#[44]⟩ else acc) ++ textF x) := by
        rw [List.drop_eq_getElem_cons hkl, nodesFrom]
        rw [List.getElem?_eq_getElem hkl] at hx
        injection hx with hx
        rw [hx]
      have hts := textF_size x
      have hcs : (⟨#[44]⟩ : ByteArray).size = 1 := rfl
      have HB := Lib.hid hbl.out
      have HT := Lib.hid (fun W => text_any x W)
      rcases Nat.eq_zero_or_pos k with rfl | h0
      · have HQ := Lib.hid (show nodesFrom (l.drop (0 + 1)) (0 + 1) (acc ++ textF x) = nodesF l from by rw [← hq.out, hst, if_neg (by omega)])
        rw [Nat.add_zero] at a0
        clear hst hq hx hbl
        go_wp2_with fail
        refine (HT.out wr).mono ?_
        rintro e w1 ⟨rfl, hb1⟩
        have HB1 := Lib.hid (below_then HB.out (Nat.le_refl _) hb1)
        clear hb1
        go_wp2_with fail
        go_roundw
        case rel => exact ⟨0 + 1, _, by omega, by go_num, rfl, by rw [ByteArray.size_append]; omega, HQ, HB1⟩
        case measure => simp [intOf]; omega
      · have HQ := Lib.hid (show nodesFrom (l.drop (k + 1)) (k + 1) (acc ++ ⟨#[44]⟩ ++ textF x) = nodesF l from by rw [← hq.out, hst, if_pos h0])
        have hca : (acc ++ (⟨#[44]⟩ : ByteArray)).size ≤ 21 * k + 1 := by rw [ByteArray.size_append]; omega
        clear hst hq hx hbl
        go_wp2_with fail
        refine (HT.out wr).mono ?_
        rintro e w1 ⟨rfl, hb1⟩
        have HB1 := Lib.hid (below_then HB.out (Nat.le_refl _) hb1)
        clear hb1
        go_wp2_with fail
        go_roundw
        case rel => exact ⟨k + 1, _, by omega, by go_num, rfl, by rw [ByteArray.size_append]; omega, HQ, HB1⟩
        case measure => simp [intOf]; omega
    · have hkn : l.drop k = [] := List.drop_eq_nil_of_le (by have := HN.out; omega)
      have HQ := Lib.hid (show acc = nodesF l from by rw [← hq.out, hkn]; rfl)
      have HB := Lib.hid hbl.out
      clear hkn hq hbl
      go_wp2_with fail
      go_ret
      exact ⟨by rw [← HQ.out]; rfl, HB.out⟩

def spF : ByteArray := ⟨#[32]⟩
def mut0 (m : Mu) : ByteArray := whatF m.kind ++ spF ++ m.key
def mut1 (m : Mu) : ByteArray := if m.kind = 3 then mut0 m ++ (spF ++ m.fin) else mut0 m
def mut2 (m : Mu) : ByteArray := mut1 m ++ (spF ++ stampF m.at_)
def mutF (m : Mu) : ByteArray := if m.kind = 1 then mut2 m ++ (spF ++ quoteF m.val) else mut2 m
theorem mutF_size (m : Mu) (h : Small m) : (mutF m).size ≤ 8000000 := by
  have h1 := whatF_size m.kind
  have h2 := stampF_size m.at_
  have h3 := quoteF_size m.val
  have h4 := h.key
  have h5 := h.fin
  have h6 := h.val
  have h7 : spF.size = 1 := rfl
  unfold mutF mut2 mut1 mut0
  repeat' split
  all_goals (simp only [ByteArray.size_append]; omega)

end Go.Proofs.YtljlbkichcjlfaaGreatDoor.Trc
