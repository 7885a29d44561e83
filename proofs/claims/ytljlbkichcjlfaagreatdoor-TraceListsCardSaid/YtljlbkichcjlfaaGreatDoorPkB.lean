/- slices.Equal at []int, however long. PRINTED by wip/gentrceqi.py out of the walk in Ints. · Layer 30 (trace): cenotaphref04.Same. PRINTED by wip/gentrcstamps.py. · Layer 30 (trace), the law: alive. PRINTED by wip/gentrclaw.py. -/
import Derived.Test.YtljlbkichcjlfaaGreatDoorInts
import Derived.Test.YtljlbkichcjlfaaGreatDoorMutRights
import Derived.Test.YtljlbkichcjlfaaGreatDoorConKnown
import Derived.Test.YtljlbkichcjlfaaGreatDoorCalm
import Derived.Test.YtljlbkichcjlfaaGreatDoorCalmTail
import Derived.Test.YtljlbkichcjlfaaGreatDoorPkD
set_option linter.unusedSimpArgs false
set_option linter.unusedVariables false
namespace Go.Proofs.YtljlbkichcjlfaaGreatDoor.Ints
open Go.RowKit

set_option maxHeartbeats 400000 in
theorem equal_big (ao bo : Option Addr) (ac bc : Nat) (a b : List Int) (w : World) (ha : IRow w (.slice ao a.length ac) a) (hb : IRow w (.slice bo b.length bc) b) (h1 : a.length ≤ 17592186043904) (h2 : b.length ≤ 17592186043904) :
    Calls Tryz.prog 9 #[.slice ao a.length ac, .slice bo b.length bc] w fun e w' => e = .returned (.bool (eqI a b)) ∧ Below w.heap.size w w' := by
  have HA := Lib.hid ha
  have HB := Lib.hid hb
  clear ha hb
  cases hl : ((a.length : Int) != (b.length : Int))
  · have hll : a.length = b.length := by simp at hl; omega
    have HLL := Lib.hid hll
    obtain ⟨r, hr⟩ : ∃ r, r = eqI a b := ⟨_, rfl⟩
    rw [← hr]
    have HR := Lib.hid hr
    clear hr hll
    go_enter Tryz.func9, Tryz.ntmps9
    go_wp2_with fail
    go_loopw [13] (fun iv wr => ∃ (k nq : Nat), k ≤ a.length ∧ iv = .int .i64 k ∧ wr = w.drewN nq ∧ Hid (eqI (a.drop k) (b.drop k) = r)) (fun iv _ => a.length - (intOf iv).toNat)
    case atStart => exact ⟨0, 0, by omega, rfl, rfl, Lib.hid (by rw [HR.out]; simp)⟩
    case round =>
      obtain ⟨k, nq0, hk, rfl, rfl, hq0⟩ := hrel
      by_cases hlt : k < a.length
      · have hlb : k < b.length := by have := HLL.out; omega
        obtain ⟨ab, aoff, rfl, _, a0⟩ := int_at HA.out (List.getElem?_eq_getElem hlt)
        obtain ⟨bb, boff, rfl, _, b0⟩ := int_at HB.out (List.getElem?_eq_getElem hlb)
        have hda := List.drop_eq_getElem_cons hlt
        have hdb := List.drop_eq_getElem_cons hlb
        generalize a[k] = x at *
        generalize b[k] = y at *
        have HDA := Lib.hid hda
        have HDB := Lib.hid hdb
        clear hda hdb
        cases hqq : (x != y)
        · have HQ := Lib.hid hqq
          go_wp2_with fail
          go_quiet (fail)
          go_wp2_with fail
          go_roundw
          case rel => exact ⟨k + 1, _, by omega, by go_num, rfl, Lib.hid (by have h1 := hq0.out; rw [HDA.out, HDB.out] at h1; have h2 := HQ.out; simp at h2; rw [← h1]; unfold eqI; simp [h2])⟩
          case measure => simp [intOf]; omega
        · have HQ := Lib.hid hqq
          go_wp2_with fail
          go_quiet (fail)
          go_wp2_with fail
          go_ret
          exact ⟨by have h1 := hq0.out; rw [HDA.out, HDB.out] at h1; have h2 := HQ.out; simp at h2; rw [← h1]; unfold eqI; simp [h2], by repeat (first | exact Below.refl _ _ | apply below_drewN)⟩
      · obtain rfl : k = a.length := by omega
        go_wp2_with fail
        go_ret
        exact ⟨by have := hq0.out; rw [List.drop_length, HLL.out, List.drop_length] at this; rw [← this]; rfl, by repeat (first | exact Below.refl _ _ | apply below_drewN)⟩
  · have hll : a.length ≠ b.length := by simp at hl; omega
    have : eqI a b = false := by
      cases h : eqI a b with
      | false => rfl
      | true => rw [eqI_iff] at h; exact (hll (by rw [h])).elim
    rw [this]
    clear hll this
    go_enter Tryz.func9, Tryz.ntmps9
    go_wp2_with fail
    go_ret
    exact ⟨rfl, Below.refl _ _⟩

end Go.Proofs.YtljlbkichcjlfaaGreatDoor.Ints

namespace Go.Proofs.YtljlbkichcjlfaaGreatDoor.Mut
open Go.RowKit Go.Sort Go.Proofs.YtljlbkichcjlfaaGreatDoor.Ord
set_option linter.unusedSectionVars false
variable [Inhabited Lim]

theorem neqS_run2 (x y : Stp) (q : Bool) (h : eqS x y = q) (w : World) : (binOp .neq 29 (vS x) (vS y)).run Tryz.prog w = .ok (.bool (!q)) w := by rw [← h]; exact neqS_run x y w
theorem srow_at {w : World} {ao : Option Addr} {n cap : Nat} {l : List Stp} {k : Nat} {x : Stp} (h : SRow w (.slice ao n cap) l) (hk : l[k]? = some x) :
    ∃ b off, ao = some ⟨b, off, none⟩ ∧ b < w.heap.size ∧ w.cell? ⟨b, off + k * 3, none⟩ = some (.int .i64 x.p) ∧ w.cell? ⟨b, off + k * 3 + 1, none⟩ = some (.int .i64 x.l) ∧ w.cell? ⟨b, off + k * 3 + 2, none⟩ = some (.int .i64 x.w) := stamp_at h hk
def eqSs : List Stp → List Stp → Bool
  | [], [] => true
  | x :: a, y :: b => eqS x y && eqSs a b
  | _, _ => false
theorem eqS_iff (x y : Stp) : eqS x y = true ↔ x = y := by
  obtain ⟨a, b, c⟩ := x
  obtain ⟨d, e, f⟩ := y
  unfold eqS
  simp
theorem eqSs_iff : ∀ a b : List Stp, eqSs a b = true ↔ a = b
  | [], [] => by simp [eqSs]
  | [], _ :: _ => by simp [eqSs]
  | _ :: _, [] => by simp [eqSs]
  | x :: a, y :: b => by simp [eqSs, eqS_iff, eqSs_iff a b]
theorem eqSs_len (a b : List Stp) (h : a.length ≠ b.length) : eqSs a b = false := by
  cases hq : eqSs a b with
  | false => rfl
  | true => rw [eqSs_iff] at hq; exact (h (by rw [hq])).elim
set_option maxHeartbeats 2000000 in
set_option maxRecDepth 100000 in
theorem same04_any (v1 v2 : Value) (A B : List Stp) (w : World) (hA : SRow w v1 A) (hB : SRow w v2 B) (lA : A.length ≤ 1000000) (lB : B.length ≤ 1000000) :
    Calls Tryz.prog 16 #[v1, v2] w (RetB (eqSs A B) w) := by
  obtain ⟨ao, ac, rfl, -, -⟩ := Lst.form hA
  obtain ⟨bo, bc, rfl, -, -⟩ := Lst.form hB
  by_cases hl : A.length = B.length
  · obtain ⟨n, hN⟩ : ∃ n, n = A.length := ⟨_, rfl⟩
    rw [← hl, ← hN] at hB ⊢
    rw [← hN] at hA lA
    have hnB : n = B.length := hN.trans hl
    obtain ⟨Q, hQ⟩ : ∃ Q, Q = eqSs A B := ⟨_, rfl⟩
    rw [← hQ]
    have HA := Lib.hid hA
    have HB := Lib.hid hB
    have HN := Lib.hid hN
    have HNB := Lib.hid hnB
    have HQ := Lib.hid hQ
    clear hA hB hN hnB hQ hl lB
    go_enter Tryz.func16, Tryz.ntmps16
    go_wp2_with fail
    go_loopw [5] (fun iv wr => ∃ k : Nat, k ≤ n ∧ iv = .int .i64 k ∧ Hid (eqSs (A.drop k) (B.drop k) = Q) ∧ Hid (RowKit.Below w.heap.size w wr)) (fun iv _ => n - (intOf iv).toNat)
    case atStart => exact ⟨0, by omega, rfl, Lib.hid (by rw [HQ.out]; rfl), Lib.hid (Below.refl _ _)⟩
    case round =>
      obtain ⟨k, hk, rfl, hput, hl⟩ := hrel
      by_cases hlt : k < n
      · have hka : k < A.length := by have := HN.out; omega
        have hkb : k < B.length := by have := HNB.out; omega
        obtain ⟨xb, xoff, hao, hat⟩ := srow_at (HA.out.below hl.out) (List.getElem?_eq_getElem hka)
        cases hao
        obtain ⟨yb, yoff, hbo, hbt⟩ := srow_at (HB.out.below hl.out) (List.getElem?_eq_getElem hkb)
        cases hbo
        have hst := hput.out
        rw [List.drop_eq_getElem_cons hka, List.drop_eq_getElem_cons hkb] at hst
        generalize A[k] = x at hat hst
        generalize B[k] = y at hbt hst
        obtain ⟨q, hq⟩ : ∃ q, eqS x y = q := ⟨_, rfl⟩
        have hneq := fun w => neqS_run2 x y q hq w
        have hgd := fun a b xs ys w => guardS_run .neq a b xs ys w
        have HST := Lib.hid (show (q && eqSs (A.drop (k + 1)) (B.drop (k + 1))) = Q by rw [← hst, ← hq]; rfl)
        clear hst hq hput
        obtain ⟨xp, xl, xw⟩ := x
        obtain ⟨yp, yl, yw⟩ := y
        unfold vS at hneq
        simp only [] at hneq
        obtain ⟨hl1, a0, a1, a2⟩ := hat
        obtain ⟨hl2, b0, b1, b2⟩ := hbt
        simp only [] at a0 a1 a2 b0 b1 b2
        have j0 : (0 : Int) ≤ (k : Int) := by omega
        have j1 : (k : Int) < (n : Int) := by omega
        go_wp2_with fail
        refine wp_region_calm (by kernel_rfl) (by kernel_rfl) ?_
        repeat (go_big_quiet_step (fail))
        refine wpQuiet_nil ?_
        rintro _ ⟨z, rfl⟩
        obtain ⟨W1, hW1⟩ : ∃ W1, W1 = z.at := ⟨_, rfl⟩
        have hz := z.below
        rw [← hW1] at hz ⊢
        have HZ := Lib.hid (below_then hl.out (Nat.le_refl _) hz)
        clear hW1 z hz a0 a1 a2 b0 b1 b2 hneq hgd
        cases q
        · have HR := Lib.hid (show false = Q from HST.out)
          go_wp2_with fail
          go_ret
          exact ⟨ret_bool HR.out, HZ.out⟩
        · have HR := Lib.hid (show eqSs (A.drop (k + 1)) (B.drop (k + 1)) = Q from HST.out)
          go_wp2_with fail
          go_roundw
          case rel => exact ⟨k + 1, by omega, by go_num, HR, HZ⟩
          case measure => simp [intOf]; omega
      · obtain rfl : k = n := by omega
        have HR := Lib.hid (show true = Q by have h := hput.out; rw [List.drop_of_length_le (by have := HN.out; omega), List.drop_of_length_le (by have := HNB.out; omega)] at h; exact h)
        go_wp2_with fail
        go_ret
        exact ⟨ret_bool HR.out, hl.out⟩
  · have HE := Lib.hid (eqSs_len A B hl)
    obtain ⟨na, hna⟩ : ∃ k, k = A.length := ⟨_, rfl⟩
    obtain ⟨nb, hnb⟩ : ∃ k, k = B.length := ⟨_, rfl⟩
    rw [← hna, ← hnb] at hl ⊢
    rw [HE.out]
    have hne : ((na : Int) != (nb : Int)) = true := by simp; omega
    clear hA hB hna hnb
    go_enter Tryz.func16, Tryz.ntmps16
    go_wp2_with fail
    go_ret
    exact ⟨rfl, Below.refl _ _⟩
end Go.Proofs.YtljlbkichcjlfaaGreatDoor.Mut

namespace Go.Proofs.YtljlbkichcjlfaaGreatDoor.Trc
open Go.RowKit Go.Proofs.YtljlbkichcjlfaaGreatDoor.RegInv Go.Proofs.YtljlbkichcjlfaaGreatDoor.Mut Go.Proofs.YtljlbkichcjlfaaGreatDoor.Ints
set_option linter.unusedSectionVars false
variable [Inhabited Lim]

def exE : Ev := ⟨1, 0, 1, 0, (⟨0, 1, ⟨#[107]⟩, ⟨#[]⟩, ⟨#[118]⟩, 0, ⟨2, 0, 1⟩, []⟩, .slice none 0 0), .slice none 0 0, .slice none 0 0, .slice none 0 0, ⟨0, 0, 0⟩, ⟨0, 0, 0⟩, false, 0, .slice none 0 0, .slice none 0 0, 0, 0, ⟨#[]⟩, ⟨#[]⟩, .slice none 0 0, .slice none 0 0⟩
theorem exE_line : lineF exE [] [] = ⟨#[97, 99, 99, 101, 112, 116, 32, 48, 32, 49, 32, 112, 117, 116, 32, 107, 32, 50, 46, 48, 46, 49, 32, 34, 118, 34]⟩ := by decide +kernel

set_option maxRecDepth 100000 in
set_option maxHeartbeats 2000000 in
theorem alive30_any (w : World) (hT : Tabs w) : Calls Tryz.prog 11 #[] w fun e w' => e = .returned (.bool true) ∧ Below w.heap.size w w' := by
  obtain ⟨L, hL⟩ : ∃ L : List Value, L = enE exE := ⟨_, rfl⟩
  have hLn : L.length = 33 := by rw [hL]; rfl
  have hL1 : L.all (·.oneCell') = true := by rw [hL]; rfl
  have hV : Value.agg ⟨L⟩ = vE exE := by rw [hL]; rfl
  obtain ⟨W0, hW0⟩ : ∃ W0, W0 = (w.alloc (.cells #[.int .i64 0, .int .i64 0, .int .i64 0, .int .i64 0, .int .i64 0, .int .i64 0, .string ⟨#[]⟩, .string ⟨#[]⟩, .string ⟨#[]⟩, .int .i64 0, .int .i64 0, .int .i64 0, .int .i64 0, .slice none 0 0, .slice none 0 0, .slice none 0 0, .slice none 0 0, .int .i64 0, .int .i64 0, .int .i64 0, .int .i64 0, .int .i64 0, .int .i64 0, .bool false, .int .i64 0, .slice none 0 0, .slice none 0 0, .int .i64 0, .int .i64 0, .string ⟨#[]⟩, .string ⟨#[]⟩, .slice none 0 0, .slice none 0 0] 39)).setRow w.heap.size ⟨L⟩ := ⟨_, rfl⟩
  have hz := VarAt.new w 39 [.int .i64 0, .int .i64 0, .int .i64 0, .int .i64 0, .int .i64 0, .int .i64 0, .string ⟨#[]⟩, .string ⟨#[]⟩, .string ⟨#[]⟩, .int .i64 0, .int .i64 0, .int .i64 0, .int .i64 0, .slice none 0 0, .slice none 0 0, .slice none 0 0, .slice none 0 0, .int .i64 0, .int .i64 0, .int .i64 0, .int .i64 0, .int .i64 0, .int .i64 0, .bool false, .int .i64 0, .slice none 0 0, .slice none 0 0, .int .i64 0, .int .i64 0, .string ⟨#[]⟩, .string ⟨#[]⟩, .slice none 0 0, .slice none 0 0]
  have hp : VarAt W0 w.heap.size 39 L := by rw [hW0]; exact hz.row L
  have hb0 : Below w.heap.size w W0 := by rw [hW0]; exact setRow_below ((Below.refl _ w).alloc (Nat.le_refl _) _) _ (Nat.le_refl _) _
  have HST := Lib.hid (show (Instr.storeAt 39 (.pointer (some ⟨w.heap.size, 0, none⟩)) (.agg ⟨L⟩)).run Tryz.prog (w.alloc (.cells #[.int .i64 0, .int .i64 0, .int .i64 0, .int .i64 0, .int .i64 0, .int .i64 0, .string ⟨#[]⟩, .string ⟨#[]⟩, .string ⟨#[]⟩, .int .i64 0, .int .i64 0, .int .i64 0, .int .i64 0, .slice none 0 0, .slice none 0 0, .slice none 0 0, .slice none 0 0, .int .i64 0, .int .i64 0, .int .i64 0, .int .i64 0, .int .i64 0, .int .i64 0, .bool false, .int .i64 0, .slice none 0 0, .slice none 0 0, .int .i64 0, .int .i64 0, .string ⟨#[]⟩, .string ⟨#[]⟩, .slice none 0 0, .slice none 0 0] 39)) = .ok () W0 by rw [hW0]; exact hz.storeAll 39 33 L hLn rfl size_Ev hL1)
  have HLD := Lib.hid (hp.loadAll 39 33 hLn _ Tryz.underlying39 rfl size_Ev)
  have hl := line_any exE [] [] W0 (hT.below hb0) ⟨by decide, by decide, by decide, by decide⟩ (Lst.nil _) (Lst.nil _) (by decide) (by decide) (by simp)
  rw [exE_line, ← hV] at hl
  have HLI := Lib.hid hl
  have HB0 := Lib.hid hb0
  have HL := Lib.hid hL
  clear hL hLn hL1 hV hW0 hz hp hb0 hT hl
  go_enter Tryz.func11, Tryz.ntmps11
  go_wp2_with (first | (refine wpList_store_run rfl 39 _ _ rfl (.pointer (some ⟨w.heap.size, 0, none⟩)) (.agg ⟨L⟩) rfl (by rw [HL.out]; kernel_rfl) HST.out ?_) | (refine wpList_load_run rfl 39 _ rfl (.pointer (some ⟨w.heap.size, 0, none⟩)) (.agg ⟨L⟩) rfl HLD.out ?_))
  refine HLI.out.mono ?_
  rintro e w1 ⟨rfl, hb1⟩
  have HB1 := Lib.hid (below_then HB0.out (Nat.le_refl _) hb1)
  clear hb1
  go_wp2_with fail
  go_ret
  exact ⟨rfl, HB1.out⟩
end Go.Proofs.YtljlbkichcjlfaaGreatDoor.Trc
