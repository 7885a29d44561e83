/- The walks of slices.Clone at stamps and at mutations. -/
import Derived.Test.YtgcfhlleaekgfaaGreatDoorMutSmall
namespace Go.Proofs.YtgcfhlleaekgfaaGreatDoor.Mut
open Go.RowKit Go.Sort Go.Proofs.YtgcfhlleaekgfaaGreatDoor.Ord

/-- A row comes back, which the call has made. -/
def OwnP {α : Type} (e : TypeId) (sz : Nat) (en : α → List Value) (w : World) (l : List α) (r : Ending) (w' : World) : Prop := ∃ v, r = .returned v ∧ w'.ownsRow w.heap.size e sz v l.length (l.flatMap en) ∧ Below w.heap.size w w'
theorem info_S : (Tryz.prog.info? 26).map (fun i => (i.zero, i.size, i.bytes)) = some (some (.agg #[.int .i64 0, .int .i64 0, .int .i64 0]), 3, 24) := by kernel_rfl
def zeroM : Value := .agg #[.int .i64 0, .int .i64 0, .string ByteArray.empty, .string ByteArray.empty, .string ByteArray.empty, .int .i64 0, .int .i64 0, .int .i64 0, .int .i64 0, .slice none 0 0]
theorem info_M : (Tryz.prog.info? 29).map (fun i => (i.zero, i.size, i.bytes)) = some (some zeroM, 10, 120) := by kernel_rfl
theorem flatS_one (l : List Stp) : ∀ u ∈ l.flatMap enS, u.oneCell' = true := by
  intro u hu
  obtain ⟨x, _, h⟩ := List.mem_flatMap.1 hu
  simp at h
  rcases h with rfl | rfl | rfl <;> rfl
theorem flatM_one {l : List Ro} (hl : ∀ x ∈ l, ∃ ao n cap, x.2 = .slice ao n cap) : ∀ u ∈ l.flatMap enM, u.oneCell' = true := by
  intro u hu
  obtain ⟨x, hx, h⟩ := List.mem_flatMap.1 hu
  obtain ⟨ao, n, cap, e⟩ := hl x hx
  unfold enM at h
  simp at h
  rcases h with rfl | rfl | rfl | rfl | rfl | rfl | rfl | rfl | rfl | rfl <;> first | rfl | (rw [e]; rfl)
theorem MRow.forms {w : World} {v : Value} {R : List Ro} (h : MRow w v R) : ∀ x ∈ R, ∃ ao n cap, x.2 = .slice ao n cap := fun x hx => by
  obtain ⟨ao, cap, e, -, -⟩ := (h.over x hx).form
  exact ⟨ao, _, cap, e⟩

set_option maxHeartbeats 2000000 in
set_option maxRecDepth 100000 in
theorem cloneS_any (ao : Option Addr) (ac : Nat) (l : List Stp) (w : World) (ha : Lst 3 enS w (.slice ao l.length ac) l) (h1 : ∀ u ∈ l.flatMap enS, u.oneCell' = true) (hl : l.length ≤ 1000000) :
    Calls Tryz.prog 91 #[.slice ao l.length ac] w (OwnP 26 3 enS w l) := by
  have q22 : ∀ (w : World) (a : Option Addr) (n c n' c' : Nat), (binOp .eql 27 (.slice a n c) (.slice none n' c')).run Tryz.prog w = .ok (.bool a.isNone) w := fun w a n c n' c' => Lib.run_eql_slice_nil w _ _ a n c n' c' Tryz.underlying27
  obtain ⟨i0, hi, hz0, hz1, hz2⟩ := info_parts info_S
  have HI := Lib.hid hi
  have HZ0 := Lib.hid hz0
  have HZ1 := Lib.hid hz1
  have HZ2 := Lib.hid hz2
  have H1 := Lib.hid h1
  clear hi hz0 hz1 hz2 h1
  cases ao with
  | none =>
    have h0 : l = [] := by
      cases l with
      | nil => rfl
      | cons x l => obtain ⟨b, off, e, _⟩ := Lst.get ha (show 0 < (x :: l).length by simp); cases e
    subst h0
    clear ha
    go_enter Tryz.func91, Tryz.ntmps91
    go_wp2
    go_ret
    exact ⟨_, rfl, World.ownsRow_nil _ _ _ _, Below.refl _ _⟩
  | some a =>
    have HN := Lib.hid (Lst.news enS_len (by decide) (ha.alloc (.cells #[] 26)))
    clear ha
    go_enter Tryz.func91, Tryz.ntmps91
    go_wp2_with (at_builtin; refine wpList_append_own _ rfl _ _ 27 rfl w.heap.size 26 i0 (.agg #[.int .i64 0, .int .i64 0, .int .i64 0]) 3 24 Tryz.underlying27 HI.out HZ0.out HZ1.out HZ2.out rfl (by decide) _ _ _ rfl (World.ownsRow_made w #[] 0 (Nat.le_refl _) (Nat.zero_le _) (by simp)) a l.length ac (l.flatMap enS) rfl ?qc1 ?qc2 ?qc3 ?qc4 ?qc5 ?qc6 ?_)
    case qc1 => exact flatMap_len enS_len l
    case qc2 => exact HN.out
    case qc3 => exact H1.out
    case qc4 => unfold maxLen; omega
    case qc5 => omega
    case qc6 => simp
    intro v' w1 hown hgrow _
    have HE := Lib.hid (show OwnP 26 3 enS w l (.returned v') w1 from ⟨v', rfl, by simpa using hown, ((Below.refl _ w).alloc (Nat.le_refl _) _).grown hgrow (by simp) (by intro k hk; simp [Value.ownBlock] at hk; omega)⟩)
    clear hown hgrow
    go_wp2
    go_ret
    exact HE.out

set_option maxHeartbeats 2000000 in
set_option maxRecDepth 100000 in
theorem cloneM_any (ao : Option Addr) (ac : Nat) (l : List Ro) (w : World) (ha : Lst 10 enM w (.slice ao l.length ac) l) (h1 : ∀ u ∈ l.flatMap enM, u.oneCell' = true) (hl : l.length ≤ 1000000) :
    Calls Tryz.prog 90 #[.slice ao l.length ac] w (OwnP 29 10 enM w l) := by
  have q22 : ∀ (w : World) (a : Option Addr) (n c n' c' : Nat), (binOp .eql 22 (.slice a n c) (.slice none n' c')).run Tryz.prog w = .ok (.bool a.isNone) w := fun w a n c n' c' => Lib.run_eql_slice_nil w _ _ a n c n' c' Tryz.underlying22
  obtain ⟨i0, hi, hz0, hz1, hz2⟩ := info_parts info_M
  have HI := Lib.hid hi
  have HZ0 := Lib.hid hz0
  have HZ1 := Lib.hid hz1
  have HZ2 := Lib.hid hz2
  have H1 := Lib.hid h1
  clear hi hz0 hz1 hz2 h1
  cases ao with
  | none =>
    have h0 : l = [] := by
      cases l with
      | nil => rfl
      | cons x l => obtain ⟨b, off, e, _⟩ := Lst.get ha (show 0 < (x :: l).length by simp); cases e
    subst h0
    clear ha
    go_enter Tryz.func90, Tryz.ntmps90
    go_wp2
    go_ret
    exact ⟨_, rfl, World.ownsRow_nil _ _ _ _, Below.refl _ _⟩
  | some a =>
    have HN := Lib.hid (Lst.news enM_len (by decide) (ha.alloc (.cells #[] 29)))
    clear ha
    go_enter Tryz.func90, Tryz.ntmps90
    go_wp2_with (at_builtin; refine wpList_append_own _ rfl _ _ 22 rfl w.heap.size 29 i0 zeroM 10 120 Tryz.underlying22 HI.out HZ0.out HZ1.out HZ2.out rfl (by decide) _ _ _ rfl (World.ownsRow_made w #[] 0 (Nat.le_refl _) (Nat.zero_le _) (by simp)) a l.length ac (l.flatMap enM) rfl ?qc1 ?qc2 ?qc3 ?qc4 ?qc5 ?qc6 ?_)
    case qc1 => exact flatMap_len enM_len l
    case qc2 => exact HN.out
    case qc3 => exact H1.out
    case qc4 => unfold maxLen; omega
    case qc5 => omega
    case qc6 => simp
    intro v' w1 hown hgrow _
    have HE := Lib.hid (show OwnP 29 10 enM w l (.returned v') w1 from ⟨v', rfl, by simpa using hown, ((Below.refl _ w).alloc (Nat.le_refl _) _).grown hgrow (by simp) (by intro k hk; simp [Value.ownBlock] at hk; omega)⟩)
    clear hown hgrow
    go_wp2
    go_ret
    exact HE.out
end Go.Proofs.YtgcfhlleaekgfaaGreatDoor.Mut
