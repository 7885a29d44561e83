/- net.copied, and net.own at what is written and at what is answered: in memory of its own (layer 22). -/
import Derived.Test.YtemckpmedjennaaGreatDoorConKnown
import Derived.Test.YtemckpmedjennaaGreatDoorNetMsg
set_option linter.unusedSimpArgs false
set_option linter.unusedVariables false
namespace Go.Proofs.YtemckpmedjennaaGreatDoor.NetG
open Go.RowKit Go.Proofs.YtemckpmedjennaaGreatDoor.Mut
set_option linter.unusedSectionVars false
variable [Inhabited Lim]

def conZ : Con := ⟨[], [], []⟩
theorem okcZ : Okc conZ 0 := ⟨fun m hm => (by cases hm), Nat.le_refl _⟩
theorem repsZ : Reps (fun m => m ∈ conZ.all) conZ := Reps.none.same (fun m => by unfold conZ Con.all; simp)
/-- A content in memory made since base. -/
def CpC (base : Nat) (c : Con) (w : World) (a b d : Value) : Prop := Lies w a b d c ∧ Fresh base w a b d
theorem CpC.below {base : Nat} {c : Con} {w w' : World} {a b d : Value} (h : CpC base c w a b d) (hb : RowKit.Below w.heap.size w w') : CpC base c w' a b d := ⟨h.1.below hb, h.2.below hb⟩
/-- It stays where all but messages and nets does. -/
theorem CpC.keep {base : Nat} {c : Con} {w w' : World} {a b d : Value} (h : CpC base c w a b d) (hk : KeepR w w') : CpC base c w' a b d := by
  obtain ⟨⟨⟨A, eA, hA⟩, ⟨B, eB, hB⟩, ⟨D, eD, hD⟩⟩, ⟨⟨A', hA'⟩, ⟨B', hB'⟩, ⟨D', hD'⟩⟩⟩ := h
  have key : ∀ {v : Value} {R R' : List Ro}, MRow w v R → Copied w v R' base → Copied w' v R base := fun {v R R'} h k => by
    have h1 := copied_over h k
    exact ⟨hk.own h1.row (by decide) (by decide), fun x hx => hk.own (h1.over x hx) (by decide) (by decide)⟩
  have kA := key hA hA'
  have kB := key hB hB'
  have kD := key hD hD'
  exact ⟨⟨⟨A, eA, kA.mrow⟩, ⟨B, eB, kB.mrow⟩, ⟨D, eD, kD.mrow⟩⟩, ⟨⟨A, kA⟩, ⟨B, kB⟩, ⟨D, kD⟩⟩⟩

/-- A content comes back, in memory of its own. -/
def RetCp (c : Con) (w : World) (e : Ending) (w' : World) : Prop := ∃ a b d, e = .returned (.agg #[a, b, d]) ∧ CpC w.heap.size c w' a b d ∧ RowKit.Below w.heap.size w w'
theorem c_joinZ {c : Con} {v : Value} {n : Nat} {w : World} (hT : Tabs w) (hv : IsC c v w) (h : Mut.Good c n) (hn : n ≤ 80000) : Calls Tryz.prog 77 #[.agg #[.slice none 0 0, .slice none 0 0, .slice none 0 0], v] w (RetCp c w) := by
  obtain ⟨a', b', d', rfl, hl'⟩ := hv
  refine (join_anyF _ _ _ a' b' d' conZ c _ _ 0 n w hT (Lies.none w) repsZ okcZ hl' h.reps h.okc (by omega)).mono ?_
  rintro e w' ⟨a, b, d, c2, rfl, hl, hr, -, hb, hf⟩
  have e2 : c2 = c := by
    have h1 : c2 = Mut.leftOf c.all := leftOf_eq (hr.same fun m => by rw [h.fits]; unfold conZ Con.all; simp)
    rw [h1, h.left]
  rw [e2] at hl
  exact ⟨a, b, d, rfl, ⟨hl, hf w.heap.size ⟨Nat.le_refl _, Fresh.nil _ _⟩⟩, hb⟩

set_option maxHeartbeats 4000000 in
set_option maxRecDepth 100000 in
theorem copied_any {c : Con} {v : Value} {n : Nat} {w : World} (hT : Tabs w) (hv : IsC c v w) (h : Mut.Good c n) (hn : n ≤ 80000) : Calls Tryz.prog 68 #[v] w (RetCp c w) := by
  obtain ⟨o1, n1, k1, o2, n2, k2, o3, n3, k3, rfl, hlc⟩ := hv.form
  obtain ⟨W, hW⟩ : ∃ W, W = (w.alloc (.cells #[.slice o1 n1 k1, .slice o2 n2 k2, .slice o3 n3 k3] 47)).alloc (.cells #[.slice none 0 0, .slice none 0 0, .slice none 0 0] 47) := ⟨_, rfl⟩
  have hbW : RowKit.Below w.heap.size w W := by rw [hW]; exact ((Below.refl _ _).alloc (Nat.le_refl _) _).alloc (by simp) _
  have hP : C3 W w.heap.size (.slice o1 n1 k1) (.slice o2 n2 k2) (.slice o3 n3 k3) := by
    rw [hW]; exact (C3.new w _ _ _).below ((Below.refl _ _).alloc (Nat.le_refl _) _)
  have hZ : C3 W (w.heap.size + 1) (.slice none 0 0) (.slice none 0 0) (.slice none 0 0) := by
    rw [hW]
    have h := C3.new (w.alloc (.cells #[.slice o1 n1 k1, .slice o2 n2 k2, .slice o3 n3 k3] 47)) (.slice none 0 0) (.slice none 0 0) (.slice none 0 0)
    rwa [World.size_alloc] at h
  have HJ := Lib.hid (c_joinZ (hT.below hbW) (hlc.below hbW).is h hn)
  have HZ := Lib.hid hZ
  have HBW := Lib.hid hbW
  have HW := Lib.hid hW
  have hsz := hbW.size
  obtain ⟨-, s0, s1, s2, -, -, -⟩ := hP
  clear hT hv h hn hlc hW hbW hZ
  go_enter Tryz.func68, Tryz.ntmps68
  go_upto_region 1 with fail
  rw [← HW.out]
  go_wp2_with fail
  refine HJ.out.mono ?_
  rintro e w1 ⟨a, b, d, rfl, hc, hb1⟩
  obtain ⟨p1, x1, y1, ea⟩ := hc.1.cells.slice
  obtain ⟨p2, x2, y2, eb⟩ := hc.1.wipes.slice
  obtain ⟨p3, x3, y3, ed⟩ := hc.1.sibs.slice
  subst ea eb ed
  have hz1 := HZ.out.below hb1
  have HE := Lib.hid (show RetCp c w (.returned (.agg #[.slice p1 x1 y1, .slice p2 x2 y2, .slice p3 x3 y3])) (((w1.setCell ⟨w.heap.size + 1, 0, none⟩ (.slice p1 x1 y1)).setCell ⟨w.heap.size + 1, 1, none⟩ (.slice p2 x2 y2)).setCell ⟨w.heap.size + 1, 2, none⟩ (.slice p3 x3 y3)) from
    ⟨_, _, _, rfl, ⟨hc.1.plain3 (plain3 hz1 _ _ _), Fresh.put ⟨hc.2.1.imp fun _ h => h.base hsz, hc.2.2.1.imp fun _ h => h.base hsz, hc.2.2.2.imp fun _ h => h.base hsz⟩ hz1⟩, c3_put_below (below_then HBW.out (Nat.le_refl _) hb1) (by omega) _ _ _⟩)
  obtain ⟨-, e0, e1, e2, -⟩ := c3_put hz1 (.slice p1 x1 y1) (.slice p2 x2 y2) (.slice p3 x3 y3)
  obtain ⟨-, z0, z1, z2, f0, f1, f2⟩ := hz1
  clear hc hb1 s0 s1 s2
  go_wp2_with fail
  exact bodyPost_ret (v := .agg #[.slice p1 x1 y1, .slice p2 x2 y2, .slice p3 x3 y3]) (by simp [results, Tryz.f68, go_sem, e0, e1, e2]) rfl HE.out
end Go.Proofs.YtemckpmedjennaaGreatDoor.NetG
