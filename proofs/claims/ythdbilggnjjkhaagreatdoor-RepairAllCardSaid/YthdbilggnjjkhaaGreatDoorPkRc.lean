/- A repair's session in memory: what stays; New, Phase, Done (layer 26). · For whom a repair waits, as it begins (layer 26): Waits, Nodes; covers. · A repair begins: repair.New (layer 26). -/
import Derived.Test.YthdbilggnjjkhaaGreatDoorTrcVar
import Derived.Test.YthdbilggnjjkhaaGreatDoorRepairSort
import Derived.Test.YthdbilggnjjkhaaGreatDoorPkRa
import Derived.Test.YthdbilggnjjkhaaGreatDoorConMore
import Derived.Test.YthdbilggnjjkhaaGreatDoorPkRb
import Derived.BigQuiet
import Derived.Laws.AppendOwn
import Derived.Lib.SliceRun
set_option linter.unusedSimpArgs false
set_option linter.unusedVariables false
namespace Go.Proofs.YthdbilggnjjkhaaGreatDoor.Rpr
open Go.RowKit Go.Maps Go.Sort Go.Proofs.YthdbilggnjjkhaaGreatDoor.Ints Go.Proofs.YthdbilggnjjkhaaGreatDoor.Mut Go.Proofs.YthdbilggnjjkhaaGreatDoor.Trc
set_option linter.unusedSectionVars false
variable [Inhabited Lim]

/-! ## Contents in memory of their own, and what stays -/
def OwnC (w : World) (x : Rp) : Prop := Lies w x.a x.b x.d x.c ∧ Mut.Fresh 0 w x.a x.b x.d
theorem OwnC.below {w w' : World} {x : Rp} (h : OwnC w x) (hb : RowKit.Below w.heap.size w w') : OwnC w' x := ⟨h.1.below hb, h.2.below hb⟩
theorem OwnC.keep {t : TypeId} {w w' : World} {x : Rp} (h : OwnC w x) (hk : KeepT t w w') (h1 : 81 ≠ t) (h2 : 23 ≠ t) : OwnC w' x := by
  obtain ⟨⟨⟨A, eA, hA⟩, ⟨B, eB, hB⟩, ⟨D, eD, hD⟩⟩, ⟨⟨A', hA'⟩, ⟨B', hB'⟩, ⟨D', hD'⟩⟩⟩ := h
  have key : ∀ {v : Value} {R R' : List Ro}, MRow w v R → Copied w v R' 0 → Copied w' v R 0 := fun {v R R'} h k => by
    have h3 := copied_over h k
    exact ⟨hk.own h3.row h1, fun x hx => hk.own (h3.over x hx) h2⟩
  have kA := key hA hA'
  have kB := key hB hB'
  have kD := key hD hD'
  exact ⟨⟨⟨A, eA, kA.mrow⟩, ⟨B, eB, kB.mrow⟩, ⟨D, eD, kD.mrow⟩⟩, ⟨A, kA⟩, ⟨B, kB⟩, ⟨D, kD⟩⟩
theorem row_ne {w : World} {base sz n k : Nat} {e : TypeId} {v : Value} {xs : List Value} {o : Obj} (h : w.ownsRow base e sz v n xs) (hk : w.heap[k]? = some o) (ho : ∀ cur, o ≠ .cells cur e (0, 0)) : v.ownBlock ≠ some k := by
  intro hv
  rcases h.2 with ⟨rfl, _⟩ | ⟨g, cap, cur, rfl, _, hg, _⟩
  · cases hv
  · simp [Value.ownBlock] at hv
    subst hv
    rw [hk] at hg
    exact ho _ (Option.some.inj hg)
theorem row_kept {w w' : World} {base sz n : Nat} {e : TypeId} {v : Value} {xs : List Value} {row : Option Nat} (h : w.ownsRow base e sz v n xs) (hg : w.grownBy w' row) (hne : ∀ r, row = some r → v.ownBlock ≠ some r) : w'.ownsRow base e sz v n xs := by
  refine h.kept hg ?_
  cases hr : row with
  | none => cases hv : v.ownBlock <;> simp
  | some r => exact Or.inr (hne r hr)
/-- A map's turn, a row's growth: what is of another type stays. -/
theorem keepT_map {t : TypeId} {w w' : World} {b : Nat} {es : Array MapEntry} {c : Nat} (hg : w.grownBy w' (some b)) (hb : w.heap[b]? = some (.map es c)) : KeepT t w w' := ⟨hg.size, fun i cur e fr h1 _ => (hg.block i (Array.getElem?_eq_some_iff.1 h1).1 (fun e' => by injection e' with e'; subst e'; rw [hb] at h1; cases h1)).trans h1⟩
theorem keepT_row {w w' : World} {base sz n : Nat} {e : TypeId} {v : Value} {xs : List Value} (h : w.ownsRow base e sz v n xs) (hg : w.grownBy w' v.ownBlock) : KeepT e w w' := ⟨hg.size, fun i cur t fr h1 h2 => (hg.block i (Array.getElem?_eq_some_iff.1 h1).1 (fun e' => by
  refine row_ne h h1 (fun c e2 => ?_) e'.symm
  cases e2
  exact h2 rfl)).trans h1⟩
theorem grown_of {w w' : World} {r : Option Nat} (hb : RowKit.Below w.heap.size w w') : w.grownBy w' r := ⟨hb.os, hb.tape, hb.output, hb.size, fun i hi _ => hb.block i hi⟩

/-! ## A session -/
structure Sx where
  se : Stp
  nv : Value
  bg : Int
  ph : Int
  mr : Nat
  md : Nat
  a : Value
  b : Value
  d : Value
  bs : Stp
  y : Int
def Sx.cs (s : Sx) : List Value := [.int .i64 s.se.p, .int .i64 s.se.l, .int .i64 s.se.w, s.nv, .int .i64 s.bg, .int .i64 s.ph, .map (some s.mr), .map (some s.md), s.a, s.b, s.d, .int .i64 s.bs.p, .int .i64 s.bs.l, .int .i64 s.bs.w, .int .i64 s.y]
def Sx.at (s : Sx) (p : Int) : Sx := { s with ph := p }
abbrev SV (w : World) (k : Nat) (s : Sx) : Prop := VarAt w k 62 s.cs
structure SOk (w : World) (k : Nat) (s : Sx) (N : List Int) (E : List (Int × Rp)) (K : List Int) (B : Nat) : Prop where
  var : SV w k s
  nodes : OwnI w B s.nv N
  rmap : RMap w s.mr E
  dmap : DMap w s.md K
  ne : s.mr ≠ s.md
  kb : B ≤ k ∧ B ≤ s.mr ∧ B ≤ s.md
  cons : ∀ p ∈ E, OwnC w p.2 ∧ Mut.Good p.2.c 15
theorem RMap.obj {w : World} {b : Nat} {E : List (Int × Rp)} (h : RMap w b E) : ∃ es c, w.heap[b]? = some (.map es c) := by
  obtain ⟨D, ⟨es, clock, hb, _⟩, _⟩ := h
  exact ⟨es, clock, hb⟩
theorem DMap.obj {w : World} {b : Nat} {K : List Int} (h : DMap w b K) : ∃ es c, w.heap[b]? = some (.map es c) := by
  obtain ⟨D, ⟨es, clock, hb, _⟩, _⟩ := h
  exact ⟨es, clock, hb⟩
section
variable {w w' : World} {k B : Nat} {s : Sx} {N K : List Int} {E : List (Int × Rp)}
theorem SOk.kr (h : SOk w k s N E K B) : k ≠ s.mr := fun e => by
  obtain ⟨es, c, hb⟩ := h.rmap.obj
  have := h.var
  unfold SV VarAt at this
  rw [e, hb] at this
  cases this
theorem SOk.kd (h : SOk w k s N E K B) : k ≠ s.md := fun e => by
  obtain ⟨es, c, hb⟩ := h.dmap.obj
  have := h.var
  unfold SV VarAt at this
  rw [e, hb] at this
  cases this
theorem SOk.below (h : SOk w k s N E K B) (hb : RowKit.Below w.heap.size w w') : SOk w' k s N E K B :=
  ⟨h.var.below hb, row_below h.nodes hb, h.rmap.kept (row := none) (grown_of hb) (by simp), h.dmap.kept (row := none) (grown_of hb) (by simp), h.ne, h.kb, fun p hp => ⟨(h.cons p hp).1.below hb, (h.cons p hp).2⟩⟩
/-- A row of ints of another's own grows. -/
theorem SOk.ints (h : SOk w k s N E K B) {b2 n : Nat} {v : Value} {xs : List Value} (hg : w.grownBy w' v.ownBlock) (hv : w.ownsRow b2 3 1 v n xs) (hne : ∀ g, s.nv.ownBlock = some g → v.ownBlock ≠ some g) : SOk w' k s N E K B := by
  have hk := keepT_row hv hg
  have h2 := h.var
  obtain ⟨es, c, hb⟩ := h.rmap.obj
  obtain ⟨es', c', hb'⟩ := h.dmap.obj
  refine ⟨?_, row_kept h.nodes hg (fun r hr e => hne r e hr), h.rmap.kept hg (fun e => row_ne hv hb (fun cur e2 => by cases e2) e.symm), h.dmap.kept hg (fun e => row_ne hv hb' (fun cur e2 => by cases e2) e.symm), h.ne, h.kb, fun p hp => ⟨(h.cons p hp).1.keep hk (by decide) (by decide), (h.cons p hp).2⟩⟩
  exact hk.same k _ _ _ h2 (by decide)
/-- A cell of it turns. -/
theorem SOk.set (h : SOk w k s N E K B) (i : Nat) (u : Value) (s' : Sx) (hs : s.cs.set i u = s'.cs) (h1 : s'.nv = s.nv) (h2 : s'.mr = s.mr) (h3 : s'.md = s.md) : SOk (w.setCell ⟨k, i, none⟩ u) k s' N E K B := by
  have hk := KeepT.set h.var i u
  have hg : w.grownBy (w.setCell ⟨k, i, none⟩ u) (some k) := grown_setCell (World.grownBy.refl _ _) (Or.inl rfl) _
  refine ⟨h.var.setK i u hs, ?_, ?_, ?_, by rw [h2, h3]; exact h.ne, by rw [h2, h3]; exact h.kb, fun p hp => ⟨(h.cons p hp).1.keep hk (by decide) (by decide), (h.cons p hp).2⟩⟩
  · rw [h1]; exact hk.own h.nodes (by decide)
  · rw [h2]; exact h.rmap.kept hg (fun e => h.kr (by injection e with e; exact e.symm))
  · rw [h3]; exact h.dmap.kept hg (fun e => h.kd (by injection e with e; exact e.symm))
/-- Who has installed is written down. -/
theorem SOk.mark (h : SOk w k s N E K B) {K' : List Int} (hg : w.grownBy w' (some s.md)) (hm : DMap w' s.md K') : SOk w' k s N E K' B := by
  obtain ⟨es, c, hb⟩ := h.dmap.obj
  have hk : ∀ t, KeepT t w w' := fun t => keepT_map hg hb
  exact ⟨(hk 3).same k _ _ _ h.var (by decide), (hk 81).own h.nodes (by decide), h.rmap.kept hg (fun e => h.ne (by injection e)), hm, h.ne, h.kb, fun p hp => ⟨(h.cons p hp).1.keep (hk 3) (by decide) (by decide), (h.cons p hp).2⟩⟩
/-- A report is written down. -/
theorem SOk.told (h : SOk w k s N E K B) {n : Int} {x : Rp} (hg : w.grownBy w' (some s.mr)) (hm : RMap w' s.mr ((n, x) :: E)) (hx : OwnC w x) (hG : Mut.Good x.c 15) : SOk w' k s N ((n, x) :: E) K B := by
  obtain ⟨es, c, hb⟩ := h.rmap.obj
  have hk : ∀ t, KeepT t w w' := fun t => keepT_map hg hb
  refine ⟨(hk 3).same k _ _ _ h.var (by decide), (hk 81).own h.nodes (by decide), hm, h.dmap.kept hg (fun e => h.ne (by injection e with e; exact e.symm)), h.ne, h.kb, fun p hp => ?_⟩
  rcases List.mem_cons.1 hp with rfl | hp
  · exact ⟨hx.keep (hk 3) (by decide) (by decide), hG⟩
  · exact ⟨(h.cons p hp).1.keep (hk 3) (by decide) (by decide), (h.cons p hp).2⟩
end

/-! ## Phase, Done -/
theorem phase_any (k : Nat) (s : Sx) (w : World) (h : SV w k s) :
    Calls Tryz.prog 8 #[.pointer (some ⟨k, 0, none⟩)] w fun e w' => e = .returned (.int .i64 s.ph) ∧ w = w' := by
  have c5 : w.cell? ⟨k, 5, none⟩ = some (.int .i64 s.ph) := h.get rfl
  clear h
  go_enter Tryz.func8, Tryz.ntmps8
  go_wp2
  go_ret
  exact ⟨rfl, rfl⟩
theorem phase_lit (p : Int) (k : Nat) (s : Sx) (w : World) (hp : s.ph = p) (h : SV w k s) :
    Calls Tryz.prog 8 #[.pointer (some ⟨k, 0, none⟩)] w fun e w' => e = .returned (.int .i64 p) ∧ w = w' := by
  rw [← hp]; exact phase_any k s w h

/-- What Done leaves. -/
def DoneP (k : Nat) (s : Sx) (N : List Int) (E : List (Int × Rp)) (S : Sess) (B : Nat) (w : World) (e : Ending) (w' : World) : Prop :=
  e = .returned (.bool (decide (s.ph = 1) && decide (S.phase = 2))) ∧ SOk w' k (s.at S.phase) N E S.kd B ∧ KeepT 62 w w' ∧ RowKit.Below B w w'
set_option maxHeartbeats 2000000 in
set_option maxRecDepth 100000 in
theorem done_any (k : Nat) (s : Sx) (N : List Int) (E : List (Int × Rp)) (K : List Int) (B : Nat) (n : Int) (w : World) (h : SOk w k s N E K B) (hN : N.length ≤ 1000) (hK : K.length ≤ 1000) (hn : Nd n) :
    Calls Tryz.prog 9 #[.pointer (some ⟨k, 0, none⟩), .int .i64 n] w (DoneP k s N E (Sess.done ⟨N, E.map (·.1), K, s.ph⟩ n) B w) := by
  obtain ⟨S, hS⟩ : ∃ S, S = Sess.done ⟨N, E.map (·.1), K, s.ph⟩ n := ⟨_, rfl⟩
  rw [← hS]
  obtain ⟨no, nc, hnv⟩ := row_form h.nodes
  have hr : IRow w (.slice no N.length nc) N := by rw [← hnv]; exact Lst.owned enI_len (by decide) rfl h.nodes
  have HS := Lib.hid hS
  have HO := Lib.hid h
  have HN := Lib.hid hnv
  have HC := Lib.hid (fun (W : World) (hb : W = w) (q : Bool) (hq : hasI N n = q) => contains_lit q no nc N n w hq hr (by omega))
  have c5 : w.cell? ⟨k, 5, none⟩ = some (.int .i64 s.ph) := h.var.get rfl
  have c3 : w.cell? ⟨k, 3, none⟩ = some (.slice no N.length nc) := by rw [← hnv]; exact h.var.get rfl
  have c7 : w.cell? ⟨k, 7, none⟩ = some (.map (some s.md)) := h.var.get rfl
  clear h hnv hr hS
  cases hq : (s.ph != 1)
  · have hp : s.ph = 1 := by simpa using hq
    cases hh : hasI N n
    · have HQ := Lib.hid hp
      have HH := Lib.hid hh
      clear hp
      go_enter Tryz.func9, Tryz.ntmps9
      go_wp2_with fail
      refine (HC.out w rfl false hh).mono ?_
      rintro e w1 ⟨rfl, rfl⟩
      go_wp2_with fail
      go_ret
      have e1 : S = ⟨N, E.map (·.1), K, s.ph⟩ := by
        rw [HS.out]; unfold Sess.done
        rw [if_neg (fun hc => by have h1 := (hasI_iff N n).2 hc.2; rw [HH.out] at h1; cases h1)]
      rw [e1]
      refine ⟨?_, HO.out, KeepT.refl _ _, RowKit.Below.refl _ _⟩
      show _ = Ending.returned (.bool (decide (s.ph = 1) && decide (s.ph = 2)))
      rw [HQ.out]; rfl
    · obtain ⟨D, hD, hi⟩ := HO.out.dmap
      have HD := Lib.hid hD
      have HI := Lib.hid hi
      have HM := Lib.hid ((hasI_iff N n).1 hh)
      have HQ := Lib.hid hp
      have hkey := key hn.1 hn.2
      have hval : plainElem (H := Unit) Tryz.prog 3 (.int .i64 1) = some (.lit (.int .i64 1), []) := plainElem_int Tryz.underlying3 (wf64 (by omega) (by omega))
      clear hD hi hp
      go_enter Tryz.func9, Tryz.ntmps9
      go_wp2_with fail
      refine (HC.out w rfl true hh).mono ?_
      rintro e w1 ⟨rfl, rfl⟩
      go_wp2_with (at_mapUpdate; refine wpList_mapUpdate_own _ rfl _ _ _ 60 rfl 3 3 law Tryz.underlying60 _ s.md K.length D rfl HD.out (by unfold maxLen; omega) _ _ (.int .i64 n) rfl rfl hkey _ [] hval ?_)
      intro w3 hown3 hgrow3
      have hm := DMap.put HI.out hown3
      have H3 := Lib.hid (HO.out.mark hgrow3 hm)
      have HB3 := Lib.hid ((RowKit.Below.refl B w).grown hgrow3 (by have := HO.out.dmap.lt; have := HO.out.kb; omega) (fun j hj => by cases hj; exact HO.out.kb.2.2))
      obtain ⟨es, c, hob⟩ := HO.out.dmap.obj
      have HK3 := Lib.hid (keepT_map (t := 62) hgrow3 hob)
      obtain ⟨K', hK'⟩ : ∃ K', K' = if n ∈ K then K else n :: K := ⟨_, rfl⟩
      rw [← hK'] at H3
      have c3 : w3.cell? ⟨k, 3, none⟩ = some (.slice no N.length nc) := by rw [← HN.out]; exact H3.out.var.get rfl
      have c7 : w3.cell? ⟨k, 7, none⟩ = some (.map (some s.md)) := H3.out.var.get rfl
      have f5 : w3.frozen? ⟨k, 5, none⟩ = false := H3.out.var.frozen 5
      have d5 : w3.cell? ⟨k, 5, none⟩ = some (.int .i64 s.ph) := H3.out.var.get rfl
      obtain ⟨D', hD', hi'⟩ := H3.out.dmap
      have hlen : ∀ q, (Builtin.len_ #[60] 3 #[.map (some s.md)]).run Tryz.prog (w3.drewN q) = .ok (.int .i64 K'.length) (w3.drewN q) := fun q => by
        have h1 := World.ownsMap.len (w := w3.drewN q) (World.ownsMap.kept (row := none) hD' (grown_of (below_drewN (Below.refl _ _) q)) (by simp)) Tryz.underlying60 3
        rwa [hi'.size] at h1
      have hkl : K'.length ≤ K.length + 1 := by rw [hK']; split <;> simp
      have HKK := Lib.hid hK'
      clear hown3 hgrow3 hm hob hD' hi' hK' hkey hval
      go_wp2_with fail
      have he : (⟨N, E.map (·.1), K', if K'.length < N.length then 1 else 2⟩ : Sess) = S := by
        have e0 : Sess.done ⟨N, E.map (·.1), K, s.ph⟩ n = ⟨N, E.map (·.1), if n ∈ K then K else n :: K, if (if n ∈ K then K else n :: K).length < N.length then 1 else 2⟩ := by
          unfold Sess.done
          exact if_pos ⟨HQ.out, HM.out⟩
        rw [HS.out, e0, HKK.out]
      cases hl : decide (K'.length < N.length)
      · have hlt : ¬ K'.length < N.length := by simpa using hl
        rw [if_neg hlt] at he
        have HE := Lib.hid he
        have hl2 : decide ((K'.length : Int) < (N.length : Int)) = false := by simp; omega
        clear he hl
        go_big_quiet (fail)
        go_wp2_with fail
        go_ret
        rw [← HE.out]
        have hd := below_drewN (Below.refl w3.heap.size w3) nq
        have h4 := H3.out.below hd
        refine ⟨?_, h4.set 5 (.int .i64 2) (s.at 2) rfl rfl rfl rfl, (HK3.out.trans (KeepT.below hd)).trans (KeepT.set h4.var 5 _), (below_drewN HB3.out nq).setCell (p := ⟨k, 5, none⟩) HO.out.kb.1 _⟩
        rw [HQ.out]; rfl
      · have hlt : K'.length < N.length := by simpa using hl
        rw [if_pos hlt] at he
        have HE := Lib.hid he
        have hl2 : decide ((K'.length : Int) < (N.length : Int)) = true := by simp; omega
        clear he hl
        go_big_quiet (fail)
        go_wp2_with fail
        go_ret
        rw [← HE.out]
        have e1 : s.at 1 = s := by unfold Sx.at; rw [← HQ.out]
        have hd := below_drewN (Below.refl w3.heap.size w3) nq
        refine ⟨?_, by show SOk _ k (s.at 1) N E K' B; rw [e1]; exact H3.out.below hd, HK3.out.trans (KeepT.below hd), below_drewN HB3.out nq⟩
        rw [HQ.out]; rfl
  · have hp : s.ph ≠ 1 := by simpa using hq
    have HQ := Lib.hid hp
    clear hp
    go_enter Tryz.func9, Tryz.ntmps9
    go_wp2_with fail
    go_ret
    have e1 : S = ⟨N, E.map (·.1), K, s.ph⟩ := by
      rw [HS.out]; unfold Sess.done
      rw [if_neg (fun hc => HQ.out hc.1)]
    rw [e1]
    refine ⟨?_, HO.out, KeepT.refl _ _, RowKit.Below.refl _ _⟩
    rw [show decide (s.ph = 1) = false from decide_eq_false HQ.out]; rfl
end Go.Proofs.YthdbilggnjjkhaaGreatDoor.Rpr

namespace Go.Proofs.YthdbilggnjjkhaaGreatDoor.Rpr
open Go.RowKit Go.Maps Go.Sort Go.Proofs.YthdbilggnjjkhaaGreatDoor.Ints Go.Proofs.YthdbilggnjjkhaaGreatDoor.Mut Go.Proofs.YthdbilggnjjkhaaGreatDoor.Trc
set_option linter.unusedSectionVars false
variable [Inhabited Lim]

theorem info_Int : (Tryz.prog.info? 3).map (fun i => (i.zero, i.size, i.bytes)) = some (some (.int .i64 0), 1, 8) := by kernel_rfl
set_option maxHeartbeats 2000000 in
set_option maxRecDepth 100000 in
theorem clone_Int (ao : Option Addr) (ac : Nat) (l : List Int) (w : World) (ha : IRow w (.slice ao l.length ac) l) (hl : l.length ≤ 17592186043904) :
    Calls Tryz.prog 67 #[.slice ao l.length ac] w fun e w' => ∃ v, e = .returned v ∧ w'.ownsRow w.heap.size 3 1 v l.length (l.flatMap enI) ∧ Below w.heap.size w w' := by
  have q22 : ∀ (w : World) (a : Option Addr) (n c : Nat), (binOp .eql 24 (.slice a n c) (.slice none 0 0)).run Tryz.prog w = .ok (.bool a.isNone) w := fun w a n c => Lib.run_eql_slice_nil w _ _ a n c 0 0 Tryz.underlying24
  cases ao with
  | none =>
    have h0 : l = [] := by
      obtain ⟨ao', cap', hv, _, _, h3⟩ := ha
      cases hv
      rcases h3 with h3 | ⟨b, off, he, _⟩
      · exact List.eq_nil_of_length_eq_zero h3
      · cases he
    subst h0
    clear ha hl
    go_enter Tryz.func67, Tryz.ntmps67
    go_wp2_with fail
    go_ret
    exact ⟨_, rfl, World.ownsRow_nil _ _ _ _, Below.refl _ _⟩
  | some a =>
    obtain ⟨i0, hi, hz0, hz1, hz2⟩ : ∃ i : TypeInfo, Tryz.prog.info? 3 = some i ∧ i.zero = some (.int .i64 0) ∧ i.size = 1 ∧ i.bytes = 8 := by
      have h := info_Int
      cases hq : Tryz.prog.info? 3 with
      | none => simp [hq] at h
      | some i => simp [hq] at h; exact ⟨i, rfl, h.1, h.2.1, h.2.2⟩
    have HI := Lib.hid (And.intro hi (And.intro hz0 (And.intro hz1 hz2)))
    obtain ⟨G, hG⟩ : ∃ G, G = l.flatMap enI := ⟨_, rfl⟩
    have hGl : G.length = l.length * 1 := by rw [hG]; exact flatMap_len enI_len l
    have hc : ∀ j u, G[j]? = some u → w.cell? (a.add j) = some u := fun j u hu => by
      have hj := (List.getElem?_eq_some_iff.1 hu).1
      rw [hGl] at hj
      have hd : j / 1 < l.length := Nat.div_lt_of_lt_mul (by omega)
      obtain ⟨b, off, e, _, h⟩ := Lst.get ha hd
      cases e
      have h2 := h (j % 1) (Nat.mod_lt _ (by decide))
      have h3 := flatMap_get enI_len l (j / 1) _ (List.getElem?_eq_getElem hd) (j % 1) (Nat.mod_lt _ (by decide))
      rw [show j / 1 * 1 + j % 1 = j by omega, ← hG, hu] at h3
      rw [Addr.add_lit, show off + j = off + j / 1 * 1 + j % 1 by omega, h2, ← h3]
    have ho : ∀ u ∈ G, u.oneCell' = true := fun u hu => by
      rw [hG] at hu
      obtain ⟨x, _, hx⟩ := List.mem_flatMap.1 hu
      simp [enI] at hx
      rcases hx with rfl <;> rfl
    have HC := Lib.hid hc
    have HO := Lib.hid ho
    have HG := Lib.hid hG
    clear ha hi hz0 hz1 hz2 hc ho hG
    go_enter Tryz.func67, Tryz.ntmps67
    go_wp2_with (at_builtin; refine wpList_append_own _ rfl _ _ 24 rfl w.heap.size 3 i0 (.int .i64 0) 1 8 Tryz.underlying24 HI.out.1 HI.out.2.1 HI.out.2.2.1 HI.out.2.2.2 rfl (by decide) _ _ _ rfl (World.ownsRow_made w #[] 0 (Nat.le_refl _) (Nat.zero_le _) rfl) a l.length ac G rfl ?qc1 ?qc2 ?qc3 ?qc4 ?qc5 ?qc6 ?_)
    all_goals first
      | (case qc1 => omega)
      | (case qc2 => exact fun j u hu => Lib.cell?_alloc_some _ (HC.out j u hu))
      | (case qc3 => exact HO.out)
      | (case qc4 => unfold maxLen; omega)
      | (case qc5 => omega)
      | (case qc6 => simp)
      | skip
    intro v' w1 hown hgrow _
    have HR := Lib.hid (show w1.ownsRow w.heap.size 3 1 v' l.length (l.flatMap enI) from by rw [← HG.out]; simpa using hown)
    have HB := Lib.hid (show Below w.heap.size w w1 from ((Below.refl _ w).alloc (Nat.le_refl _) _).grown hgrow (by simp) (by intro k hk; simp [Value.ownBlock] at hk; omega))
    clear hown hgrow
    go_wp2_with fail
    go_ret
    exact ⟨v', rfl, HR.out, HB.out⟩


/-! ## The keys of a map that holds nothing -/
theorem keysR_any (b : Nat) (W : World) : Calls Tryz.prog 37 #[.map (some b)] W fun e w' =>
    e = .returned (.func (.func 64) #[] #[.pointer (some ⟨W.heap.size, 0, none⟩)]) ∧ w' = W.alloc (.cells #[.map (some b)] 59) :=
  callsIn_wide (n := 9) |>.1 (AnyZI.keys_in keysA Fence.wide 9 trivial rfl (some b) W)
def NoneP (w : World) (e : Ending) (w' : World) : Prop := e = .returned (.slice none 0 0) ∧ Below w.heap.size w w'
theorem collect_none (b : Nat) (W : World) (h : RMap W b []) :
    Calls Tryz.prog 24 #[.func (.func 64) #[] #[.pointer (some ⟨W.heap.size, 0, none⟩)]] (W.alloc (.cells #[.map (some b)] 59)) (NoneP W) := by
  obtain ⟨D, hD, hi, -⟩ := h
  have hz : Maps.size D = 0 := hi.size
  obtain ⟨es, rfl, -⟩ := hi.tidy
  obtain rfl : es = [] := List.eq_nil_of_length_eq_zero hz
  refine callsIn_wide (n := 9) |>.1 ?_
  have hseq : SeqGives Fence.wide (9 - 1 - 1) Tryz.prog 64 #[.pointer (some ⟨W.heap.size, 0, none⟩)] encZ (fun ss => ss.Perm (intKeys (DataW.map ([] : List (Lit × DataW Value))))) (Maps.size (DataW.map ([] : List (Lit × DataW Value)))) (W.alloc (.cells #[.map (some b)] 59)) :=
    AnyZI.keys_gives (ρ := keysA_ren) { keysA with } Fence.wide _ trivial rfl (by omega) W.heap.size b _ _ _ (by simp) (by simp) (hD.alloc _)
  have cC := AnyZI.collect_in (ρ := sortedA_ren) { sortedA with } Fence.wide 9 trivial trivial rfl (by omega) 64 #[.pointer (some ⟨W.heap.size, 0, none⟩)] trivial (enters_of Tryz.func64 (by kernel_rfl) rfl) _ _ (by simp [Maps.size_eq]) (by simp [Maps.size_eq]) _ hseq
  change CallsIn _ _ Tryz.prog 24 _ _ _ at cC
  refine cC.mono ?_
  rintro e w' ⟨v, ss, rfl, hS, hrow, hnil, hb⟩
  have h0 : ss = [] := List.Perm.eq_nil hS
  have hv := hnil.2 h0
  subst hv
  exact ⟨rfl, below_then ((Below.refl _ W).alloc (Nat.le_refl _) _) (Nat.le_refl _) hb⟩

/-! ## Nothing is deleted -/
theorem pred_none (k : Nat) (x : Int) (w : World) (h : w.cell? ⟨k, 0, none⟩ = some (.slice none 0 0)) :
    Calls Tryz.prog 41 #[.int .i64 x, .pointer (some ⟨k, 0, none⟩)] w fun e w' => e = .returned (.bool false) ∧ w = w' := by
  have HC := Lib.hid (contains_lit false none 0 [] x w rfl (Lst.nil _) (by simp))
  go_enter Tryz.func41, Tryz.ntmps41
  go_wp2_with fail
  refine HC.out.mono ?_
  rintro e w1 ⟨rfl, rfl⟩
  go_wp2_with fail
  go_ret
  exact ⟨rfl, rfl⟩
set_option maxHeartbeats 1000000 in
theorem index_none (k : Nat) (ao : Option Addr) (ac : Nat) (l : List Int) (w : World) (hr : IRow w (.slice ao l.length ac) l) (hl : l.length ≤ 100000) (h : w.cell? ⟨k, 0, none⟩ = some (.slice none 0 0)) :
    Calls Tryz.prog 66 #[.slice ao l.length ac, .func (.func 41) #[] #[.pointer (some ⟨k, 0, none⟩)]] w fun e w' => e = .returned (.int .i64 (-1)) ∧ w = w' := by
  have HR := Lib.hid hr
  have HP := Lib.hid (fun x => pred_none k x w h)
  clear hr h
  go_enter Tryz.func66, Tryz.ntmps66
  go_wp2_with fail
  go_loop [5, 8] (fun _ iv => ∃ (j : Nat), j ≤ l.length ∧ iv = .int .i64 j) (fun _ iv => l.length - iNat iv)
  case atStart => exact ⟨0, by omega, rfl⟩
  case round =>
    obtain ⟨j, hj, rfl⟩ := hrel
    by_cases hlt : j < l.length
    · obtain ⟨ab, aoff, rfl, hbl, a0⟩ := int_at HR.out (List.getElem?_eq_getElem hlt)
      generalize l[j] = y at *
      go_wp2_with fail
      refine (HP.out y).mono ?_
      rintro e w1 ⟨rfl, rfl⟩
      go_wp2_with fail
      go_round
      case rel => exact ⟨j + 1, by omega, by go_num⟩
      case measure => simp [iNat]; omega
    · obtain rfl : j = l.length := by omega
      go_wp2_with fail
      go_ret
      exact ⟨rfl, rfl⟩
theorem delete_same (k : Nat) (ao : Option Addr) (ac : Nat) (l : List Int) (w : World) (hr : IRow w (.slice ao l.length ac) l) (hl : l.length ≤ 100000) (h : w.cell? ⟨k, 0, none⟩ = some (.slice none 0 0)) :
    Calls Tryz.prog 39 #[.slice ao l.length ac, .func (.func 41) #[] #[.pointer (some ⟨k, 0, none⟩)]] w fun e w' => e = .returned (.slice ao l.length ac) ∧ w = w' := by
  have HX := Lib.hid (index_none k ao ac l w hr hl h)
  clear hr h
  go_enter Tryz.func39, Tryz.ntmps39
  go_wp2_with fail
  refine HX.out.mono ?_
  rintro e w1 ⟨rfl, rfl⟩
  go_wp2_with fail
  go_ret
  exact ⟨rfl, rfl⟩

/-! ## Nodes, Waits -/
def RowP (w : World) (L : List Int) (e : Ending) (w' : World) : Prop := ∃ ao ac, e = .returned (.slice ao L.length ac) ∧ IRow w' (.slice ao L.length ac) L ∧ Below w.heap.size w w'
theorem nodes_any (k : Nat) (s : Sx) (N : List Int) (E : List (Int × Rp)) (K : List Int) (B : Nat) (w : World) (h : SOk w k s N E K B) (hN : N.length ≤ 100) :
    Calls Tryz.prog 40 #[.pointer (some ⟨k, 0, none⟩)] w (RowP w N) := by
  obtain ⟨no, nc, hnv⟩ := row_form h.nodes
  have hr : IRow w (.slice no N.length nc) N := by rw [← hnv]; exact Lst.owned enI_len (by decide) rfl h.nodes
  have c3 : w.cell? ⟨k, 3, none⟩ = some (.slice no N.length nc) := by rw [← hnv]; exact h.var.get rfl
  have HC := Lib.hid (clone_Int no nc N w hr (by omega))
  clear hr h hnv
  go_enter Tryz.func40, Tryz.ntmps40
  go_wp2_with fail
  refine HC.out.mono ?_
  rintro e w1 ⟨v, rfl, hv, hb⟩
  obtain ⟨ao, ac, rfl⟩ := row_form hv
  have HV := Lib.hid (show IRow w1 (.slice ao N.length ac) N from Lst.owned enI_len (by decide) rfl hv)
  have HB := Lib.hid hb
  clear hv hb
  go_wp2_with fail
  go_ret
  exact ⟨_, _, rfl, HV.out, HB.out⟩
set_option maxHeartbeats 2000000 in
set_option maxRecDepth 100000 in
theorem waits_any (k : Nat) (s : Sx) (N : List Int) (K : List Int) (B : Nat) (w : World) (h : SOk w k s N [] K B) (hN : N.length ≤ 100) (hp : s.ph = 0) :
    Calls Tryz.prog 23 #[.pointer (some ⟨k, 0, none⟩)] w (RowP w N) := by
  have c6 : w.cell? ⟨k, 6, none⟩ = some (.map (some s.mr)) := h.var.get rfl
  have HK := Lib.hid (keysR_any s.mr w)
  have HC := Lib.hid (collect_none s.mr w h.rmap)
  have HO := Lib.hid h
  have HP := Lib.hid hp
  clear h hp
  go_enter Tryz.func23, Tryz.ntmps23
  go_wp2_with fail
  refine HK.out.mono ?_
  rintro e w1 ⟨rfl, rfl⟩
  go_wp2_with fail
  refine HC.out.mono ?_
  rintro e w2 ⟨rfl, hb2⟩
  obtain ⟨k3, hk3⟩ : ∃ k, k = w2.heap.size := ⟨_, rfl⟩
  obtain ⟨w3, hw3⟩ : ∃ W, W = w2.alloc (.cells #[.slice none 0 0] 24) := ⟨_, rfl⟩
  have hb3 : Below w2.heap.size w2 w3 := by rw [hw3]; exact (Below.refl _ _).alloc (Nat.le_refl _) _
  have hbw := below_then hb2 (Nat.le_refl _) hb3
  have hc3 : w3.heap[k3]? = some (.cells #[.slice none 0 0] 24 (0, 0)) := by rw [hw3, hk3]; exact heap_alloc_new w2 _
  have hl3 : k3 < w3.heap.size := (Array.getElem?_eq_some_iff.1 hc3).1
  have HO3 := Lib.hid (HO.out.below hbw)
  have HB3 := Lib.hid hbw
  have HC3 := Lib.hid (fun (W : World) (hb : Below w3.heap.size w3 W) => (show W.cell? ⟨k3, 0, none⟩ = some (.slice none 0 0) from by
    rw [cell_of_row W k3 0 _ _ (0, 0) ((hb.block k3 hl3).trans hc3)]; rfl))
  have c5 : w3.cell? ⟨k, 5, none⟩ = some (.int .i64 0) := by rw [← HP.out]; exact HO3.out.var.get rfl
  have HN := Lib.hid (nodes_any k s N [] K B w3 HO3.out hN)
  clear hb2 hb3 hbw hc3 c6 HC HK
  go_upto_region 2 with fail
  rw [← hw3, ← hk3]
  clear hw3 hk3
  go_wp2_with fail
  refine HN.out.mono ?_
  rintro e w4 ⟨ao, ac, rfl, hr4, hb4⟩
  have HD := Lib.hid (delete_same k3 ao ac N w4 hr4 (by omega) (HC3.out w4 hb4))
  have HR4 := Lib.hid hr4
  have HB4 := Lib.hid (below_then HB3.out (Nat.le_refl _) hb4)
  clear hr4 hb4
  go_wp2_with fail
  refine HD.out.mono ?_
  rintro e w5 ⟨rfl, rfl⟩
  go_wp2_with fail
  go_ret
  exact ⟨_, _, rfl, HR4.out, HB4.out⟩

/-! ## covers -/
def coverF (l a : List Int) : Bool := a.all fun x => hasI l x
theorem cover_all {l a : List Int} (h : ∀ x ∈ a, x ∈ l) : coverF l a = true := List.all_eq_true.2 fun x hx => (hasI_iff l x).2 (h x hx)
set_option maxHeartbeats 1000000 in
theorem covers_yes (lo ao : Option Addr) (lc ac : Nat) (l a : List Int) (w : World) (hl : IRow w (.slice lo l.length lc) l) (ha : IRow w (.slice ao a.length ac) a) (hn : l.length ≤ 100000) (hm : a.length ≤ 100000) (h : ∀ x ∈ a, x ∈ l) :
    Calls Tryz.prog 10 #[.slice lo l.length lc, .slice ao a.length ac] w fun e w' => e = .returned (.bool true) ∧ w = w' := by
  have HA := Lib.hid ha
  have HC := Lib.hid (fun x (hx : x ∈ a) => contains_lit true lo lc l x w ((hasI_iff l x).2 (h x hx)) hl hn)
  clear ha hl h
  go_enter Tryz.func10, Tryz.ntmps10
  go_wp2_with fail
  go_loop [5] (fun iv => ∃ (j : Nat), j ≤ a.length ∧ iv = .int .i64 j) (fun iv => a.length - iNat iv)
  case atStart => exact ⟨0, by omega, rfl⟩
  case round =>
    obtain ⟨j, hj, rfl⟩ := hrel
    by_cases hlt : j < a.length
    · obtain ⟨ab, aoff, rfl, hbl, a0⟩ := int_at HA.out (List.getElem?_eq_getElem hlt)
      have hm := List.getElem_mem hlt
      generalize a[j] = y at *
      go_wp2_with fail
      refine (HC.out y hm).mono ?_
      rintro e w1 ⟨rfl, rfl⟩
      go_wp2_with fail
      go_round
      case rel => exact ⟨j + 1, by omega, by go_num⟩
      case measure => simp [iNat]; omega
    · obtain rfl : j = a.length := by omega
      go_wp2_with fail
      go_ret
      exact ⟨rfl, rfl⟩
end Go.Proofs.YthdbilggnjjkhaaGreatDoor.Rpr

namespace Go.Proofs.YthdbilggnjjkhaaGreatDoor.Rpr
open Go.RowKit Go.Maps Go.Sort Go.Proofs.YthdbilggnjjkhaaGreatDoor.Ints Go.Proofs.YthdbilggnjjkhaaGreatDoor.Mut Go.Proofs.YthdbilggnjjkhaaGreatDoor.Trc
set_option linter.unusedSectionVars false
variable [Inhabited Lim]

theorem values_any (ao : Option Addr) (n cap : Nat) (w : World) :
    Calls Tryz.prog 14 #[.slice ao n cap] w fun e w' => e = .returned (.func (.func 26) #[] #[.pointer (some ⟨w.heap.size, 0, none⟩)]) ∧ w' = w.alloc (.cells #[.slice ao n cap] 24) := by
  go_enter Tryz.func14, Tryz.ntmps14
  go_wp2
  go_ret
  exact ⟨rfl, rfl⟩
/-- A repair of these nodes has begun. -/
def NewP (N : List Int) (w : World) (e : Ending) (w' : World) : Prop :=
  ∃ k s, e = .returned (.tuple #[.pointer (some ⟨k, 0, none⟩), .bool true]) ∧ SOk w' k s N [] [] w.heap.size ∧ s.ph = 0 ∧ RowKit.Below w.heap.size w w'
theorem nodes_pos {L : List Int} (h : L ≠ []) : (dupI (sortI L)).length ≠ 0 := by
  obtain ⟨x, l, rfl⟩ := List.exists_cons_of_ne_nil h
  have := dupI_mem _ x ((sortI_mem (x :: l) x).2 (by simp))
  intro e
  rw [List.length_eq_zero_iff.1 e] at this
  cases this

set_option maxHeartbeats 2000000 in
set_option maxRecDepth 100000 in
theorem new_any (se : Stp) (now : Int) (ao : Option Addr) (cap : Nat) (L : List Int) (w : World) (hr : IRow w (.slice ao L.length cap) L) (hL : L.length ≤ 100) (h1 : L ≠ []) :
    Calls Tryz.prog 4 #[vS se, .int .i64 now, .slice ao L.length cap] w (NewP (dupI (sortI L)) w) := by
  obtain ⟨N, hN⟩ : ∃ N, N = dupI (sortI L) := ⟨_, rfl⟩
  rw [← hN]
  have hne : N.length ≠ 0 := by rw [hN]; exact nodes_pos h1
  have hnl : N.length ≤ 100 := by
    rw [hN]
    have := dupI_len (sortI L)
    rw [sortI_len] at this
    omega
  obtain ⟨W0, hW0⟩ : ∃ W0, W0 = w.alloc (.cells #[.int .i64 se.p, .int .i64 se.l, .int .i64 se.w] 23) := ⟨_, rfl⟩
  have hs0 : S3 W0 w.heap.size se := by rw [hW0]; exact S3.new w se
  have hb0 : RowKit.Below w.heap.size w W0 := by rw [hW0]; exact (Below.refl _ _).alloc (Nat.le_refl _) _
  have hz0 : W0.heap.size = w.heap.size + 1 := by rw [hW0]; simp
  have HS0 := Lib.hid hs0
  have HB0 := Lib.hid hb0
  have HZ0 := Lib.hid hz0
  have HW := Lib.hid hW0
  have HR := Lib.hid (Lst.below hr hb0)
  have HN := Lib.hid hN
  have HNE := Lib.hid (And.intro hne hnl)
  have hmm := @run_makeMap Tryz.prog
  clear hr hN hne hnl hW0 hs0 hb0 hz0 h1
  obtain ⟨sp, sl, sw⟩ := se
  unfold vS
  simp only []
  go_enter Tryz.func4, Tryz.ntmps4
  go_upto_region 1 with fail
  rw [← HW.out]
  clear HW
  go_wp2_with fail
  refine (values_any ao L.length cap W0).mono ?_
  rintro e w1 ⟨rfl, rfl⟩
  go_wp2_with fail
  refine (sortedI_any W0.heap.size ao cap L (by omega) _ (Boxed.new _ _ _) (Lst.below HR.out ((Below.refl _ _).alloc (Nat.le_refl _) _))).mono ?_
  rintro e w2 ⟨v2, rfl, hv2, hb2⟩
  go_wp2_with fail
  refine (compactI_any _ v2 (sortI L) w2 hv2 (by rw [sortI_len]; omega)).mono ?_
  rintro e w3 ⟨v3, rfl, hv3, hg3⟩
  rw [← HN.out] at hv3
  have hb3 : RowKit.Below W0.heap.size W0 w3 := by
    have h1 := below_then ((Below.refl _ W0).alloc (Nat.le_refl _) (.cells #[.slice ao L.length cap] 24)) (Nat.le_refl _) hb2
    refine h1.grown hg3 h1.size (fun j hj => ?_)
    have := (World.ownsRow.lt hv2 j hj).1
    simp at this
    omega
  have hv3' : OwnI w3 w.heap.size v3 N := own_base hv3 (by simp; have := HZ0.out; omega)
  obtain ⟨no, nc, rfl⟩ := row_form hv3
  have HV := Lib.hid hv3'
  have HB3 := Lib.hid (below_then HB0.out (Nat.le_refl _) hb3)
  have hs3 := HS0.out.below hb3
  obtain ⟨hlt3, s0, s1, s2, -⟩ := hs3
  simp only [] at s0 s1 s2
  have hlt := HNE.out.1
  have hnz : decide ((N.length : Int) = 0) = false := by simp; intro e; exact hlt (by rw [e]; rfl)
  have hnz2 : ((N.length : Int) == 0) = false := by simpa using hnz
  clear hv2 hb2 hv3 hg3 hb3 hv3' hlt
  go_wp2_with fail
  refine bodyPost_ret (v := .tuple #[.pointer (some ⟨w3.heap.size + 1 + 1, 0, none⟩), .bool true]) (by simp [results, Tryz.f4, go_sem]) rfl ?_
  have hw1 : RowKit.Below w3.heap.size w3 (w3.alloc (.map #[] 0)) := (Below.refl _ _).alloc (Nat.le_refl _) _
  have hw2 : RowKit.Below w3.heap.size w3 ((w3.alloc (.map #[] 0)).alloc (.map #[] 0)) := hw1.alloc (by simp) _
  obtain ⟨s, hs⟩ : ∃ s : Sx, s = ⟨⟨sp, sl, sw⟩, .slice no N.length nc, now, 0, w3.heap.size, w3.heap.size + 1, .slice none 0 0, .slice none 0 0, .slice none 0 0, ⟨0, 0, 0⟩, 0⟩ := ⟨_, rfl⟩
  have hv := VarAt.new ((w3.alloc (.map #[] 0)).alloc (.map #[] 0)) 62 s.cs
  rw [World.size_alloc, World.size_alloc] at hv
  have hr := RMap.new w3
  have hd := DMap.new (w3.alloc (.map #[] 0))
  rw [World.size_alloc] at hd
  have hw3 : ∀ o, RowKit.Below w3.heap.size w3 (((w3.alloc (.map #[] 0)).alloc (.map #[] 0)).alloc o) := fun o => hw2.alloc (by simp; omega) _
  have hsz := HB3.out.size
  refine ⟨w3.heap.size + 1 + 1, s, rfl, ⟨by rw [hs] at hv ⊢; exact hv, ?_, ?_, ?_, by rw [hs]; show w3.heap.size ≠ w3.heap.size + 1; omega, by rw [hs]; exact ⟨by omega, hsz, (by show w.heap.size ≤ w3.heap.size + 1; omega)⟩, fun p hp => absurd hp List.not_mem_nil⟩, by rw [hs], below_then HB3.out (Nat.le_refl _) (hw3 _)⟩
  · rw [hs]; exact row_below HV.out (hw3 _)
  · rw [hs]
    exact (hr.kept (row := none) (World.grownBy_alloc _ _ none) (by simp)).kept (row := none) (World.grownBy_alloc _ _ none) (by simp)
  · rw [hs]
    exact hd.kept (row := none) (World.grownBy_alloc _ _ none) (by simp)
end Go.Proofs.YthdbilggnjjkhaaGreatDoor.Rpr
