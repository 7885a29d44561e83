/- What a content has of some keys (layer 27): the closures of replica.Part. · What a content has of some keys, as the law has it (layer 27). PRINTED by wip/genrplpart.py. · What a content has of some keys: replica.Part (layer 27). PRINTED by wip/genrplown.py. -/
import Derived.Test.YtmjelcjdfamikaaGreatDoorMutDel
import Derived.Test.YtmjelcjdfamikaaGreatDoorRange
import Derived.Test.YtmjelcjdfamikaaGreatDoorConKnown
import Derived.Test.YtmjelcjdfamikaaGreatDoorAppendLoc
import Derived.Test.YtmjelcjdfamikaaGreatDoorRegLin
import Derived.Laws.EntriesVeiled
set_option linter.unusedSimpArgs false
set_option linter.unusedVariables false
namespace Go.Proofs.YtmjelcjdfamikaaGreatDoor.Rpl
open Go.RowKit Go.Proofs.YtmjelcjdfamikaaGreatDoor.Mut
set_option linter.unusedSectionVars false
variable [Inhabited Lim]

/-- Is a key from one on, ahead of another one (an empty one: all behind)? -/
def inKey (fr tt key : ByteArray) : Bool := !Op.bytesLess key.toList fr.toList && (tt.toList.isEmpty || Op.bytesLess key.toList tt.toList)
theorem in_any (k1 k2 : Nat) (fr tt key : ByteArray) (w : World) (h1 : w.cell? ⟨k1, 0, none⟩ = some (.string fr)) (h2 : w.cell? ⟨k2, 0, none⟩ = some (.string tt)) :
    Calls Tryz.prog 13 #[.string key, .pointer (some ⟨k1, 0, none⟩), .pointer (some ⟨k2, 0, none⟩)] w fun e w' => e = .returned (.bool (inKey fr tt key)) ∧ w = w' := by
  unfold inKey
  cases q1 : Op.bytesLess key.toList fr.toList
  case true =>
    go_enter Tryz.func13, Tryz.ntmps13
    go_wp2_with fail
    go_ret
    exact ⟨rfl, rfl⟩
  cases q2 : tt.toList.isEmpty
  case true =>
    go_enter Tryz.func13, Tryz.ntmps13
    go_wp2_with fail
    go_ret
    exact ⟨rfl, rfl⟩
  go_enter Tryz.func13, Tryz.ntmps13
  go_wp2_with fail
  go_ret
  exact ⟨rfl, rfl⟩
/-- Does a wipe reach into these keys? -/
def reachKey (fr tt : ByteArray) (m : Mu) : Bool := !(Op.bytesLess m.fin.toList fr.toList || m.fin.toList == fr.toList) && (tt.toList.isEmpty || Op.bytesLess m.key.toList tt.toList)
def partF (fr tt : ByteArray) (c : Con) : Con := ⟨c.cells.filter fun m => inKey fr tt m.key, c.wipes.filter fun m => reachKey fr tt m, c.sibs.filter fun m => inKey fr tt m.key⟩
/-- Where the two keys lie, and the closure that knows them. -/
structure InAt (w : World) (k1 k2 k3 : Nat) (fr tt : ByteArray) : Prop where
  lt : k1 < w.heap.size ∧ k2 < w.heap.size ∧ k3 < w.heap.size
  c1 : w.cell? ⟨k1, 0, none⟩ = some (.string fr)
  c2 : w.cell? ⟨k2, 0, none⟩ = some (.string tt)
  c3 : w.cell? ⟨k3, 0, none⟩ = some (.func (.func 13) #[] #[.pointer (some ⟨k1, 0, none⟩), .pointer (some ⟨k2, 0, none⟩)])
theorem InAt.below {w w' : World} {k1 k2 k3 : Nat} {fr tt : ByteArray} (h : InAt w k1 k2 k3 fr tt) (hb : Below w.heap.size w w') : InAt w' k1 k2 k3 fr tt := by
  obtain ⟨⟨l1, l2, l3⟩, h1, h2, h3⟩ := h
  have := hb.size
  exact ⟨⟨by omega, by omega, by omega⟩, (hb.cell (p := ⟨k1, 0, none⟩) l1).trans h1, (hb.cell (p := ⟨k2, 0, none⟩) l2).trans h2, (hb.cell (p := ⟨k3, 0, none⟩) l3).trans h3⟩
theorem InAt.grown {w w' : World} {k1 k2 k3 : Nat} {fr tt : ByteArray} {row : Option Nat} (h : InAt w k1 k2 k3 fr tt) (hg : w.grownBy w' row) (hr : ∀ r, row = some r → r ≠ k1 ∧ r ≠ k2 ∧ r ≠ k3) : InAt w' k1 k2 k3 fr tt := by
  obtain ⟨⟨l1, l2, l3⟩, h1, h2, h3⟩ := h
  have := hg.size
  refine ⟨⟨by omega, by omega, by omega⟩, ?_, ?_, ?_⟩
  · exact (World.cell?_of_block (a := ⟨k1, 0, none⟩) (hg.block k1 l1 (fun e => (hr k1 e.symm).1 rfl))).trans h1
  · exact (World.cell?_of_block (a := ⟨k2, 0, none⟩) (hg.block k2 l2 (fun e => (hr k2 e.symm).2.1 rfl))).trans h2
  · exact (World.cell?_of_block (a := ⟨k3, 0, none⟩) (hg.block k3 l3 (fun e => (hr k3 e.symm).2.2 rfl))).trans h3

set_option maxHeartbeats 1000000 in
theorem pred_any (k1 k2 k3 : Nat) (fr tt : ByteArray) (x : Ro) (w : World) (h : InAt w k1 k2 k3 fr tt) (hx : ∃ ao n cap, x.2 = .slice ao n cap) :
    Calls Tryz.prog 17 #[vM x, .pointer (some ⟨k3, 0, none⟩)] w fun e w' => e = .returned (.bool (!inKey fr tt x.1.key)) ∧ Below w.heap.size w w' := by
  obtain ⟨xo, xn, xc, xe⟩ := hx
  obtain ⟨⟨tb, kd, key, fin, val, ex, ⟨ap, al, aw⟩, ov⟩, xv⟩ := x
  simp only [] at xe ⊢
  subst xe
  obtain ⟨W0, hW0⟩ : ∃ W, W = w.alloc (.cells #[.int .i64 tb, .int .i64 kd, .string key, .string fin, .string val, .int .i64 ex, .int .i64 ap, .int .i64 al, .int .i64 aw, .slice xo xn xc] 40) := ⟨_, rfl⟩
  have hb0 : Below w.heap.size w W0 := by rw [hW0]; exact (Below.refl _ _).alloc (Nat.le_refl _) _
  have h0 := h.below hb0
  have HI := Lib.hid (in_any k1 k2 fr tt key W0 h0.c1 h0.c2)
  have c3 := h0.c3
  have a2 : W0.cell? ⟨w.heap.size, 2, none⟩ = some (.string key) := by rw [hW0]; go_simp
  have HB := Lib.hid hb0
  have HW := Lib.hid hW0
  clear h h0 hW0 hb0
  unfold vM
  simp only []
  go_enter Tryz.func17, Tryz.ntmps17
  go_upto_region 1 with fail
  rw [← HW.out]
  go_wp2_with fail
  refine HI.out.mono ?_
  rintro e w1 ⟨rfl, rfl⟩
  go_wp2_with fail
  go_ret
  exact ⟨rfl, HB.out⟩

/-- What is of these keys, in memory of its own. -/
def OwnKP (w : World) (fr tt : ByteArray) (R : List Ro) (e : Ending) (w' : World) : Prop :=
  ∃ v K, e = .returned v ∧ Copied w' v K w.heap.size ∧ K.map (·.1) = (R.map (·.1)).filter (fun m => inKey fr tt m.key) ∧ Below w.heap.size w w'
theorem map_filter_key {fr tt : ByteArray} {R R' : List Ro} (h : R'.map (·.1) = R.map (·.1)) : (R'.filter fun x => !!inKey fr tt x.1.key).map (·.1) = (R.map (·.1)).filter (fun m => inKey fr tt m.key) := by
  rw [← h, List.filter_map]
  simp [Function.comp_def]
set_option maxHeartbeats 1000000 in
theorem own_any (k1 k2 k3 : Nat) (fr tt : ByteArray) (v : Value) (R : List Ro) (w : World) (h : InAt w k1 k2 k3 fr tt) (hv : MRow w v R) (ho : ∀ x ∈ R, x.1.over.length ≤ 1000000) (hn : R.length ≤ 100000) :
    Calls Tryz.prog 14 #[v, .pointer (some ⟨k3, 0, none⟩)] w (OwnKP w fr tt R) := by
  have HC := Lib.hid (copies_any v R w hv ho hn)
  obtain ⟨ao, cap, rfl, -, -⟩ := hv.form
  have HI := Lib.hid h
  have HRN := Lib.hid hn
  clear h hv ho
  go_enter Tryz.func14, Tryz.ntmps14
  go_wp2_with fail
  refine HC.out.mono ?_
  rintro e w1 ⟨v1, R', rfl, ⟨g, cp, rfl⟩, hmap, hcp, hb1⟩
  have hlen : R'.length = R.length := by have := congrArg List.length hmap; simpa using this
  have hrow := hcp.row
  have hfo : ∀ x ∈ R', ∃ ao n cap, x.2 = .slice ao n cap := fun x hx => by
    obtain ⟨ao, cap, e⟩ := row_form (hcp.over x hx)
    exact ⟨ao, _, cap, e⟩
  have hask : Asks w1 (some g) 17 #[.pointer (some ⟨k3, 0, none⟩)] (fun m => !inKey fr tt m.key) := fun x W hg hx =>
    pred_any k1 k2 k3 fr tt x W ((HI.out.below hb1).grown hg (fun r hr => by
      have hb := (hrow.lt g rfl).1
      injection hr with hr
      have := HI.out.lt
      omega)) hx
  have HD := Lib.hid (delete_any w.heap.size (.slice (some ⟨g, 0, none⟩) R.length cp) R' 17 #[.pointer (some ⟨k3, 0, none⟩)] (fun m => !inKey fr tt m.key) w1 hrow hfo (by have := HRN.out; omega) hask (enters_of Tryz.func17 (by kernel_rfl) rfl))
  have HCP := Lib.hid hcp
  have HMP := Lib.hid hmap
  have HB1 := Lib.hid hb1
  clear hrow hfo hask hcp hmap hb1 hlen HC
  go_wp2_with fail
  refine HD.out.mono ?_
  rintro e w2 ⟨v2, rfl, ho2, hg2, hb2⟩
  obtain ⟨K, hK⟩ : ∃ K, K = R'.filter fun x => !!inKey fr tt x.1.key := ⟨_, rfl⟩
  rw [← hK] at ho2
  obtain ⟨vo, vc, rfl⟩ := row_form ho2
  have HF := Lib.hid (show OwnKP w fr tt R (.returned (.slice vo K.length vc)) w2 from by
    have hin : ∀ x ∈ K, x ∈ R' := fun x hx => by rw [hK] at hx; exact (List.mem_filter.1 hx).1
    refine ⟨_, K, rfl, ⟨ho2, fun x hx => ?_⟩, by rw [hK]; exact map_filter_key HMP.out, ?_⟩
    · refine (HCP.out.over x (hin x hx)).kept hg2 ?_
      exact rows_apart (HCP.out.over x (hin x hx)) HCP.out.row (by decide)
    · exact HB1.out.grown hg2 HB1.out.size (fun j hj => (HCP.out.row.lt j hj).1))
  clear hK
  clear ho2 hg2 hb2
  go_wp2_with fail
  go_ret
  exact HF.out
end Go.Proofs.YtmjelcjdfamikaaGreatDoor.Rpl

namespace Go.Proofs.YtmjelcjdfamikaaGreatDoor.Rpl
open Go.RowKit Go.Proofs.YtmjelcjdfamikaaGreatDoor.Spare Go.Proofs.YtmjelcjdfamikaaGreatDoor.RegInv Go.Proofs.YtmjelcjdfamikaaGreatDoor.Mut
set_option linter.unusedSectionVars false
variable [Inhabited Lim]

theorem c3_set2 {w : World} {k : Nat} {a b d : Value} (h : C3 w k a b d) (u : Value) : C3 (w.setCell ⟨k, 2, none⟩ u) k a b u := by
  obtain ⟨h0, h1, h2, h3, h4, h5, h6⟩ := h
  exact ⟨by simpa using h0, by go_simp, by go_simp, by go_simp, by go_simp, by go_simp, by go_simp⟩
/-- A mutation in a row of its own, made for an append. -/
def sNewM (x : Ro) : RSpec := sOne (fun v W => ∃ g, v = .slice (some ⟨g, 0, none⟩) 1 1 ∧ g < W.heap.size ∧ ∀ j u, (enM x)[j]? = some u → W.cell? ⟨g, j, none⟩ = some u) (fun _ _ _ h hb => by
  obtain ⟨g, h1, h2, h3⟩ := h
  exact ⟨g, h1, Nat.lt_of_lt_of_le h2 hb.size, fun j u hu => (World.cell?_of_block (a := ⟨g, j, none⟩) (hb.block g h2)).trans (h3 j u hu)⟩)
theorem news_mut {w : World} {g : Nat} {x : Ro} (h : ∀ j u, (enM x)[j]? = some u → w.cell? ⟨g, j, none⟩ = some u) : ∀ (j : Nat) (u : Value), (enM x)[j]? = some u → w.cell? ((⟨g, 0, none⟩ : Addr).add j) = some u := by
  intro j u hu
  rw [addr_add, Nat.zero_add]
  exact h j u hu
theorem new_mut (W : World) (x : Ro) (xo : Option Addr) (xc : Nat) (hxe : x.2 = .slice xo x.1.over.length xc) : ∀ (j : Nat) (u : Value), (enM x)[j]? = some u → (W.alloc (.cells #[.int .i64 x.1.table, .int .i64 x.1.kind, .string x.1.key, .string x.1.fin, .string x.1.val, .int .i64 x.1.expiry, .int .i64 x.1.at_.p, .int .i64 x.1.at_.l, .int .i64 x.1.at_.w, .slice xo x.1.over.length xc] 40)).cell? ⟨W.heap.size, j, none⟩ = some u := by
  intro j u hu
  have e : enM x = [.int .i64 x.1.table, .int .i64 x.1.kind, .string x.1.key, .string x.1.fin, .string x.1.val, .int .i64 x.1.expiry, .int .i64 x.1.at_.p, .int .i64 x.1.at_.l, .int .i64 x.1.at_.w, .slice xo x.1.over.length xc] := by unfold enM; rw [hxe]
  rw [e] at hu
  have h := new_cells W _ 40 j u hu
  rw [addr_add, Nat.zero_add] at h
  exact h
theorem enM_one (x : Ro) {xo : Option Addr} {xc : Nat} (hxe : x.2 = .slice xo x.1.over.length xc) : ∀ u ∈ enM x, u.oneCell' = true := by
  intro u hu
  unfold enM at hu
  rw [hxe] at hu
  simp only [List.mem_cons, List.not_mem_nil, or_false] at hu
  rcases hu with rfl | rfl | rfl | rfl | rfl | rfl | rfl | rfl | rfl | rfl <;> rfl
theorem mat_grown {w w' : World} {b o : Nat} {x : Ro} {row : Option Nat} (h : At w b o x) (hg : w.grownBy w' row) (hne : some b ≠ row) : At w' b o x := by
  have e : ∀ k, w'.cell? ⟨b, k, none⟩ = w.cell? ⟨b, k, none⟩ := fun k => World.cell?_of_block (a := ⟨b, k, none⟩) (hg.block b h.lt hne)
  obtain ⟨h0, h1, h2, h3, h4, h5, h6, h7, h8, h9, h10⟩ := h
  exact ⟨Nat.lt_of_lt_of_le h0 hg.size, (e _).trans h1, (e _).trans h2, (e _).trans h3, (e _).trans h4, (e _).trans h5, (e _).trans h6, (e _).trans h7, (e _).trans h8, (e _).trans h9, (e _).trans h10⟩
theorem own_not {w : World} {base k : Nat} {e : TypeId} {size n : Nat} {v : Value} {xs : List Value} (h : w.ownsRow base e size v n xs) (hk : k < base) : v.ownBlock = none ∨ v.ownBlock ≠ some k := by
  cases hv : v.ownBlock with
  | none => exact Or.inl rfl
  | some g => exact Or.inr (fun e => by have := (h.lt g hv).1; have : g = k := by simpa using e
                                        omega)
def zMM : List Value := [.int .i64 0, .int .i64 0, .string ByteArray.empty, .string ByteArray.empty, .string ByteArray.empty, .int .i64 0, .int .i64 0, .int .i64 0, .int .i64 0, .slice none 0 0]
theorem grown_then {a b c : World} {k : Nat} {row : Option Nat} (h : a.grownBy b (some k)) (g : b.grownBy c row) (hr : ∀ j, row = some j → a.heap.size ≤ j) : a.grownBy c (some k) :=
  h.andThen g (fun j hj => Or.inl (hr j hj))
theorem grown_under {a b c : World} {row : Option Nat} (h : a.grownBy b row) (hb : Below b.heap.size b c) : a.grownBy c row := h.andThen (grown_below (row := none) hb) (fun j hj => by cases hj)

set_option maxHeartbeats 8000000 in
set_option maxRecDepth 100000 in
theorem partref_any {c : Con} {n : Nat} {v : Value} {w : World} (fr tt : ByteArray) (hv : IsC c v w) (h : Mut.Good c n) (hn : n ≤ 1000) :
    Calls Tryz.prog 8 #[v, .string fr, .string tt] w (RetC (partF fr tt c) w) := by
  obtain ⟨o1, n1, k1, o2, n2, k2, o3, n3, k3, rfl, hlc⟩ := hv.form
  obtain ⟨R0, hR0, hM0⟩ := hlc.cells
  obtain ⟨R1, hR1, hM1⟩ := hlc.wipes
  obtain ⟨R2, hR2, hM2⟩ := hlc.sibs
  have e0 := hM0.row.len
  have e1 := hM1.row.len
  have e2 := hM2.row.len
  have hO := h.okc.len
  have hal : c.all.length = n1 + n2 + n3 := by rw [e0, e1, e2]; unfold Con.all; rw [← hR0, ← hR1, ← hR2]; simp; omega
  have HM0 := Lib.hid hM0
  have HM1 := Lib.hid hM1
  have HM2 := Lib.hid hM2
  have HEN := Lib.hid (And.intro e0 (And.intro e1 e2))
  have hb1 : n1 ≤ 1000 ∧ n2 ≤ 1000 ∧ n3 ≤ 1000 := by omega
  obtain ⟨hb1, hb2, hb3⟩ := hb1
  obtain ⟨F0, hF0⟩ : ∃ F : Ro → Bool, F = fun x => inKey fr tt x.1.key := ⟨_, rfl⟩
  obtain ⟨F1, hF1⟩ : ∃ F : Ro → Bool, F = fun x => reachKey fr tt x.1 := ⟨_, rfl⟩
  obtain ⟨F2, hF2⟩ : ∃ F : Ro → Bool, F = fun x => inKey fr tt x.1.key := ⟨_, rfl⟩
  have HFIN := Lib.hid (show partF fr tt c = ⟨(R0.filter F0).map (·.1), (R1.filter F1).map (·.1), (R2.filter F2).map (·.1)⟩ from by
    unfold partF
    rw [← hR0, ← hR1, ← hR2, hF0, hF1, hF2]
    simp only [List.filter_map]
    rfl)
  rw [HFIN.out]
  have HFD0 := Lib.hid (show ∀ x, F0 x = inKey fr tt x.1.key from fun x => by rw [hF0])
  have HFD1 := Lib.hid (show ∀ x, F1 x = reachKey fr tt x.1 from fun x => by rw [hF1])
  have HFD2 := Lib.hid (show ∀ x, F2 x = inKey fr tt x.1.key from fun x => by rw [hF2])
  clear hF0 hF1 hF2 hlc hv h hO hal e0 e1 e2 hM0 hM1 hM2 hR0 hR1 hR2 HFIN
  obtain ⟨i0, hi0, hz0, hz1, hz2⟩ := info_parts Mut.info_M
  have HI := Lib.hid (And.intro hi0 (And.intro hz0 (And.intro hz1 hz2)))
  clear hi0 hz0 hz1 hz2
  go_enter Tryz.func8, Tryz.ntmps8
  go_upto_region 2 with fail
  obtain ⟨WS, hW⟩ : ∃ W, W = ((w.alloc (.cells #[.slice o1 n1 k1, .slice o2 n2 k2, .slice o3 n3 k3] 29)).alloc (.cells #[.slice none 0 0, .slice none 0 0, .slice none 0 0] 29)).alloc (.cells #[.slice none 0 0, .slice none 0 0, .slice none 0 0] 29) := ⟨_, rfl⟩
  have xA : C3 WS w.heap.size (.slice o1 n1 k1) (.slice o2 n2 k2) (.slice o3 n3 k3) := by
    rw [hW]
    exact ((C3.newR w _ _ _).below ((Below.refl _ _).alloc (Nat.le_refl _) _)).below ((Below.refl _ _).alloc (Nat.le_refl _) _)
  have xB : C3 WS (w.heap.size + 1) (.slice none 0 0) (.slice none 0 0) (.slice none 0 0) := by
    rw [hW]
    have h := (C3.newR (w.alloc (.cells #[.slice o1 n1 k1, .slice o2 n2 k2, .slice o3 n3 k3] 29)) (.slice none 0 0) (.slice none 0 0) (.slice none 0 0)).below ((Below.refl _ _).alloc (Nat.le_refl _) (.cells #[.slice none 0 0, .slice none 0 0, .slice none 0 0] 29))
    simpa using h
  have xC : C3 WS (w.heap.size + 1 + 1) (.slice none 0 0) (.slice none 0 0) (.slice none 0 0) := by
    rw [hW]
    have h := C3.newR ((w.alloc (.cells #[.slice o1 n1 k1, .slice o2 n2 k2, .slice o3 n3 k3] 29)).alloc (.cells #[.slice none 0 0, .slice none 0 0, .slice none 0 0] 29)) (.slice none 0 0) (.slice none 0 0) (.slice none 0 0)
    simpa using h
  have hbw : Below w.heap.size w WS := by rw [hW]; exact (((Below.refl _ _).alloc (Nat.le_refl _) _).alloc (by simp) _).alloc (by simp; omega) _
  have hsz : w.heap.size + 1 + 1 < WS.heap.size := xC.lt
  rw [← hW]
  obtain ⟨N, hN⟩ : ∃ N, N = w.heap.size := ⟨_, rfl⟩
  rw [← hN] at xA xB xC hsz ⊢
  have HN := Lib.hid hN
  have HXA := Lib.hid xA
  have HXB := Lib.hid xB
  have HXC0 := Lib.hid xC
  have HBW0 := Lib.hid hbw
  clear hW xA xB xC hbw hN
  go_wp2_with fail
  obtain ⟨b0, hb10⟩ : ∃ b, b = WS.heap.size := ⟨_, rfl⟩
  have hNb0 : N + 1 + 1 < b0 := by rw [hb10]; exact HXC0.out.lt
  have HB0 := Lib.hid hb10
  clear hb10
  obtain ⟨Q0, hQ0⟩ : ∃ Q, Q = R0.filter F0 := ⟨_, rfl⟩
  have HQ0 := Lib.hid hQ0
  clear hQ0
  go_loopw [8] (fun iv wr => ∃ (k on : Nat) (out : List Ro) (ov : Value), k ≤ n1 ∧ iv = .int .i64 k ∧ Hid (out ++ (R0.drop k).filter F0 = Q0) ∧ Hid (on = out.length) ∧ on ≤ k ∧ Hid (wr.ownsRow b0 40 10 ov on (out.flatMap enM)) ∧ Hid (C3 wr (N + 1 + 1) (ov) (.slice none 0 0) (.slice none 0 0)) ∧ Hid (WS.grownBy wr (some (N + 1 + 1)))) (fun iv _ => n1 - (intOf iv).toNat)
  case atStart => exact ⟨0, 0, [], .slice none 0 0, by omega, rfl, Lib.hid (by rw [HQ0.out]; rfl), Lib.hid rfl, by omega, Lib.hid (World.ownsRow_nil _ _ _ _), HXC0, Lib.hid (World.grownBy.refl _ _)⟩
  case round =>
    obtain ⟨k, on, out, ov, hk, rfl, hq, hol, hon, hown, hx5, hg⟩ := hrel
    obtain ⟨ao, ac, rfl⟩ := row_form hown.out
    have hbz : b0 ≤ wr.heap.size := by rw [HB0.out]; exact hg.out.size
    have hA := Lib.hid (HXA.out.grown hg.out (by simp; omega))
    have hBw := Lib.hid (show Below w.heap.size w wr from HBW0.out.grown hg.out HBW0.out.size (fun j hj => by cases hj; rw [← HN.out]; omega))
    have HMR := Lib.hid (HM0.out.below hBw.out)
    obtain ⟨-, g0, g1, g2, -⟩ := hA.out
    by_cases hlt : k < n1
    · have hkr : k < R0.length := by have := HEN.out.1; omega
      obtain ⟨x, hx⟩ : ∃ x, R0[k]? = some x := ⟨_, List.getElem?_eq_getElem hkr⟩
      have hxe : R0[k] = x := (List.getElem?_eq_some_iff.1 hx).2
      have hst := hq.out
      rw [List.drop_eq_getElem_cons hkr, hxe, List.filter_cons] at hst
      obtain ⟨xb, xoff, hao, hat0⟩ := HM0.out.at_ hx
      cases hao
      have hxl : xb < w.heap.size := hat0.lt
      have hat := hat0.below hBw.out
      have hov := HMR.out.over x (List.mem_of_getElem? hx)
      obtain ⟨xo, xc, xe, -, -⟩ := Over.form hov
      clear hat0
      have HST := Lib.hid hst
      have HXE := Lib.hid xe
      have HAT := Lib.hid hat
      obtain ⟨-, -, -, a2, a3, -, -, -, -, -, -⟩ := hat
      have j0 : (0 : Int) ≤ (k : Int) := by omega
      have j1 : (k : Int) < (n1 : Int) := by omega
      clear hx hxe hst hov xe hkr
      go_upto_region 5 with fail
      go_cut [40] (fun cc wx => cc = .bool (F0 x) ∧ wr = wx)
      case first =>
        cases q1 : Op.bytesLess x.1.key.toList fr.toList
        all_goals cases q2 : tt.toList.isEmpty
        all_goals cases q3 : Op.bytesLess x.1.key.toList tt.toList
        all_goals
          go_wp2_with fail
          go_meet
          exact ⟨by rw [HFD0.out]; unfold inKey; simp [q1, q2, q3], rfl⟩
      case rest =>
        obtain ⟨rfl, rfl⟩ := hcut
        obtain ⟨W6, hW6⟩ : ∃ W : World, W = wr := ⟨_, rfl⟩
        have hb : Below wr.heap.size wr W6 := by rw [hW6]; exact Below.refl _ _
        rw [← hW6]
        clear hW6
        have HO6 := Lib.hid (row_below hown.out hb)
        have HX6 := Lib.hid (hx5.out.below hb)
        have HA6 := Lib.hid (hA.out.below hb)
        have HT6 := Lib.hid (HAT.out.below hb)
        have HG6 := Lib.hid (grown_under hg.out hb)
        have hbz6 : b0 ≤ W6.heap.size := Nat.le_trans hbz hb.size
        clear hb a2 a3 g0 g1 g2 hown hx5 hA hg HAT HMR hBw
        cases hFx : F0 x
        · have HS2 := Lib.hid (show out ++ (R0.drop (k + 1)).filter F0 = Q0 from by
            have h := HST.out
            rw [if_neg (by rw [hFx]; exact Bool.false_ne_true)] at h
            exact h)
          go_wp2_with fail
          go_roundw
          case rel => exact ⟨k + 1, on, out, _, by omega, by go_num, HS2, hol, by omega, HO6, HX6, HG6⟩
          case measure => simp [intOf]; omega
        · have HS2 := Lib.hid (show (out ++ [x]) ++ (R0.drop (k + 1)).filter F0 = Q0 from by
            have h := HST.out
            rw [if_pos hFx] at h
            rw [← h]; simp)
          have hcm : ∀ a b, W6.grownBy a (Value.slice ao on ac).ownBlock → Below a.heap.size a b → W6.grownBy b (Value.slice ao on ac).ownBlock := fun a b h hb => grown_under h hb
          have hpr : ∀ (j : Nat) (a b : World), (j = 8 → (fun W => W.ownsRow b0 40 10 (.slice ao on ac) on (out.flatMap enM)) a) → Below a.heap.size a b → (j = 8 → (fun W => W.ownsRow b0 40 10 (.slice ao on ac) on (out.flatMap enM)) b) := fun j a b h hb e => row_below (h e) hb
          have HLT := Lib.hid (show ∀ j, (Value.slice ao on ac).ownBlock = some j → b0 ≤ j ∧ j < W6.heap.size from fun j hj => HO6.out.lt j hj)
          have HKX := Lib.hid (fun (W : World) (hc : W6.grownBy W (Value.slice ao on ac).ownBlock) => HX6.out.grown hc (fun e => by have := (HLT.out _ e).1; omega))
          have HKA := Lib.hid (fun (W : World) (hc : W6.grownBy W (Value.slice ao on ac).ownBlock) => HA6.out.grown hc (fun e => by have := (HLT.out _ e).1; omega))
          have HKT := Lib.hid (fun (W : World) (hc : W6.grownBy W (Value.slice ao on ac).ownBlock) => mat_grown HT6.out hc (fun e => by have := (HLT.out _ e.symm).1; rw [← HN.out] at hxl; omega))
          go_upto_region 6 with fail
          obtain ⟨W0, hW0⟩ : ∃ W : World, W = W6 := ⟨_, rfl⟩
          have HG0 := Lib.hid (show W6.grownBy W0.drew (Value.slice ao on ac).ownBlock from by rw [hW0]; exact hcm _ _ (World.grownBy.refl _ _) (Below.refl _ _).drew)
          have HP0 := Lib.hid (show W0.drew.ownsRow b0 40 10 (.slice ao on ac) on (out.flatMap enM) from by rw [hW0]; exact row_below HO6.out (Below.refl _ _).drew)
          rw [← hW0]
          clear hW0
          refine RegLin.wp_region_lin (RegLin.useL [(7, 8)]) (fun W => W6.grownBy W (Value.slice ao on ac).ownBlock) (fun j W => j = 8 → (fun W => W.ownsRow b0 40 10 (.slice ao on ac) on (out.flatMap enM)) W) 10 [false, false, false, false, false, false, false, false, false, false, false, false, false, false, false, false, false, false, false, false, false, false, false, false, false, false, false, false, false, false, false, false, false, false, false, false, false, false, false, false, false, true, true, true, true, true, true, true, true, true, true, false, false, false, false, false, false, false, false, false, false, false, false, false, false, false, false, false, false, false, false, false, false, false, false, false, false, false, false, false, false, false, false, false, false, false, false, false, false, false, false, false, false, false, false, false, false, false, false, false, false, false, false, false, false, false, false, false, false, false, false, false, false, false, false, false, false, false, false, false, false, false, false, false, false, false, false, false, false, false]
            [sLit (.pointer (some ⟨N + 1 + 1, 0, none⟩)),
    sLit (.slice ao on ac),
    sLit (.pointer (some ⟨N, 0, none⟩)),
    sLit (.slice (some ⟨xb, xoff, none⟩) n1 k1),
    sLit (.int .i64 k),
    sLit (.pointer (some ⟨xb, xoff + k * 10, none⟩)),
    sLit (.agg #[.int .i64 x.1.table, .int .i64 x.1.kind, .string x.1.key, .string x.1.fin, .string x.1.val, .int .i64 x.1.expiry, .int .i64 x.1.at_.p, .int .i64 x.1.at_.l, .int .i64 x.1.at_.w, .slice xo x.1.over.length xc]),
    sNewM x,
    sOne (fun v W => W.ownsRow b0 40 10 v (on + 1) ((out ++ [x]).flatMap enM)) (fun _ _ _ h hb => row_below h hb),
    sLit (.pointer (some ⟨N + 1 + 1, 0, none⟩))] (HG0.out) (fun j _ _ => HP0.out) (by kernel_rfl) (by kernel_rfl) (by kernel_rfl) (by kernel_rfl) (fun F hF => ?_)
          simp only [over, overL, Nat.reduceAdd] at hF
          obtain rfl := funext hF
          clear hF
          refine ⟨⟨?_, ?_, ?_, ?_, ?_, ?_, ?_, ?_, ?_, ?_, trivial⟩, ?_⟩
          · intro V W hc hp hd K hK _
            clear hd
            go_wp2_with fail
            refine hK _ _ ?_ ?_ ?_
            · rfl
            · exact RegLin.keeps_below hcm hpr hc (Below.refl _ _)
            · exact rfl
          · intro V W hc hp hd K hK _
            have h0 : (V 41) = .pointer (some ⟨N + 1 + 1, 0, none⟩) := hd 0 (by decide) (by kernel_rfl) (RegLin.useL_ok (by kernel_rfl))
            clear hd
            obtain ⟨-, s0, s1, s2, -⟩ := HKX.out W hc
            go_wp2_with fail
            refine hK _ _ ?_ ?_ ?_
            · rfl
            · exact RegLin.keeps_below hcm hpr hc (Below.refl _ _)
            · exact rfl
          · intro V W hc hp hd K hK _
            clear hd
            go_wp2_with fail
            refine hK _ _ ?_ ?_ ?_
            · rfl
            · exact RegLin.keeps_below hcm hpr hc (Below.refl _ _)
            · exact rfl
          · intro V W hc hp hd K hK _
            have h2 : (V 43) = .pointer (some ⟨N, 0, none⟩) := hd 2 (by decide) (by kernel_rfl) (RegLin.useL_ok (by kernel_rfl))
            clear hd
            obtain ⟨-, g0, g1, g2, -⟩ := HKA.out W hc
            go_wp2_with fail
            refine hK _ _ ?_ ?_ ?_
            · rfl
            · exact RegLin.keeps_below hcm hpr hc (Below.refl _ _)
            · exact rfl
          · intro V W hc hp hd K hK _
            clear hd
            go_wp2_with fail
            refine hK _ _ ?_ ?_ ?_
            · rfl
            · exact RegLin.keeps_below hcm hpr hc (Below.refl _ _)
            · exact rfl
          · intro V W hc hp hd K hK _
            have h3 : (V 44) = .slice (some ⟨xb, xoff, none⟩) n1 k1 := hd 3 (by decide) (by kernel_rfl) (RegLin.useL_ok (by kernel_rfl))
            have h4 : (V 45) = .int .i64 k := hd 4 (by decide) (by kernel_rfl) (RegLin.useL_ok (by kernel_rfl))
            clear hd
            go_wp2_with fail
            refine hK _ _ ?_ ?_ ?_
            · rfl
            · exact RegLin.keeps_below hcm hpr hc (Below.refl _ _)
            · exact rfl
          · intro V W hc hp hd K hK _
            have h5 : (V 46) = .pointer (some ⟨xb, xoff + k * 10, none⟩) := hd 5 (by decide) (by kernel_rfl) (RegLin.useL_ok (by kernel_rfl))
            clear hd
            obtain ⟨-, m0, m1, m2, m3, m4, m5, m6, m7, m8, m9⟩ := HKT.out W hc
            rw [HXE.out] at m9
            go_wp2_with fail
            refine hK _ _ ?_ ?_ ?_
            · rfl
            · exact RegLin.keeps_below hcm hpr hc (Below.refl _ _)
            · exact rfl
          · intro V W hc hp hd K hK _
            have h6 : (V 47) = .agg #[.int .i64 x.1.table, .int .i64 x.1.kind, .string x.1.key, .string x.1.fin, .string x.1.val, .int .i64 x.1.expiry, .int .i64 x.1.at_.p, .int .i64 x.1.at_.l, .int .i64 x.1.at_.w, .slice xo x.1.over.length xc] := hd 6 (by decide) (by kernel_rfl) (RegLin.useL_ok (by kernel_rfl))
            clear hd
            have HCC := Lib.hid hc
            clear hc hp
            go_wp2_with fail
            refine hK _ _ ?_ ?_ ?_
            · rfl
            · exact RegLin.keeps_below hcm hpr HCC.out ((Below.refl _ _).alloc (Nat.le_refl _) _)
            · exact ⟨_, rfl, by simp, new_mut W x xo xc HXE.out⟩
          · intro V W hc hp hd K hK _
            have h1 : (V 42) = .slice ao on ac := hd 1 (by decide) (by kernel_rfl) (RegLin.useL_ok (by kernel_rfl))
            have h7 : ∃ g, (V 48) = .slice (some ⟨g, 0, none⟩) 1 1 ∧ g < W.heap.size ∧ ∀ j u, (enM x)[j]? = some u → W.cell? ⟨g, j, none⟩ = some u := hd 7 (by decide) (by kernel_rfl) (RegLin.useL_ok (by kernel_rfl))
            clear hd
            have HA := Lib.hid (hp rfl)
            obtain ⟨gn, e7, hgl, hgc⟩ := h7
            have ea := h1
            have hbw : b0 ≤ W.heap.size := Nat.le_trans hbz6 hc.size
            have HCC := Lib.hid hc
            clear hc hp
            go_wp2_with (at_builtin; refine wpList_append_own_loc rfl (.tmp 42) (.tmp 48) 22 rfl b0 40 i0 zeroM zMM 120 Tryz.underlying22 HI.out.1 HI.out.2.1 rfl HI.out.2.2.1 HI.out.2.2.2 (by decide) (.slice ao on ac) on (out.flatMap enM) (by first | rfl | exact ea) HA.out ⟨gn, 0, none⟩ 1 1 (enM x) (by first | rfl | exact e7) (by decide) rfl (news_mut hgc) (enM_one x HXE.out) (by unfold maxLen; omega) (by omega) hbw ?_)
            intro v1 w1 g1 g2 g3
            have G1 := Lib.hid (show w1.ownsRow b0 40 10 v1 (on + 1) ((out ++ [x]).flatMap enM) from by rw [List.flatMap_append, List.flatMap_singleton]; exact g1)
            have G2 := Lib.hid (show W6.grownBy w1 (Value.slice ao on ac).ownBlock from HCC.out.andThen g2 (fun j hj => Or.inr hj))
            clear g1 g2 g3
            go_wp2_with fail
            refine hK _ _ ?_ ?_ ?_
            · rfl
            · refine RegLin.keeps_by G2.out (by kernel_rfl) (fun j hj hne hl h => ?_)
              match j, hj, hne, hl, h with
              | 0, _, _, _, h => exact h
              | 1, _, _, _, h => exact h
              | 2, _, _, _, h => exact h
              | 3, _, _, _, h => exact h
              | 4, _, _, _, h => exact h
              | 5, _, _, _, h => exact h
              | 6, _, _, _, h => exact h
              | 7, _, _, hl, _ => exact Bool.noConfusion (hl.symm.trans (show RegLin.liveB _ 10 [(7, 8)] 8 7 = false from by kernel_rfl))
              | 8, _, hne, _, _ => exact absurd rfl hne
              | 9, _, _, hl, _ => exact Bool.noConfusion (hl.symm.trans (show RegLin.liveB _ 10 [(7, 8)] 8 9 = false from by kernel_rfl))
              | j + 10, hj, _, _, _ => exact absurd hj (by omega)
            · exact G1.out
          · intro V W hc hp hd K hK _
            clear hd
            go_wp2_with fail
            refine hK _ _ ?_ ?_ ?_
            · rfl
            · exact RegLin.keeps_below hcm hpr hc (Below.refl _ _)
            · exact rfl
          · intro V W hc hd
            have h8 : W.ownsRow b0 40 10 (V 49) (on + 1) ((out ++ [x]).flatMap enM) := hd 8 (by decide) rfl
            have h9 : (V 50) = .pointer (some ⟨N + 1 + 1, 0, none⟩) := hd 9 (by decide) rfl
            clear hd
            simp only [List.drop_succ_cons, List.drop_zero]
            have HC9 := Lib.hid hc
            have H9 := Lib.hid h8
            obtain ⟨bo, bc, e9⟩ := row_form h8
            have HX9 := Lib.hid (HKX.out W hc)
            obtain ⟨-, s0, s1, s2, f0, f1, f2⟩ := HX9.out
            clear h8 hc
            rw [e9] at H9
            have HX10 := Lib.hid (HX9.out.set0 (.slice bo (on + 1) bc))
            have HO10 := Lib.hid (show (W.setCell ⟨N + 1 + 1, 0, none⟩ (.slice bo (on + 1) bc)).ownsRow b0 40 10 (.slice bo (on + 1) bc) (on + 1) ((out ++ [x]).flatMap enM) from H9.out.kept (grown_cell W (N + 1 + 1) 0 (.slice bo (on + 1) bc)) (own_not H9.out (by omega)))
            have HG10 := Lib.hid (show WS.grownBy (W.setCell ⟨N + 1 + 1, 0, none⟩ (.slice bo (on + 1) bc)) (some (N + 1 + 1)) from (grown_then HG6.out HC9.out (fun j hj => by have := (HLT.out j hj).1; rw [← HB0.out]; omega)).andThen (grown_cell W (N + 1 + 1) 0 _) (fun j hj => Or.inr hj))
            go_wp2_with fail
            go_roundw
            case rel => exact ⟨k + 1, on + 1, out ++ [x], _, by omega, by go_num, HS2, Lib.hid (by have := hol.out; simp; omega), by omega, HO10, HX10, HG10⟩
            case measure => simp [intOf]; omega
    · obtain rfl : k = n1 := by omega
      have HOUT := Lib.hid (show out = Q0 from by have h := hq.out; rw [List.drop_of_length_le (by have := HEN.out.1; omega)] at h; simpa using h)
      have HSUB0 := Lib.hid (show ∀ y ∈ Q0, y ∈ R0 from fun y hy => by rw [HQ0.out] at hy; exact (List.mem_filter.1 hy).1)
      obtain ⟨qo0, rfl⟩ : ∃ o, o = ao := ⟨_, rfl⟩
      obtain ⟨qc0, rfl⟩ : ∃ o, o = ac := ⟨_, rfl⟩
      obtain ⟨qn0, rfl⟩ : ∃ o, o = on := ⟨_, rfl⟩
      have HO20 := Lib.hid (show wr.ownsRow b0 40 10 (.slice qo0 qn0 qc0) Q0.length (Q0.flatMap enM) from by rw [← HOUT.out, ← hol.out]; exact hown.out)
      clear hq hol hown HOUT hon hbz HMR hlt hk
      obtain ⟨W30, hWq⟩ : ∃ W : World, W = wr := ⟨_, rfl⟩
      rw [← hWq] at hx5 hg hA hBw HO20 g0 g1 g2 ⊢
      clear hWq
      have HXC1 := hx5
      have HXA1 := hA
      have HBW1 := hBw
      clear hx5 hA hBw
      have HXB1 := Lib.hid (HXB.out.grown hg.out (by simp))
      clear hg
      go_wp2_with fail
      clear g0 g1 g2
      obtain ⟨b1, hb11⟩ : ∃ b, b = W30.heap.size := ⟨_, rfl⟩
      have hNb1 : N + 1 + 1 < b1 := by rw [hb11]; exact HXC1.out.lt
      have HB1 := Lib.hid hb11
      clear hb11
      obtain ⟨Q1, hQ1⟩ : ∃ Q, Q = R1.filter F1 := ⟨_, rfl⟩
      have HQ1 := Lib.hid hQ1
      clear hQ1
      go_loopw [9] (fun iv wr => ∃ (k on : Nat) (out : List Ro) (ov : Value), k ≤ n2 ∧ iv = .int .i64 k ∧ Hid (out ++ (R1.drop k).filter F1 = Q1) ∧ Hid (on = out.length) ∧ on ≤ k ∧ Hid (wr.ownsRow b1 40 10 ov on (out.flatMap enM)) ∧ Hid (C3 wr (N + 1 + 1) (.slice qo0 qn0 qc0) (ov) (.slice none 0 0)) ∧ Hid (W30.grownBy wr (some (N + 1 + 1)))) (fun iv _ => n2 - (intOf iv).toNat)
      case atStart => exact ⟨0, 0, [], .slice none 0 0, by omega, rfl, Lib.hid (by rw [HQ1.out]; rfl), Lib.hid rfl, by omega, Lib.hid (World.ownsRow_nil _ _ _ _), HXC1, Lib.hid (World.grownBy.refl _ _)⟩
      case round =>
        obtain ⟨k, on, out, ov, hk, rfl, hq, hol, hon, hown, hx5, hg⟩ := hrel
        obtain ⟨ao, ac, rfl⟩ := row_form hown.out
        have hbz : b1 ≤ wr.heap.size := by rw [HB1.out]; exact hg.out.size
        have hA := Lib.hid (HXA1.out.grown hg.out (by simp; omega))
        have hBw := Lib.hid (show Below w.heap.size w wr from HBW1.out.grown hg.out HBW1.out.size (fun j hj => by cases hj; rw [← HN.out]; omega))
        have HMR := Lib.hid (HM1.out.below hBw.out)
        obtain ⟨-, g0, g1, g2, -⟩ := hA.out
        by_cases hlt : k < n2
        · have hkr : k < R1.length := by have := HEN.out.2.1; omega
          obtain ⟨x, hx⟩ : ∃ x, R1[k]? = some x := ⟨_, List.getElem?_eq_getElem hkr⟩
          have hxe : R1[k] = x := (List.getElem?_eq_some_iff.1 hx).2
          have hst := hq.out
          rw [List.drop_eq_getElem_cons hkr, hxe, List.filter_cons] at hst
          obtain ⟨xb, xoff, hao, hat0⟩ := HM1.out.at_ hx
          cases hao
          have hxl : xb < w.heap.size := hat0.lt
          have hat := hat0.below hBw.out
          have hov := HMR.out.over x (List.mem_of_getElem? hx)
          obtain ⟨xo, xc, xe, -, -⟩ := Over.form hov
          clear hat0
          have HST := Lib.hid hst
          have HXE := Lib.hid xe
          have HAT := Lib.hid hat
          obtain ⟨-, -, -, a2, a3, -, -, -, -, -, -⟩ := hat
          have j0 : (0 : Int) ≤ (k : Int) := by omega
          have j1 : (k : Int) < (n2 : Int) := by omega
          clear hx hxe hst hov xe hkr
          go_upto_region 10 with fail
          go_cut [79] (fun cc wx => cc = .bool (F1 x) ∧ wr = wx)
          case first =>
            cases q1 : Op.bytesLess x.1.fin.toList fr.toList
            all_goals cases q0 : (x.1.fin.toList == fr.toList)
            all_goals cases q2 : tt.toList.isEmpty
            all_goals cases q3 : Op.bytesLess x.1.key.toList tt.toList
            all_goals
              go_wp2_with fail
              go_meet
              exact ⟨by rw [HFD1.out]; unfold reachKey; simp [q1, q0, q2, q3], rfl⟩
          case rest =>
            obtain ⟨rfl, rfl⟩ := hcut
            obtain ⟨W6, hW6⟩ : ∃ W : World, W = wr := ⟨_, rfl⟩
            have hb : Below wr.heap.size wr W6 := by rw [hW6]; exact Below.refl _ _
            rw [← hW6]
            clear hW6
            have HO6 := Lib.hid (row_below hown.out hb)
            have HX6 := Lib.hid (hx5.out.below hb)
            have HA6 := Lib.hid (hA.out.below hb)
            have HT6 := Lib.hid (HAT.out.below hb)
            have HG6 := Lib.hid (grown_under hg.out hb)
            have hbz6 : b1 ≤ W6.heap.size := Nat.le_trans hbz hb.size
            clear hb a2 a3 g0 g1 g2 hown hx5 hA hg HAT HMR hBw
            cases hFx : F1 x
            · have HS2 := Lib.hid (show out ++ (R1.drop (k + 1)).filter F1 = Q1 from by
                have h := HST.out
                rw [if_neg (by rw [hFx]; exact Bool.false_ne_true)] at h
                exact h)
              go_wp2_with fail
              go_roundw
              case rel => exact ⟨k + 1, on, out, _, by omega, by go_num, HS2, hol, by omega, HO6, HX6, HG6⟩
              case measure => simp [intOf]; omega
            · have HS2 := Lib.hid (show (out ++ [x]) ++ (R1.drop (k + 1)).filter F1 = Q1 from by
                have h := HST.out
                rw [if_pos hFx] at h
                rw [← h]; simp)
              have hcm : ∀ a b, W6.grownBy a (Value.slice ao on ac).ownBlock → Below a.heap.size a b → W6.grownBy b (Value.slice ao on ac).ownBlock := fun a b h hb => grown_under h hb
              have hpr : ∀ (j : Nat) (a b : World), (j = 8 → (fun W => W.ownsRow b1 40 10 (.slice ao on ac) on (out.flatMap enM)) a) → Below a.heap.size a b → (j = 8 → (fun W => W.ownsRow b1 40 10 (.slice ao on ac) on (out.flatMap enM)) b) := fun j a b h hb e => row_below (h e) hb
              have HLT := Lib.hid (show ∀ j, (Value.slice ao on ac).ownBlock = some j → b1 ≤ j ∧ j < W6.heap.size from fun j hj => HO6.out.lt j hj)
              have HKX := Lib.hid (fun (W : World) (hc : W6.grownBy W (Value.slice ao on ac).ownBlock) => HX6.out.grown hc (fun e => by have := (HLT.out _ e).1; omega))
              have HKA := Lib.hid (fun (W : World) (hc : W6.grownBy W (Value.slice ao on ac).ownBlock) => HA6.out.grown hc (fun e => by have := (HLT.out _ e).1; omega))
              have HKT := Lib.hid (fun (W : World) (hc : W6.grownBy W (Value.slice ao on ac).ownBlock) => mat_grown HT6.out hc (fun e => by have := (HLT.out _ e.symm).1; rw [← HN.out] at hxl; omega))
              go_upto_region 11 with fail
              obtain ⟨W0, hW0⟩ : ∃ W : World, W = W6 := ⟨_, rfl⟩
              have HG0 := Lib.hid (show W6.grownBy W0.drew (Value.slice ao on ac).ownBlock from by rw [hW0]; exact hcm _ _ (World.grownBy.refl _ _) (Below.refl _ _).drew)
              have HP0 := Lib.hid (show W0.drew.ownsRow b1 40 10 (.slice ao on ac) on (out.flatMap enM) from by rw [hW0]; exact row_below HO6.out (Below.refl _ _).drew)
              rw [← hW0]
              clear hW0
              refine RegLin.wp_region_lin (RegLin.useL [(7, 8)]) (fun W => W6.grownBy W (Value.slice ao on ac).ownBlock) (fun j W => j = 8 → (fun W => W.ownsRow b1 40 10 (.slice ao on ac) on (out.flatMap enM)) W) 10 [false, false, false, false, false, false, false, false, false, false, false, false, false, false, false, false, false, false, false, false, false, false, false, false, false, false, false, false, false, false, false, false, false, false, false, false, false, false, false, false, false, false, false, false, false, false, false, false, false, false, false, false, false, false, false, false, false, false, false, false, false, false, false, false, false, false, false, false, false, false, false, false, false, false, false, false, false, false, false, false, true, true, true, true, true, true, true, true, true, true, false, false, false, false, false, false, false, false, false, false, false, false, false, false, false, false, false, false, false, false, false, false, false, false, false, false, false, false, false, false, false, false, false, false, false, false, false, false, false, false]
                [sLit (.pointer (some ⟨N + 1 + 1, 1, none⟩)),
    sLit (.slice ao on ac),
    sLit (.pointer (some ⟨N, 1, none⟩)),
    sLit (.slice (some ⟨xb, xoff, none⟩) n2 k2),
    sLit (.int .i64 k),
    sLit (.pointer (some ⟨xb, xoff + k * 10, none⟩)),
    sLit (.agg #[.int .i64 x.1.table, .int .i64 x.1.kind, .string x.1.key, .string x.1.fin, .string x.1.val, .int .i64 x.1.expiry, .int .i64 x.1.at_.p, .int .i64 x.1.at_.l, .int .i64 x.1.at_.w, .slice xo x.1.over.length xc]),
    sNewM x,
    sOne (fun v W => W.ownsRow b1 40 10 v (on + 1) ((out ++ [x]).flatMap enM)) (fun _ _ _ h hb => row_below h hb),
    sLit (.pointer (some ⟨N + 1 + 1, 1, none⟩))] (HG0.out) (fun j _ _ => HP0.out) (by kernel_rfl) (by kernel_rfl) (by kernel_rfl) (by kernel_rfl) (fun F hF => ?_)
              simp only [over, overL, Nat.reduceAdd] at hF
              obtain rfl := funext hF
              clear hF
              refine ⟨⟨?_, ?_, ?_, ?_, ?_, ?_, ?_, ?_, ?_, ?_, trivial⟩, ?_⟩
              · intro V W hc hp hd K hK _
                clear hd
                go_wp2_with fail
                refine hK _ _ ?_ ?_ ?_
                · rfl
                · exact RegLin.keeps_below hcm hpr hc (Below.refl _ _)
                · exact rfl
              · intro V W hc hp hd K hK _
                have h0 : (V 80) = .pointer (some ⟨N + 1 + 1, 1, none⟩) := hd 0 (by decide) (by kernel_rfl) (RegLin.useL_ok (by kernel_rfl))
                clear hd
                obtain ⟨-, s0, s1, s2, -⟩ := HKX.out W hc
                go_wp2_with fail
                refine hK _ _ ?_ ?_ ?_
                · rfl
                · exact RegLin.keeps_below hcm hpr hc (Below.refl _ _)
                · exact rfl
              · intro V W hc hp hd K hK _
                clear hd
                go_wp2_with fail
                refine hK _ _ ?_ ?_ ?_
                · rfl
                · exact RegLin.keeps_below hcm hpr hc (Below.refl _ _)
                · exact rfl
              · intro V W hc hp hd K hK _
                have h2 : (V 82) = .pointer (some ⟨N, 1, none⟩) := hd 2 (by decide) (by kernel_rfl) (RegLin.useL_ok (by kernel_rfl))
                clear hd
                obtain ⟨-, g0, g1, g2, -⟩ := HKA.out W hc
                go_wp2_with fail
                refine hK _ _ ?_ ?_ ?_
                · rfl
                · exact RegLin.keeps_below hcm hpr hc (Below.refl _ _)
                · exact rfl
              · intro V W hc hp hd K hK _
                clear hd
                go_wp2_with fail
                refine hK _ _ ?_ ?_ ?_
                · rfl
                · exact RegLin.keeps_below hcm hpr hc (Below.refl _ _)
                · exact rfl
              · intro V W hc hp hd K hK _
                have h3 : (V 83) = .slice (some ⟨xb, xoff, none⟩) n2 k2 := hd 3 (by decide) (by kernel_rfl) (RegLin.useL_ok (by kernel_rfl))
                have h4 : (V 84) = .int .i64 k := hd 4 (by decide) (by kernel_rfl) (RegLin.useL_ok (by kernel_rfl))
                clear hd
                go_wp2_with fail
                refine hK _ _ ?_ ?_ ?_
                · rfl
                · exact RegLin.keeps_below hcm hpr hc (Below.refl _ _)
                · exact rfl
              · intro V W hc hp hd K hK _
                have h5 : (V 85) = .pointer (some ⟨xb, xoff + k * 10, none⟩) := hd 5 (by decide) (by kernel_rfl) (RegLin.useL_ok (by kernel_rfl))
                clear hd
                obtain ⟨-, m0, m1, m2, m3, m4, m5, m6, m7, m8, m9⟩ := HKT.out W hc
                rw [HXE.out] at m9
                go_wp2_with fail
                refine hK _ _ ?_ ?_ ?_
                · rfl
                · exact RegLin.keeps_below hcm hpr hc (Below.refl _ _)
                · exact rfl
              · intro V W hc hp hd K hK _
                have h6 : (V 86) = .agg #[.int .i64 x.1.table, .int .i64 x.1.kind, .string x.1.key, .string x.1.fin, .string x.1.val, .int .i64 x.1.expiry, .int .i64 x.1.at_.p, .int .i64 x.1.at_.l, .int .i64 x.1.at_.w, .slice xo x.1.over.length xc] := hd 6 (by decide) (by kernel_rfl) (RegLin.useL_ok (by kernel_rfl))
                clear hd
                have HCC := Lib.hid hc
                clear hc hp
                go_wp2_with fail
                refine hK _ _ ?_ ?_ ?_
                · rfl
                · exact RegLin.keeps_below hcm hpr HCC.out ((Below.refl _ _).alloc (Nat.le_refl _) _)
                · exact ⟨_, rfl, by simp, new_mut W x xo xc HXE.out⟩
              · intro V W hc hp hd K hK _
                have h1 : (V 81) = .slice ao on ac := hd 1 (by decide) (by kernel_rfl) (RegLin.useL_ok (by kernel_rfl))
                have h7 : ∃ g, (V 87) = .slice (some ⟨g, 0, none⟩) 1 1 ∧ g < W.heap.size ∧ ∀ j u, (enM x)[j]? = some u → W.cell? ⟨g, j, none⟩ = some u := hd 7 (by decide) (by kernel_rfl) (RegLin.useL_ok (by kernel_rfl))
                clear hd
                have HA := Lib.hid (hp rfl)
                obtain ⟨gn, e7, hgl, hgc⟩ := h7
                have ea := h1
                have hbw : b1 ≤ W.heap.size := Nat.le_trans hbz6 hc.size
                have HCC := Lib.hid hc
                clear hc hp
                go_wp2_with (at_builtin; refine wpList_append_own_loc rfl (.tmp 81) (.tmp 87) 22 rfl b1 40 i0 zeroM zMM 120 Tryz.underlying22 HI.out.1 HI.out.2.1 rfl HI.out.2.2.1 HI.out.2.2.2 (by decide) (.slice ao on ac) on (out.flatMap enM) (by first | rfl | exact ea) HA.out ⟨gn, 0, none⟩ 1 1 (enM x) (by first | rfl | exact e7) (by decide) rfl (news_mut hgc) (enM_one x HXE.out) (by unfold maxLen; omega) (by omega) hbw ?_)
                intro v1 w1 g1 g2 g3
                have G1 := Lib.hid (show w1.ownsRow b1 40 10 v1 (on + 1) ((out ++ [x]).flatMap enM) from by rw [List.flatMap_append, List.flatMap_singleton]; exact g1)
                have G2 := Lib.hid (show W6.grownBy w1 (Value.slice ao on ac).ownBlock from HCC.out.andThen g2 (fun j hj => Or.inr hj))
                clear g1 g2 g3
                go_wp2_with fail
                refine hK _ _ ?_ ?_ ?_
                · rfl
                · refine RegLin.keeps_by G2.out (by kernel_rfl) (fun j hj hne hl h => ?_)
                  match j, hj, hne, hl, h with
                  | 0, _, _, _, h => exact h
                  | 1, _, _, _, h => exact h
                  | 2, _, _, _, h => exact h
                  | 3, _, _, _, h => exact h
                  | 4, _, _, _, h => exact h
                  | 5, _, _, _, h => exact h
                  | 6, _, _, _, h => exact h
                  | 7, _, _, hl, _ => exact Bool.noConfusion (hl.symm.trans (show RegLin.liveB _ 10 [(7, 8)] 8 7 = false from by kernel_rfl))
                  | 8, _, hne, _, _ => exact absurd rfl hne
                  | 9, _, _, hl, _ => exact Bool.noConfusion (hl.symm.trans (show RegLin.liveB _ 10 [(7, 8)] 8 9 = false from by kernel_rfl))
                  | j + 10, hj, _, _, _ => exact absurd hj (by omega)
                · exact G1.out
              · intro V W hc hp hd K hK _
                clear hd
                go_wp2_with fail
                refine hK _ _ ?_ ?_ ?_
                · rfl
                · exact RegLin.keeps_below hcm hpr hc (Below.refl _ _)
                · exact rfl
              · intro V W hc hd
                have h8 : W.ownsRow b1 40 10 (V 88) (on + 1) ((out ++ [x]).flatMap enM) := hd 8 (by decide) rfl
                have h9 : (V 89) = .pointer (some ⟨N + 1 + 1, 1, none⟩) := hd 9 (by decide) rfl
                clear hd
                simp only [List.drop_succ_cons, List.drop_zero]
                have HC9 := Lib.hid hc
                have H9 := Lib.hid h8
                obtain ⟨bo, bc, e9⟩ := row_form h8
                have HX9 := Lib.hid (HKX.out W hc)
                obtain ⟨-, s0, s1, s2, f0, f1, f2⟩ := HX9.out
                clear h8 hc
                rw [e9] at H9
                have HX10 := Lib.hid (HX9.out.set1 (.slice bo (on + 1) bc))
                have HO10 := Lib.hid (show (W.setCell ⟨N + 1 + 1, 1, none⟩ (.slice bo (on + 1) bc)).ownsRow b1 40 10 (.slice bo (on + 1) bc) (on + 1) ((out ++ [x]).flatMap enM) from H9.out.kept (grown_cell W (N + 1 + 1) 1 (.slice bo (on + 1) bc)) (own_not H9.out (by omega)))
                have HG10 := Lib.hid (show W30.grownBy (W.setCell ⟨N + 1 + 1, 1, none⟩ (.slice bo (on + 1) bc)) (some (N + 1 + 1)) from (grown_then HG6.out HC9.out (fun j hj => by have := (HLT.out j hj).1; rw [← HB1.out]; omega)).andThen (grown_cell W (N + 1 + 1) 1 _) (fun j hj => Or.inr hj))
                go_wp2_with fail
                go_roundw
                case rel => exact ⟨k + 1, on + 1, out ++ [x], _, by omega, by go_num, HS2, Lib.hid (by have := hol.out; simp; omega), by omega, HO10, HX10, HG10⟩
                case measure => simp [intOf]; omega
        · obtain rfl : k = n2 := by omega
          have HOUT := Lib.hid (show out = Q1 from by have h := hq.out; rw [List.drop_of_length_le (by have := HEN.out.2.1; omega)] at h; simpa using h)
          have HSUB1 := Lib.hid (show ∀ y ∈ Q1, y ∈ R1 from fun y hy => by rw [HQ1.out] at hy; exact (List.mem_filter.1 hy).1)
          obtain ⟨qo1, rfl⟩ : ∃ o, o = ao := ⟨_, rfl⟩
          obtain ⟨qc1, rfl⟩ : ∃ o, o = ac := ⟨_, rfl⟩
          obtain ⟨qn1, rfl⟩ : ∃ o, o = on := ⟨_, rfl⟩
          have HO21 := Lib.hid (show wr.ownsRow b1 40 10 (.slice qo1 qn1 qc1) Q1.length (Q1.flatMap enM) from by rw [← HOUT.out, ← hol.out]; exact hown.out)
          clear hq hol hown HOUT hon hbz HMR hlt hk
          obtain ⟨W31, hWq⟩ : ∃ W : World, W = wr := ⟨_, rfl⟩
          rw [← hWq] at hx5 hg hA hBw HO21 g0 g1 g2 ⊢
          clear hWq
          have HXC2 := hx5
          have HXA2 := hA
          have HBW2 := hBw
          clear hx5 hA hBw
          have HO20 := Lib.hid (HO20.out.kept hg.out (own_not HO20.out (by omega)))
          have HXB2 := Lib.hid (HXB1.out.grown hg.out (by simp))
          clear hg
          go_wp2_with fail
          clear g0 g1 g2
          obtain ⟨b2, hb12⟩ : ∃ b, b = W31.heap.size := ⟨_, rfl⟩
          have hNb2 : N + 1 + 1 < b2 := by rw [hb12]; exact HXC2.out.lt
          have HB2 := Lib.hid hb12
          clear hb12
          obtain ⟨Q2, hQ2⟩ : ∃ Q, Q = R2.filter F2 := ⟨_, rfl⟩
          have HQ2 := Lib.hid hQ2
          clear hQ2
          go_loopw [10] (fun iv wr => ∃ (k on : Nat) (out : List Ro) (ov : Value), k ≤ n3 ∧ iv = .int .i64 k ∧ Hid (out ++ (R2.drop k).filter F2 = Q2) ∧ Hid (on = out.length) ∧ on ≤ k ∧ Hid (wr.ownsRow b2 40 10 ov on (out.flatMap enM)) ∧ Hid (C3 wr (N + 1 + 1) (.slice qo0 qn0 qc0) (.slice qo1 qn1 qc1) (ov)) ∧ Hid (W31.grownBy wr (some (N + 1 + 1)))) (fun iv _ => n3 - (intOf iv).toNat)
          case atStart => exact ⟨0, 0, [], .slice none 0 0, by omega, rfl, Lib.hid (by rw [HQ2.out]; rfl), Lib.hid rfl, by omega, Lib.hid (World.ownsRow_nil _ _ _ _), HXC2, Lib.hid (World.grownBy.refl _ _)⟩
          case round =>
            obtain ⟨k, on, out, ov, hk, rfl, hq, hol, hon, hown, hx5, hg⟩ := hrel
            obtain ⟨ao, ac, rfl⟩ := row_form hown.out
            have hbz : b2 ≤ wr.heap.size := by rw [HB2.out]; exact hg.out.size
            have hA := Lib.hid (HXA2.out.grown hg.out (by simp; omega))
            have hBw := Lib.hid (show Below w.heap.size w wr from HBW2.out.grown hg.out HBW2.out.size (fun j hj => by cases hj; rw [← HN.out]; omega))
            have HMR := Lib.hid (HM2.out.below hBw.out)
            obtain ⟨-, g0, g1, g2, -⟩ := hA.out
            by_cases hlt : k < n3
            · have hkr : k < R2.length := by have := HEN.out.2.2; omega
              obtain ⟨x, hx⟩ : ∃ x, R2[k]? = some x := ⟨_, List.getElem?_eq_getElem hkr⟩
              have hxe : R2[k] = x := (List.getElem?_eq_some_iff.1 hx).2
              have hst := hq.out
              rw [List.drop_eq_getElem_cons hkr, hxe, List.filter_cons] at hst
              obtain ⟨xb, xoff, hao, hat0⟩ := HM2.out.at_ hx
              cases hao
              have hxl : xb < w.heap.size := hat0.lt
              have hat := hat0.below hBw.out
              have hov := HMR.out.over x (List.mem_of_getElem? hx)
              obtain ⟨xo, xc, xe, -, -⟩ := Over.form hov
              clear hat0
              have HST := Lib.hid hst
              have HXE := Lib.hid xe
              have HAT := Lib.hid hat
              obtain ⟨-, -, -, a2, a3, -, -, -, -, -, -⟩ := hat
              have j0 : (0 : Int) ≤ (k : Int) := by omega
              have j1 : (k : Int) < (n3 : Int) := by omega
              clear hx hxe hst hov xe hkr
              go_upto_region 15 with fail
              go_cut [118] (fun cc wx => cc = .bool (F2 x) ∧ wr = wx)
              case first =>
                cases q1 : Op.bytesLess x.1.key.toList fr.toList
                all_goals cases q2 : tt.toList.isEmpty
                all_goals cases q3 : Op.bytesLess x.1.key.toList tt.toList
                all_goals
                  go_wp2_with fail
                  go_meet
                  exact ⟨by rw [HFD2.out]; unfold inKey; simp [q1, q2, q3], rfl⟩
              case rest =>
                obtain ⟨rfl, rfl⟩ := hcut
                obtain ⟨W6, hW6⟩ : ∃ W : World, W = wr := ⟨_, rfl⟩
                have hb : Below wr.heap.size wr W6 := by rw [hW6]; exact Below.refl _ _
                rw [← hW6]
                clear hW6
                have HO6 := Lib.hid (row_below hown.out hb)
                have HX6 := Lib.hid (hx5.out.below hb)
                have HA6 := Lib.hid (hA.out.below hb)
                have HT6 := Lib.hid (HAT.out.below hb)
                have HG6 := Lib.hid (grown_under hg.out hb)
                have hbz6 : b2 ≤ W6.heap.size := Nat.le_trans hbz hb.size
                clear hb a2 a3 g0 g1 g2 hown hx5 hA hg HAT HMR hBw
                cases hFx : F2 x
                · have HS2 := Lib.hid (show out ++ (R2.drop (k + 1)).filter F2 = Q2 from by
                    have h := HST.out
                    rw [if_neg (by rw [hFx]; exact Bool.false_ne_true)] at h
                    exact h)
                  go_wp2_with fail
                  go_roundw
                  case rel => exact ⟨k + 1, on, out, _, by omega, by go_num, HS2, hol, by omega, HO6, HX6, HG6⟩
                  case measure => simp [intOf]; omega
                · have HS2 := Lib.hid (show (out ++ [x]) ++ (R2.drop (k + 1)).filter F2 = Q2 from by
                    have h := HST.out
                    rw [if_pos hFx] at h
                    rw [← h]; simp)
                  have hcm : ∀ a b, W6.grownBy a (Value.slice ao on ac).ownBlock → Below a.heap.size a b → W6.grownBy b (Value.slice ao on ac).ownBlock := fun a b h hb => grown_under h hb
                  have hpr : ∀ (j : Nat) (a b : World), (j = 8 → (fun W => W.ownsRow b2 40 10 (.slice ao on ac) on (out.flatMap enM)) a) → Below a.heap.size a b → (j = 8 → (fun W => W.ownsRow b2 40 10 (.slice ao on ac) on (out.flatMap enM)) b) := fun j a b h hb e => row_below (h e) hb
                  have HLT := Lib.hid (show ∀ j, (Value.slice ao on ac).ownBlock = some j → b2 ≤ j ∧ j < W6.heap.size from fun j hj => HO6.out.lt j hj)
                  have HKX := Lib.hid (fun (W : World) (hc : W6.grownBy W (Value.slice ao on ac).ownBlock) => HX6.out.grown hc (fun e => by have := (HLT.out _ e).1; omega))
                  have HKA := Lib.hid (fun (W : World) (hc : W6.grownBy W (Value.slice ao on ac).ownBlock) => HA6.out.grown hc (fun e => by have := (HLT.out _ e).1; omega))
                  have HKT := Lib.hid (fun (W : World) (hc : W6.grownBy W (Value.slice ao on ac).ownBlock) => mat_grown HT6.out hc (fun e => by have := (HLT.out _ e.symm).1; rw [← HN.out] at hxl; omega))
                  go_upto_region 16 with fail
                  obtain ⟨W0, hW0⟩ : ∃ W : World, W = W6 := ⟨_, rfl⟩
                  have HG0 := Lib.hid (show W6.grownBy W0.drew (Value.slice ao on ac).ownBlock from by rw [hW0]; exact hcm _ _ (World.grownBy.refl _ _) (Below.refl _ _).drew)
                  have HP0 := Lib.hid (show W0.drew.ownsRow b2 40 10 (.slice ao on ac) on (out.flatMap enM) from by rw [hW0]; exact row_below HO6.out (Below.refl _ _).drew)
                  rw [← hW0]
                  clear hW0
                  refine RegLin.wp_region_lin (RegLin.useL [(7, 8)]) (fun W => W6.grownBy W (Value.slice ao on ac).ownBlock) (fun j W => j = 8 → (fun W => W.ownsRow b2 40 10 (.slice ao on ac) on (out.flatMap enM)) W) 10 [false, false, false, false, false, false, false, false, false, false, false, false, false, false, false, false, false, false, false, false, false, false, false, false, false, false, false, false, false, false, false, false, false, false, false, false, false, false, false, false, false, false, false, false, false, false, false, false, false, false, false, false, false, false, false, false, false, false, false, false, false, false, false, false, false, false, false, false, false, false, false, false, false, false, false, false, false, false, false, false, false, false, false, false, false, false, false, false, false, false, false, false, false, false, false, false, false, false, false, false, false, false, false, false, false, false, false, false, false, false, false, false, false, false, false, false, false, false, false, true, true, true, true, true, true, true, true, true, true, false]
                    [sLit (.pointer (some ⟨N + 1 + 1, 2, none⟩)),
    sLit (.slice ao on ac),
    sLit (.pointer (some ⟨N, 2, none⟩)),
    sLit (.slice (some ⟨xb, xoff, none⟩) n3 k3),
    sLit (.int .i64 k),
    sLit (.pointer (some ⟨xb, xoff + k * 10, none⟩)),
    sLit (.agg #[.int .i64 x.1.table, .int .i64 x.1.kind, .string x.1.key, .string x.1.fin, .string x.1.val, .int .i64 x.1.expiry, .int .i64 x.1.at_.p, .int .i64 x.1.at_.l, .int .i64 x.1.at_.w, .slice xo x.1.over.length xc]),
    sNewM x,
    sOne (fun v W => W.ownsRow b2 40 10 v (on + 1) ((out ++ [x]).flatMap enM)) (fun _ _ _ h hb => row_below h hb),
    sLit (.pointer (some ⟨N + 1 + 1, 2, none⟩))] (HG0.out) (fun j _ _ => HP0.out) (by kernel_rfl) (by kernel_rfl) (by kernel_rfl) (by kernel_rfl) (fun F hF => ?_)
                  simp only [over, overL, Nat.reduceAdd] at hF
                  obtain rfl := funext hF
                  clear hF
                  refine ⟨⟨?_, ?_, ?_, ?_, ?_, ?_, ?_, ?_, ?_, ?_, trivial⟩, ?_⟩
                  · intro V W hc hp hd K hK _
                    clear hd
                    go_wp2_with fail
                    refine hK _ _ ?_ ?_ ?_
                    · rfl
                    · exact RegLin.keeps_below hcm hpr hc (Below.refl _ _)
                    · exact rfl
                  · intro V W hc hp hd K hK _
                    have h0 : (V 119) = .pointer (some ⟨N + 1 + 1, 2, none⟩) := hd 0 (by decide) (by kernel_rfl) (RegLin.useL_ok (by kernel_rfl))
                    clear hd
                    obtain ⟨-, s0, s1, s2, -⟩ := HKX.out W hc
                    go_wp2_with fail
                    refine hK _ _ ?_ ?_ ?_
                    · rfl
                    · exact RegLin.keeps_below hcm hpr hc (Below.refl _ _)
                    · exact rfl
                  · intro V W hc hp hd K hK _
                    clear hd
                    go_wp2_with fail
                    refine hK _ _ ?_ ?_ ?_
                    · rfl
                    · exact RegLin.keeps_below hcm hpr hc (Below.refl _ _)
                    · exact rfl
                  · intro V W hc hp hd K hK _
                    have h2 : (V 121) = .pointer (some ⟨N, 2, none⟩) := hd 2 (by decide) (by kernel_rfl) (RegLin.useL_ok (by kernel_rfl))
                    clear hd
                    obtain ⟨-, g0, g1, g2, -⟩ := HKA.out W hc
                    go_wp2_with fail
                    refine hK _ _ ?_ ?_ ?_
                    · rfl
                    · exact RegLin.keeps_below hcm hpr hc (Below.refl _ _)
                    · exact rfl
                  · intro V W hc hp hd K hK _
                    clear hd
                    go_wp2_with fail
                    refine hK _ _ ?_ ?_ ?_
                    · rfl
                    · exact RegLin.keeps_below hcm hpr hc (Below.refl _ _)
                    · exact rfl
                  · intro V W hc hp hd K hK _
                    have h3 : (V 122) = .slice (some ⟨xb, xoff, none⟩) n3 k3 := hd 3 (by decide) (by kernel_rfl) (RegLin.useL_ok (by kernel_rfl))
                    have h4 : (V 123) = .int .i64 k := hd 4 (by decide) (by kernel_rfl) (RegLin.useL_ok (by kernel_rfl))
                    clear hd
                    go_wp2_with fail
                    refine hK _ _ ?_ ?_ ?_
                    · rfl
                    · exact RegLin.keeps_below hcm hpr hc (Below.refl _ _)
                    · exact rfl
                  · intro V W hc hp hd K hK _
                    have h5 : (V 124) = .pointer (some ⟨xb, xoff + k * 10, none⟩) := hd 5 (by decide) (by kernel_rfl) (RegLin.useL_ok (by kernel_rfl))
                    clear hd
                    obtain ⟨-, m0, m1, m2, m3, m4, m5, m6, m7, m8, m9⟩ := HKT.out W hc
                    rw [HXE.out] at m9
                    go_wp2_with fail
                    refine hK _ _ ?_ ?_ ?_
                    · rfl
                    · exact RegLin.keeps_below hcm hpr hc (Below.refl _ _)
                    · exact rfl
                  · intro V W hc hp hd K hK _
                    have h6 : (V 125) = .agg #[.int .i64 x.1.table, .int .i64 x.1.kind, .string x.1.key, .string x.1.fin, .string x.1.val, .int .i64 x.1.expiry, .int .i64 x.1.at_.p, .int .i64 x.1.at_.l, .int .i64 x.1.at_.w, .slice xo x.1.over.length xc] := hd 6 (by decide) (by kernel_rfl) (RegLin.useL_ok (by kernel_rfl))
                    clear hd
                    have HCC := Lib.hid hc
                    clear hc hp
                    go_wp2_with fail
                    refine hK _ _ ?_ ?_ ?_
                    · rfl
                    · exact RegLin.keeps_below hcm hpr HCC.out ((Below.refl _ _).alloc (Nat.le_refl _) _)
                    · exact ⟨_, rfl, by simp, new_mut W x xo xc HXE.out⟩
                  · intro V W hc hp hd K hK _
                    have h1 : (V 120) = .slice ao on ac := hd 1 (by decide) (by kernel_rfl) (RegLin.useL_ok (by kernel_rfl))
                    have h7 : ∃ g, (V 126) = .slice (some ⟨g, 0, none⟩) 1 1 ∧ g < W.heap.size ∧ ∀ j u, (enM x)[j]? = some u → W.cell? ⟨g, j, none⟩ = some u := hd 7 (by decide) (by kernel_rfl) (RegLin.useL_ok (by kernel_rfl))
                    clear hd
                    have HA := Lib.hid (hp rfl)
                    obtain ⟨gn, e7, hgl, hgc⟩ := h7
                    have ea := h1
                    have hbw : b2 ≤ W.heap.size := Nat.le_trans hbz6 hc.size
                    have HCC := Lib.hid hc
                    clear hc hp
                    go_wp2_with (at_builtin; refine wpList_append_own_loc rfl (.tmp 120) (.tmp 126) 22 rfl b2 40 i0 zeroM zMM 120 Tryz.underlying22 HI.out.1 HI.out.2.1 rfl HI.out.2.2.1 HI.out.2.2.2 (by decide) (.slice ao on ac) on (out.flatMap enM) (by first | rfl | exact ea) HA.out ⟨gn, 0, none⟩ 1 1 (enM x) (by first | rfl | exact e7) (by decide) rfl (news_mut hgc) (enM_one x HXE.out) (by unfold maxLen; omega) (by omega) hbw ?_)
                    intro v1 w1 g1 g2 g3
                    have G1 := Lib.hid (show w1.ownsRow b2 40 10 v1 (on + 1) ((out ++ [x]).flatMap enM) from by rw [List.flatMap_append, List.flatMap_singleton]; exact g1)
                    have G2 := Lib.hid (show W6.grownBy w1 (Value.slice ao on ac).ownBlock from HCC.out.andThen g2 (fun j hj => Or.inr hj))
                    clear g1 g2 g3
                    go_wp2_with fail
                    refine hK _ _ ?_ ?_ ?_
                    · rfl
                    · refine RegLin.keeps_by G2.out (by kernel_rfl) (fun j hj hne hl h => ?_)
                      match j, hj, hne, hl, h with
                      | 0, _, _, _, h => exact h
                      | 1, _, _, _, h => exact h
                      | 2, _, _, _, h => exact h
                      | 3, _, _, _, h => exact h
                      | 4, _, _, _, h => exact h
                      | 5, _, _, _, h => exact h
                      | 6, _, _, _, h => exact h
                      | 7, _, _, hl, _ => exact Bool.noConfusion (hl.symm.trans (show RegLin.liveB _ 10 [(7, 8)] 8 7 = false from by kernel_rfl))
                      | 8, _, hne, _, _ => exact absurd rfl hne
                      | 9, _, _, hl, _ => exact Bool.noConfusion (hl.symm.trans (show RegLin.liveB _ 10 [(7, 8)] 8 9 = false from by kernel_rfl))
                      | j + 10, hj, _, _, _ => exact absurd hj (by omega)
                    · exact G1.out
                  · intro V W hc hp hd K hK _
                    clear hd
                    go_wp2_with fail
                    refine hK _ _ ?_ ?_ ?_
                    · rfl
                    · exact RegLin.keeps_below hcm hpr hc (Below.refl _ _)
                    · exact rfl
                  · intro V W hc hd
                    have h8 : W.ownsRow b2 40 10 (V 127) (on + 1) ((out ++ [x]).flatMap enM) := hd 8 (by decide) rfl
                    have h9 : (V 128) = .pointer (some ⟨N + 1 + 1, 2, none⟩) := hd 9 (by decide) rfl
                    clear hd
                    simp only [List.drop_succ_cons, List.drop_zero]
                    have HC9 := Lib.hid hc
                    have H9 := Lib.hid h8
                    obtain ⟨bo, bc, e9⟩ := row_form h8
                    have HX9 := Lib.hid (HKX.out W hc)
                    obtain ⟨-, s0, s1, s2, f0, f1, f2⟩ := HX9.out
                    clear h8 hc
                    rw [e9] at H9
                    have HX10 := Lib.hid (c3_set2 HX9.out (.slice bo (on + 1) bc))
                    have HO10 := Lib.hid (show (W.setCell ⟨N + 1 + 1, 2, none⟩ (.slice bo (on + 1) bc)).ownsRow b2 40 10 (.slice bo (on + 1) bc) (on + 1) ((out ++ [x]).flatMap enM) from H9.out.kept (grown_cell W (N + 1 + 1) 2 (.slice bo (on + 1) bc)) (own_not H9.out (by omega)))
                    have HG10 := Lib.hid (show W31.grownBy (W.setCell ⟨N + 1 + 1, 2, none⟩ (.slice bo (on + 1) bc)) (some (N + 1 + 1)) from (grown_then HG6.out HC9.out (fun j hj => by have := (HLT.out j hj).1; rw [← HB2.out]; omega)).andThen (grown_cell W (N + 1 + 1) 2 _) (fun j hj => Or.inr hj))
                    go_wp2_with fail
                    go_roundw
                    case rel => exact ⟨k + 1, on + 1, out ++ [x], _, by omega, by go_num, HS2, Lib.hid (by have := hol.out; simp; omega), by omega, HO10, HX10, HG10⟩
                    case measure => simp [intOf]; omega
            · obtain rfl : k = n3 := by omega
              have HOUT := Lib.hid (show out = Q2 from by have h := hq.out; rw [List.drop_of_length_le (by have := HEN.out.2.2; omega)] at h; simpa using h)
              have HSUB2 := Lib.hid (show ∀ y ∈ Q2, y ∈ R2 from fun y hy => by rw [HQ2.out] at hy; exact (List.mem_filter.1 hy).1)
              obtain ⟨qo2, rfl⟩ : ∃ o, o = ao := ⟨_, rfl⟩
              obtain ⟨qc2, rfl⟩ : ∃ o, o = ac := ⟨_, rfl⟩
              obtain ⟨qn2, rfl⟩ : ∃ o, o = on := ⟨_, rfl⟩
              have HO22 := Lib.hid (show wr.ownsRow b2 40 10 (.slice qo2 qn2 qc2) Q2.length (Q2.flatMap enM) from by rw [← HOUT.out, ← hol.out]; exact hown.out)
              clear hq hol hown HOUT hon hbz HMR hlt hk
              obtain ⟨W32, hWq⟩ : ∃ W : World, W = wr := ⟨_, rfl⟩
              rw [← hWq] at hx5 hg hA hBw HO22 g0 g1 g2 ⊢
              clear hWq
              have HXC3 := hx5
              have HXA3 := hA
              have HBW3 := hBw
              clear hx5 hA hBw
              have HO20 := Lib.hid (HO20.out.kept hg.out (own_not HO20.out (by omega)))
              have HO21 := Lib.hid (HO21.out.kept hg.out (own_not HO21.out (by omega)))
              have HXB3 := Lib.hid (HXB2.out.grown hg.out (by simp))
              clear hg
              obtain ⟨-, s0, s1, s2, -⟩ := HXC3.out
              obtain ⟨-, t0, t1, t2, f0, f1, f2⟩ := HXB3.out
              go_wp2_with fail
              obtain ⟨-, u0, u1, u2, -⟩ := c3_put HXB3.out (.slice qo0 qn0 qc0) (.slice qo1 qn1 qc1) (.slice qo2 qn2 qc2)
              refine bodyPost_ret (v := .agg #[.slice qo0 qn0 qc0, .slice qo1 qn1 qc1, .slice qo2 qn2 qc2]) (by simp [results, Tryz.f8, go_sem, u0, u1, u2]) rfl ?_
              have hl : Lies W32 (.slice qo0 qn0 qc0) (.slice qo1 qn1 qc1) (.slice qo2 qn2 qc2) ⟨(R0.filter F0).map (·.1), (R1.filter F1).map (·.1), (R2.filter F2).map (·.1)⟩ := by
                rw [← HQ0.out, ← HQ1.out, ← HQ2.out]
                exact ⟨⟨Q0, rfl, Lst.owned enM_len (by decide) rfl HO20.out, fun y hy => (HM0.out.below HBW3.out).over y (HSUB0.out y hy)⟩, ⟨Q1, rfl, Lst.owned enM_len (by decide) rfl HO21.out, fun y hy => (HM1.out.below HBW3.out).over y (HSUB1.out y hy)⟩, ⟨Q2, rfl, Lst.owned enM_len (by decide) rfl HO22.out, fun y hy => (HM2.out.below HBW3.out).over y (HSUB2.out y hy)⟩⟩
              exact ⟨_, rfl, (hl.plain3 (plain3 HXB3.out _ _ _)).is, c3_put_below HBW3.out (by rw [← HN.out]; omega) _ _ _⟩
end Go.Proofs.YtmjelcjdfamikaaGreatDoor.Rpl

namespace Go.Proofs.YtmjelcjdfamikaaGreatDoor.Rpl
open Go.RowKit Go.Proofs.YtmjelcjdfamikaaGreatDoor.Spare Go.Proofs.YtmjelcjdfamikaaGreatDoor.RegInv Go.Proofs.YtmjelcjdfamikaaGreatDoor.Mut
set_option linter.unusedSectionVars false
variable [Inhabited Lim]

theorem copied_base {w : World} {v : Value} {R : List Ro} {base b0 : Nat} (h : Copied w v R base) (hb : b0 ≤ base) : Copied w v R b0 := ⟨own_base h.row hb, fun x hx => own_base (h.over x hx) hb⟩
/-- A row of its own, of what is of these keys. -/
def sOwn (fr tt : ByteArray) (b0 : Nat) (R : List Ro) : RSpec := sOne (fun v W => ∃ K, Copied W v K b0 ∧ K.map (·.1) = (R.map (·.1)).filter (fun m => inKey fr tt m.key)) (fun _ _ _ h hb => by
  obtain ⟨K, h1, h2⟩ := h
  exact ⟨K, h1.below hb, h2⟩)
/-- An empty content's variable. -/
def sZero3 (b0 : Nat) : RSpec := sOne (fun v W => ∃ k, v = .pointer (some ⟨k, 0, none⟩) ∧ C3 W k (.slice none 0 0) (.slice none 0 0) (.slice none 0 0) ∧ b0 ≤ k ∧ ∃ cs, W.heap[k]? = some (.cells cs 26)) (fun _ _ _ h hb => by
  obtain ⟨k, h1, h2, h3, cs, h4⟩ := h
  exact ⟨k, h1, h2.below hb, h3, cs, (hb.block k h2.lt).trans h4⟩)
theorem own_kind {w : World} {b0 k : Nat} {e : TypeId} {sz n : Nat} {v : Value} {xs : List Value} {cs : Array Value} {T : TypeId} (h : w.ownsRow b0 e sz v n xs) (hk : w.heap[k]? = some (.cells cs T)) (hne : e ≠ T) : v.ownBlock = none ∨ v.ownBlock ≠ some k := by
  rcases h.2 with ⟨rfl, _⟩ | ⟨g, cap, cur, rfl, _, hg, _⟩
  · exact Or.inl rfl
  refine Or.inr fun e => ?_
  have e : g = k := by simpa [Value.ownBlock] using e
  subst e
  have := hg.symm.trans hk
  simp at this
  exact hne this.2
theorem copied_kept {w w' : World} {b0 k : Nat} {v : Value} {R : List Ro} {cs : Array Value} (h : Copied w v R b0) (hk : w.heap[k]? = some (.cells cs 26)) (hg : w.grownBy w' (some k)) : Copied w' v R b0 :=
  ⟨h.row.kept hg (own_kind h.row hk (by decide)), fun x hx => (h.over x hx).kept hg (own_kind (h.over x hx) hk (by decide))⟩
theorem InAt.grown1 {w w' : World} {k1 k2 k3 k : Nat} {fr tt : ByteArray} (h : InAt w k1 k2 k3 fr tt) (hg : w.grownBy w' (some k)) (h1 : k ≠ k1) (h2 : k ≠ k2) (h3 : k ≠ k3) : InAt w' k1 k2 k3 fr tt :=
  h.grown hg (fun r e => by injection e with e; subst e; exact ⟨h1, h2, h3⟩)
theorem copy_at (x : Ro) (w : World) {xo : Option Addr} {xc : Nat} (hxe : x.2 = .slice xo x.1.over.length xc) (hx : Over w x) (h1 : x.1.over.length ≤ 1000000) : Calls Tryz.prog 18 #[.agg #[.int .i64 x.1.table, .int .i64 x.1.kind, .string x.1.key, .string x.1.fin, .string x.1.val, .int .i64 x.1.expiry, .int .i64 x.1.at_.p, .int .i64 x.1.at_.l, .int .i64 x.1.at_.w, .slice xo x.1.over.length xc]] w (CopyP w x) := by
  have h := copy_any x w hx h1
  unfold vM at h
  rw [hxe] at h
  exact h
def sCopy (b : Nat) (x : Ro) : RSpec := sOne (fun v W => ∃ y : Ro, v = vM y ∧ y.1 = x.1 ∧ W.ownsRow b 37 3 y.2 y.1.over.length (y.1.over.flatMap enS)) (fun _ _ _ h hb => by
  obtain ⟨y, h1, h2, h3⟩ := h
  exact ⟨y, h1, h2, row_below h3 hb⟩)
def sNewC (b : Nat) (x : Ro) : RSpec := sOne (fun v W => ∃ (g : Nat) (y : Ro), v = .slice (some ⟨g, 0, none⟩) 1 1 ∧ g < W.heap.size ∧ (∀ j u, (enM y)[j]? = some u → W.cell? ⟨g, j, none⟩ = some u) ∧ y.1 = x.1 ∧ W.ownsRow b 37 3 y.2 y.1.over.length (y.1.over.flatMap enS)) (fun _ _ _ h hb => by
  obtain ⟨g, y, h1, h2, h3, h4, h5⟩ := h
  exact ⟨g, y, h1, Nat.lt_of_lt_of_le h2 hb.size, fun j u hu => (World.cell?_of_block (a := ⟨g, j, none⟩) (hb.block g h2)).trans (h3 j u hu), h4, row_below h5 hb⟩)
def sMore (b : Nat) (out : List Ro) (on : Nat) (x : Ro) : RSpec := sOne (fun v W => ∃ y : Ro, W.ownsRow b 40 10 v (on + 1) ((out ++ [y]).flatMap enM) ∧ y.1 = x.1 ∧ W.ownsRow b 37 3 y.2 y.1.over.length (y.1.over.flatMap enS)) (fun _ _ _ h hb => by
  obtain ⟨y, h1, h2, h3⟩ := h
  exact ⟨y, row_below h1 hb, h2, row_below h3 hb⟩)

set_option maxHeartbeats 8000000 in
set_option maxRecDepth 100000 in
theorem part_any {c : Con} {n : Nat} {v : Value} {w : World} (fr tt : ByteArray) (hv : IsC c v w) (h : Mut.Good c n) (hn : n ≤ 1000) :
    Calls Tryz.prog 6 #[v, .string fr, .string tt] w (RetC (partF fr tt c) w) := by
  obtain ⟨o1, n1, k1, o2, n2, k2, o3, n3, k3, rfl, hlc⟩ := hv.form
  obtain ⟨R0, hR0, hM0⟩ := hlc.cells
  obtain ⟨R1, hR1, hM1⟩ := hlc.wipes
  obtain ⟨R2, hR2, hM2⟩ := hlc.sibs
  have e0 := hM0.row.len
  have e1 := hM1.row.len
  have e2 := hM2.row.len
  have hO := h.okc.len
  have hal : c.all.length = n1 + n2 + n3 := by rw [e0, e1, e2]; unfold Con.all; rw [← hR0, ← hR1, ← hR2]; simp; omega
  have hov : ∀ x, (x ∈ R0 ∨ x ∈ R1 ∨ x ∈ R2) → x.1.over.length ≤ 1000000 := fun x hx => by
    have hm : x.1 ∈ c.all := Con.mem_all.2 (by
      rcases hx with hx | hx | hx
      · exact Or.inl (by rw [← hR0]; exact List.mem_map.2 ⟨x, hx, rfl⟩)
      · exact Or.inr (Or.inl (by rw [← hR1]; exact List.mem_map.2 ⟨x, hx, rfl⟩))
      · exact Or.inr (Or.inr (by rw [← hR2]; exact List.mem_map.2 ⟨x, hx, rfl⟩)))
    have := (small_right (h.okc.right x.1 hm)).over
    omega
  have HM0 := Lib.hid hM0
  have HM1 := Lib.hid hM1
  have HM2 := Lib.hid hM2
  have HOVL := Lib.hid hov
  have HEN := Lib.hid (And.intro e0 (And.intro e1 e2))
  have hb123 : n1 ≤ 1000 ∧ n2 ≤ 1000 ∧ n3 ≤ 1000 := by omega
  obtain ⟨hb1, hb2, hb3⟩ := hb123
  obtain ⟨F1, hF1⟩ : ∃ F : Ro → Bool, F = fun x => reachKey fr tt x.1 := ⟨_, rfl⟩
  have HFIN := Lib.hid (show partF fr tt c = ⟨(R0.map (·.1)).filter (fun m => inKey fr tt m.key), (R1.filter F1).map (·.1), (R2.map (·.1)).filter (fun m => inKey fr tt m.key)⟩ from by
    unfold partF
    rw [← hR0, ← hR1, ← hR2, hF1]
    simp only [List.filter_map]
    rfl)
  rw [HFIN.out]
  have HFD1 := Lib.hid (show ∀ x, F1 x = reachKey fr tt x.1 from fun x => by rw [hF1])
  clear hF1 hlc hv h hO hal e0 e1 e2 hM0 hM1 hM2 hR0 hR1 hR2 HFIN hov
  obtain ⟨i0, hi0, hz0, hz1, hz2⟩ := info_parts Mut.info_M
  have HI := Lib.hid (And.intro hi0 (And.intro hz0 (And.intro hz1 hz2)))
  clear hi0 hz0 hz1 hz2
  obtain ⟨N, hN⟩ : ∃ N, N = w.heap.size := ⟨_, rfl⟩
  obtain ⟨a1, ha1⟩ : ∃ W, W = w.alloc (.cells #[.slice o1 n1 k1, .slice o2 n2 k2, .slice o3 n3 k3] 26) := ⟨_, rfl⟩
  obtain ⟨a2, ha2⟩ : ∃ W, W = a1.alloc (.cells #[.string fr] 9) := ⟨_, rfl⟩
  obtain ⟨a3, ha3⟩ : ∃ W, W = a2.alloc (.cells #[.string tt] 9) := ⟨_, rfl⟩
  obtain ⟨a4, ha4⟩ : ∃ W, W = a3.alloc (.cells #[.slice none 0 0, .slice none 0 0, .slice none 0 0] 26) := ⟨_, rfl⟩
  obtain ⟨WS, hWS⟩ : ∃ W, W = a4.alloc (.cells #[.func (.func 13) #[] #[.pointer (some ⟨N + 1, 0, none⟩), .pointer (some ⟨N + 1 + 1, 0, none⟩)]] 43) := ⟨_, rfl⟩
  have z1 : a1.heap.size = N + 1 := by rw [ha1, hN]; simp
  have z2 : a2.heap.size = N + 1 + 1 := by rw [ha2, ← z1]; simp
  have z3 : a3.heap.size = N + 1 + 1 + 1 := by rw [ha3, ← z2]; simp
  have z4 : a4.heap.size = N + 1 + 1 + 1 + 1 := by rw [ha4, ← z3]; simp
  have z5 : WS.heap.size = N + 1 + 1 + 1 + 1 + 1 := by rw [hWS, ← z4]; simp
  have y5 : Below a4.heap.size a4 WS := by rw [hWS]; exact (Below.refl _ _).alloc (Nat.le_refl _) _
  have y4 : Below a3.heap.size a3 WS := below_then (by rw [ha4]; exact (Below.refl _ _).alloc (Nat.le_refl _) _) (Nat.le_refl _) y5
  have y3 : Below a2.heap.size a2 WS := below_then (by rw [ha3]; exact (Below.refl _ _).alloc (Nat.le_refl _) _) (Nat.le_refl _) y4
  have y2 : Below a1.heap.size a1 WS := below_then (by rw [ha2]; exact (Below.refl _ _).alloc (Nat.le_refl _) _) (Nat.le_refl _) y3
  have y1 : Below w.heap.size w WS := below_then (by rw [ha1]; exact (Below.refl _ _).alloc (Nat.le_refl _) _) (Nat.le_refl _) y2
  have xA : C3 WS N (.slice o1 n1 k1) (.slice o2 n2 k2) (.slice o3 n3 k3) := by
    have h := C3.new w (.slice o1 n1 k1) (.slice o2 n2 k2) (.slice o3 n3 k3)
    rw [← ha1, ← hN] at h
    exact h.below y2
  have xB : C3 WS (N + 1 + 1 + 1) (.slice none 0 0) (.slice none 0 0) (.slice none 0 0) := by
    have h := C3.new a3 (.slice none 0 0) (.slice none 0 0) (.slice none 0 0)
    rw [← ha4, z3] at h
    exact h.below y5
  have xI : InAt WS (N + 1) (N + 1 + 1) (N + 1 + 1 + 1 + 1) fr tt := by
    refine ⟨⟨by omega, by omega, by omega⟩, ?_, ?_, ?_⟩
    · have h := heap_alloc_new a1 (.cells #[.string fr] 9)
      rw [← ha2, z1] at h
      rw [cell_of_row WS (N + 1) 0 _ _ (0, 0) ((y3.block (N + 1) (by omega)).trans h)]; rfl
    · have h := heap_alloc_new a2 (.cells #[.string tt] 9)
      rw [← ha3, z2] at h
      rw [cell_of_row WS (N + 1 + 1) 0 _ _ (0, 0) ((y4.block (N + 1 + 1) (by omega)).trans h)]; rfl
    · have h := heap_alloc_new a4 (.cells #[.func (.func 13) #[] #[.pointer (some ⟨N + 1, 0, none⟩), .pointer (some ⟨N + 1 + 1, 0, none⟩)]] 43)
      rw [← hWS, z4] at h
      rw [cell_of_row WS (N + 1 + 1 + 1 + 1) 0 _ _ (0, 0) h]; rfl
  obtain ⟨b0, hb0⟩ : ∃ b, b = WS.heap.size := ⟨_, rfl⟩
  have HB0 := Lib.hid hb0
  have HNB := Lib.hid (show N + 1 + 1 + 1 + 1 < b0 by rw [hb0]; omega)
  have HY1 := Lib.hid y1
  have HXA := Lib.hid xA
  have HXB := Lib.hid xB
  have HXI := Lib.hid xI
  have HN := Lib.hid hN
  have HMC := Lib.hid (fun (W : World) (hb : Below WS.heap.size WS W) => HXA.out.below hb)
  have HOWN := Lib.hid (fun (W : World) (hb : Below WS.heap.size WS W) => (show Calls Tryz.prog 14 #[.slice o1 n1 k1, .pointer (some ⟨N + 1 + 1 + 1 + 1, 0, none⟩)] W (OwnKP W fr tt R0) ∧ Calls Tryz.prog 14 #[.slice o3 n3 k3, .pointer (some ⟨N + 1 + 1 + 1 + 1, 0, none⟩)] W (OwnKP W fr tt R2) from
    have hbw := below_then HY1.out (Nat.le_refl _) hb
    ⟨own_any _ _ _ fr tt _ R0 W (HXI.out.below hb) (HM0.out.below hbw) (fun x hx => HOVL.out x (Or.inl hx)) (by have := HEN.out.1; omega), own_any _ _ _ fr tt _ R2 W (HXI.out.below hb) (HM2.out.below hbw) (fun x hx => HOVL.out x (Or.inr (Or.inr hx))) (by have := HEN.out.2.2; omega)⟩))
  have HAA := Lib.hid (And.intro ha1 (And.intro ha2 (And.intro ha3 (And.intro ha4 hWS))))
  clear ha1 ha2 ha3 ha4 hWS z1 z2 z3 z4 z5 y1 y2 y3 y4 y5 xA xB xI hb0 hN
  go_enter Tryz.func6, Tryz.ntmps6
  go_upto_region 3 with fail
  rw [← HN.out, ← HAA.out.1, ← HAA.out.2.1, ← HAA.out.2.2.1, ← HAA.out.2.2.2.1, ← HAA.out.2.2.2.2]
  clear HAA
  refine wp_region_told [] 10 [false, false, false, false, false, false, false, false, false, true, false, false, false, false, true, true, true, true, true, true, true, true, true, false, false, false, false, false, false, false, false, false, false, false, false, false, false, false, false, false, false, false, false, false, false, false, false, false, false, false, false, false, false]
    [sLit (.func (.func 14) #[] #[.pointer (some ⟨N + 1 + 1 + 1 + 1, 0, none⟩)]),
    sLit (.pointer (some ⟨N, 0, none⟩)),
    sLit (.slice o1 n1 k1),
    sOwn fr tt b0 R0,
    sLit (.func (.func 14) #[] #[.pointer (some ⟨N + 1 + 1 + 1 + 1, 0, none⟩)]),
    sLit (.pointer (some ⟨N, 2, none⟩)),
    sLit (.slice o3 n3 k3),
    sOwn fr tt b0 R2,
    sFn2 17 21 (fun x y => .agg #[x, .slice none 0 0, y]),
    sZero3 b0] (by kernel_rfl) (by kernel_rfl) (by kernel_rfl) (fun F hF => ?_)
  simp only [over, overL, Nat.reduceAdd] at hF
  obtain rfl := funext hF
  clear hF
  refine ⟨⟨?_, ?_, ?_, ?_, ?_, ?_, ?_, ?_, ?_, ?_, trivial⟩, ?_⟩
  · intro V W hb hd K hK _
    clear hd
    go_wp2_with fail
    refine hK _ _ ?_ ?_ ?_ ?_
    · rfl
    · exact Below.refl _ _
    · exact rfl
    · trivial
  · intro V W hb hd K hK _
    clear hd
    go_wp2_with fail
    refine hK _ _ ?_ ?_ ?_ ?_
    · rfl
    · exact Below.refl _ _
    · exact rfl
    · trivial
  · intro V W hb hd K hK _
    have h1 : (V 15) = .pointer (some ⟨N, 0, none⟩) := hd 1 (by kernel_rfl)
    clear hd
    obtain ⟨-, g0, g1, g2, -⟩ := (HMC.out W hb)
    go_wp2_with fail
    refine hK _ _ ?_ ?_ ?_ ?_
    · rfl
    · exact Below.refl _ _
    · exact rfl
    · trivial
  · intro V W hb hd K hK _
    have h0 : (V 14) = .func (.func 14) #[] #[.pointer (some ⟨N + 1 + 1 + 1 + 1, 0, none⟩)] := hd 0 (by kernel_rfl)
    have h2 : (V 16) = .slice o1 n1 k1 := hd 2 (by kernel_rfl)
    clear hd
    go_wp2_with fail
    refine ((HOWN.out W hb).1).mono ?_
    rintro e w1 ⟨v1, K1, rfl, hk1, hm1, hb1⟩
    obtain ⟨po, pc, rfl⟩ := row_form hk1.row
    have HK1 := Lib.hid (And.intro hk1 hm1)
    clear hk1 hm1
    go_wp2_with fail
    refine hK _ _ ?_ ?_ ?_ ?_
    · rfl
    · exact hb1
    · exact ⟨K1, copied_base HK1.out.1 (Nat.le_trans (by rw [HB0.out]; exact Nat.le_refl _) hb.size), HK1.out.2⟩
    · trivial
  · intro V W hb hd K hK _
    clear hd
    go_wp2_with fail
    refine hK _ _ ?_ ?_ ?_ ?_
    · rfl
    · exact Below.refl _ _
    · exact rfl
    · trivial
  · intro V W hb hd K hK _
    clear hd
    go_wp2_with fail
    refine hK _ _ ?_ ?_ ?_ ?_
    · rfl
    · exact Below.refl _ _
    · exact rfl
    · trivial
  · intro V W hb hd K hK _
    have h5 : (V 19) = .pointer (some ⟨N, 2, none⟩) := hd 5 (by kernel_rfl)
    clear hd
    obtain ⟨-, g0, g1, g2, -⟩ := (HMC.out W hb)
    go_wp2_with fail
    refine hK _ _ ?_ ?_ ?_ ?_
    · rfl
    · exact Below.refl _ _
    · exact rfl
    · trivial
  · intro V W hb hd K hK _
    have h4 : (V 18) = .func (.func 14) #[] #[.pointer (some ⟨N + 1 + 1 + 1 + 1, 0, none⟩)] := hd 4 (by kernel_rfl)
    have h6 : (V 20) = .slice o3 n3 k3 := hd 6 (by kernel_rfl)
    clear hd
    go_wp2_with fail
    refine ((HOWN.out W hb).2).mono ?_
    rintro e w1 ⟨v1, K1, rfl, hk1, hm1, hb1⟩
    obtain ⟨po, pc, rfl⟩ := row_form hk1.row
    have HK1 := Lib.hid (And.intro hk1 hm1)
    clear hk1 hm1
    go_wp2_with fail
    refine hK _ _ ?_ ?_ ?_ ?_
    · rfl
    · exact hb1
    · exact ⟨K1, copied_base HK1.out.1 (Nat.le_trans (by rw [HB0.out]; exact Nat.le_refl _) hb.size), HK1.out.2⟩
    · trivial
  · intro V W hb hd K hK _
    have h3 : ∃ K, Copied W (V 17) K b0 ∧ K.map (·.1) = (R0.map (·.1)).filter (fun m => inKey fr tt m.key) := hd 3 (by kernel_rfl)
    have h7 : ∃ K, Copied W (V 21) K b0 ∧ K.map (·.1) = (R2.map (·.1)).filter (fun m => inKey fr tt m.key) := hd 7 (by kernel_rfl)
    clear hd
    obtain ⟨K3, hk3, -⟩ := h3
    obtain ⟨K7, hk7, -⟩ := h7
    obtain ⟨a3, c3, e3⟩ := row_form hk3.row
    obtain ⟨a7, c7, e7⟩ := row_form hk7.row
    clear hk3 hk7
    go_wp2_with fail
    refine hK _ _ ?_ ?_ ?_ ?_
    · rfl
    · exact Below.refl _ _
    · show _ = Value.agg #[V 17, .slice none 0 0, V 21]
      rw [e3, e7]
      rfl
    · trivial
  · intro V W hb hd K hK _
    clear hd
    go_wp2_with fail
    refine hK _ _ ?_ ?_ ?_ ?_
    · rfl
    · exact (Below.refl _ _).alloc (Nat.le_refl _) _
    · exact ⟨_, rfl, C3.new W _ _ _, Nat.le_trans (by rw [HB0.out]; exact Nat.le_refl _) hb.size, _, heap_alloc_new W _⟩
    · trivial
  · intro V W hb hd hap
    have h3 : ∃ K, Copied W (V 17) K b0 ∧ K.map (·.1) = (R0.map (·.1)).filter (fun m => inKey fr tt m.key) := hd 3 (by decide)
    have h7 : ∃ K, Copied W (V 21) K b0 ∧ K.map (·.1) = (R2.map (·.1)).filter (fun m => inKey fr tt m.key) := hd 7 (by decide)
    have h8 : (V 22) = .agg #[V 17, .slice none 0 0, V 21] := hd 8 (by decide)
    have h9 : ∃ k, (V 9) = .pointer (some ⟨k, 0, none⟩) ∧ C3 W k (.slice none 0 0) (.slice none 0 0) (.slice none 0 0) ∧ b0 ≤ k ∧ ∃ cs, W.heap[k]? = some (.cells cs 26) := hd 9 (by decide)
    clear hd hap
    simp only [List.drop_succ_cons, List.drop_zero]
    obtain ⟨Wq, hWq⟩ : ∃ X : World, X = W := ⟨_, rfl⟩
    subst hWq
    obtain ⟨Vq, hVq⟩ : ∃ X, X = V := ⟨_, rfl⟩
    subst hVq
    obtain ⟨K3, hk3, hm3⟩ := h3
    obtain ⟨K7, hk7, hm7⟩ := h7
    obtain ⟨k9, e9, hz9, hk9, cs9, hcs9⟩ := h9
    obtain ⟨ao3, ac3, e17⟩ := row_form hk3.row
    obtain ⟨ao7, ac7, e21⟩ := row_form hk7.row
    obtain ⟨n0, hn0⟩ : ∃ n, n = K3.length := ⟨_, rfl⟩
    obtain ⟨n7, hn7⟩ : ∃ n, n = K7.length := ⟨_, rfl⟩
    rw [← hn0] at e17
    rw [← hn7] at e21
    rw [e17, e21] at h8
    rw [e17] at hk3
    rw [e21] at hk7
    have HK3 := Lib.hid hk3
    have HK7 := Lib.hid hk7
    have HMM := Lib.hid (And.intro hm3 hm7)
    have HZ9 := Lib.hid hz9
    have HWb := Lib.hid hb
    have HNN := Lib.hid (And.intro hn0 hn7)
    obtain ⟨-, s0, s1, s2, f0, f1, f2⟩ := hz9
    have HCS := Lib.hid hcs9
    clear hk3 hk7 hm3 hm7 hb hn0 hn7 e17 e21 hcs9
    go_upto_region 4 with fail
    have HCB := Lib.hid (c3_put HZ9.out (.slice ao3 n0 ac3) (.slice none 0 0) (.slice ao7 n7 ac7))
    have HGA := Lib.hid (show Wq.grownBy (((Wq.setCell ⟨k9, 0, none⟩ (.slice ao3 n0 ac3)).setCell ⟨k9, 1, none⟩ (.slice none 0 0)).setCell ⟨k9, 2, none⟩ (.slice ao7 n7 ac7)) (some k9) from by
      iterate 3 refine grown_setCell ?_ (Or.inl rfl) _
      exact World.grownBy.refl _ _)
    obtain ⟨Wa, hWa⟩ : ∃ X, X = ((Wq.setCell ⟨k9, 0, none⟩ (.slice ao3 n0 ac3)).setCell ⟨k9, 1, none⟩ (.slice none 0 0)).setCell ⟨k9, 2, none⟩ (.slice ao7 n7 ac7) := ⟨_, rfl⟩
    rw [← hWa] at HCB HGA ⊢
    clear hWa
    obtain ⟨b1, hb1'⟩ : ∃ b, b = Wa.heap.size := ⟨_, rfl⟩
    have HB1 := Lib.hid hb1'
    have HKB := Lib.hid (show k9 < b1 from by rw [hb1']; exact HCB.out.lt)
    have HWB := Lib.hid (show Wq.heap.size ≤ b1 from by rw [hb1']; exact HGA.out.size)
    have HWS := Lib.hid (show Below w.heap.size w Wq from below_then HY1.out (Nat.le_refl _) HWb.out)
    have HNW := Lib.hid (show N + 1 + 1 + 1 + 1 < Wq.heap.size from Nat.lt_of_lt_of_le HNB.out (by rw [HB0.out]; exact HWb.out.size))
    obtain ⟨Q1, hQ1⟩ : ∃ Q, Q = (R1.filter F1).map (·.1) := ⟨_, rfl⟩
    have HQ1 := Lib.hid hQ1
    have HAW := Lib.hid (HXA.out.below HWb.out)
    have HBW := Lib.hid (HXB.out.below HWb.out)
    have HIW := Lib.hid (HXI.out.below HWb.out)
    have HSZ := Lib.hid (show w.heap.size = N from HN.out.symm)
    have aA := (HAW.out.grown HGA.out (fun e => by injection e with e; have := HNB.out; omega))
    obtain ⟨-, g0, g1, g2, -⟩ := aA
    have s0 := HCB.out.c0
    clear hb1' hQ1 s1 s2 f0 f1 f2 s0 HXA HXB HXI HMC HOWN
    go_wp2_with fail
    clear g0 g1 g2
    go_loopw [11, 26] (fun pv iv wr => ∃ (k on : Nat) (out : List Ro) (ov : Value), k ≤ n2 ∧ iv = .int .i64 k ∧ Hid (out.map (·.1) ++ ((R1.drop k).filter F1).map (·.1) = Q1) ∧ Hid (on = out.length) ∧ on ≤ k ∧ Hid (wr.ownsRow b1 40 10 ov on (out.flatMap enM)) ∧ Hid (∀ y ∈ out, wr.ownsRow b1 37 3 y.2 y.1.over.length (y.1.over.flatMap enS)) ∧ Hid (C3 wr k9 (.slice ao3 n0 ac3) ov (.slice ao7 n7 ac7)) ∧ Hid (Wq.grownBy wr (some k9)) ∧ b1 ≤ wr.heap.size) (fun _ iv _ => n2 - (intOf iv).toNat)
    case atStart => exact ⟨0, 0, [], .slice none 0 0, by omega, rfl, Lib.hid (by rw [HQ1.out]; rfl), Lib.hid rfl, by omega, Lib.hid (World.ownsRow_nil _ _ _ _), Lib.hid (fun y hy => by cases hy), HCB, HGA, by rw [HB1.out]; exact Nat.le_refl _⟩
    case round =>
      obtain ⟨k, on, out, ov, hk, rfl, hq, hol, hon, hown, hovr, hx5, hg, hbz⟩ := hrel
      obtain ⟨ao, ac, rfl⟩ := row_form hown.out
      have hI := Lib.hid (HIW.out.grown1 hg.out (by have := HNB.out; omega) (by have := HNB.out; omega) (by have := HNB.out; omega))
      have hBw := Lib.hid (show Below w.heap.size w wr from HWS.out.grown hg.out HWS.out.size (fun j hj => by cases hj; have := HSZ.out; have := HNB.out; omega))
      have HMR := Lib.hid (HM1.out.below hBw.out)
      by_cases hlt : k < n2
      · have hkr : k < R1.length := by have := HEN.out.2.1; omega
        obtain ⟨x, hx⟩ : ∃ x, R1[k]? = some x := ⟨_, List.getElem?_eq_getElem hkr⟩
        have hxe : R1[k] = x := (List.getElem?_eq_some_iff.1 hx).2
        have hst := hq.out
        rw [List.drop_eq_getElem_cons hkr, hxe, List.filter_cons] at hst
        obtain ⟨xb, xoff, hao, hat0⟩ := HM1.out.at_ hx
        cases hao
        have hat := hat0.below hBw.out
        have hov := HMR.out.over x (List.mem_of_getElem? hx)
        have HOVW := HM1.out.over x (List.mem_of_getElem? hx)
        have hxl := HOVL.out x (Or.inr (Or.inl (List.mem_of_getElem? hx)))
        obtain ⟨xo, xc, xe, -, -⟩ := Over.form hov
        clear hat0
        have HST := Lib.hid hst
        have HXE := Lib.hid xe
        have HAT := Lib.hid hat
        have HOV := Lib.hid hov
        obtain ⟨-, m0, m1, m2, m3, m4, m5, m6, m7, m8, m9⟩ := hat
        rw [xe] at m9
        have j0 : (0 : Int) ≤ (k : Int) := by omega
        have j1 : (k : Int) < (n2 : Int) := by omega
        clear hx hxe hst hov xe hkr
        go_upto_region 7 with fail
        have x11 : A0 (wr.alloc (.cells #[.int .i64 x.1.table, .int .i64 x.1.kind, .string x.1.key, .string x.1.fin, .string x.1.val, .int .i64 x.1.expiry, .int .i64 x.1.at_.p, .int .i64 x.1.at_.l, .int .i64 x.1.at_.w, .slice xo x.1.over.length xc] 40)) wr.heap.size x := ⟨by simp, by go_simp, by go_simp, by go_simp, by go_simp, by go_simp, by go_simp, by go_simp, by go_simp, by go_simp, by rw [HXE.out]; go_simp⟩
        obtain ⟨W6, hW6⟩ : ∃ W6 : World, W6 = wr.alloc (.cells #[.int .i64 x.1.table, .int .i64 x.1.kind, .string x.1.key, .string x.1.fin, .string x.1.val, .int .i64 x.1.expiry, .int .i64 x.1.at_.p, .int .i64 x.1.at_.l, .int .i64 x.1.at_.w, .slice xo x.1.over.length xc] 40) := ⟨_, rfl⟩
        have hb : Below wr.heap.size wr W6 := by rw [hW6]; exact (Below.refl _ _).alloc (Nat.le_refl _) _
        rw [← hW6] at x11 ⊢
        clear hW6
        obtain ⟨k11, hk11⟩ : ∃ k, k = wr.heap.size := ⟨_, rfl⟩
        rw [← hk11] at x11 ⊢
        have H11 := Lib.hid x11
        have HI6 := Lib.hid (hI.out.below hb)
        have HO6 := Lib.hid (row_below hown.out hb)
        have HOV6 := Lib.hid (fun y hy => row_below (hovr.out y hy) hb)
        have HX6 := Lib.hid (hx5.out.below hb)
        have HG6 := Lib.hid (grown_under hg.out hb)
        have hbz6 : b1 ≤ W6.heap.size := Nat.le_trans hbz hb.size
        have HXOV := Lib.hid HOVW
        have HB6 := Lib.hid (below_then hBw.out (Nat.le_refl _) hb)
        have HK11 := Lib.hid (show b1 ≤ k11 ∧ k11 < W6.heap.size from ⟨by omega, x11.lt⟩)
        have HOB := Lib.hid (show ∀ j, (Value.slice ao on ac).ownBlock = some j → b1 ≤ j ∧ j < k11 from fun j hj => by rw [hk11]; exact hown.out.lt j hj)
        obtain ⟨-, -, -, a2, a3, -, -, -, -, -, -⟩ := x11
        have d1 := HI6.out.c1
        have d2 := HI6.out.c2
        clear hb HOVW m0 m1 m2 m3 m4 m5 m6 m7 m8 m9 hown hovr hx5 hg hI hk11 HMR hBw HAT HOV hbz
        go_cut [43] (fun cc wx => cc = .bool (F1 x) ∧ W6 = wx)
        case first =>
          cases q1 : Op.bytesLess x.1.fin.toList fr.toList
          all_goals cases q0 : (x.1.fin.toList == fr.toList)
          all_goals cases q2 : tt.toList.isEmpty
          all_goals cases q3 : Op.bytesLess x.1.key.toList tt.toList
          all_goals
            go_wp2_with fail
            go_meet
            exact ⟨by rw [HFD1.out]; unfold reachKey; simp [q1, q0, q2, q3], rfl⟩
        case rest =>
          obtain ⟨rfl, rfl⟩ := hcut
          clear a2 a3 d1 d2
          cases hFx : F1 x
          · have HS2 := Lib.hid (show out.map (·.1) ++ ((R1.drop (k + 1)).filter F1).map (·.1) = Q1 from by
              have h := HST.out
              rw [if_neg (by rw [hFx]; exact Bool.false_ne_true)] at h
              exact h)
            go_wp2_with fail
            go_roundw
            case rel => exact ⟨k + 1, on, out, _, by omega, by go_num, HS2, hol, by omega, HO6, HOV6, HX6, HG6, hbz6⟩
            case measure => simp [intOf]; omega
          · have HS2 := Lib.hid (show ∀ y : Ro, y.1 = x.1 → (out ++ [y]).map (·.1) ++ ((R1.drop (k + 1)).filter F1).map (·.1) = Q1 from fun y hy => by
              have h := HST.out
              rw [if_pos hFx] at h
              rw [← h]; simp [hy])
            have hcm : ∀ a b, W6.grownBy a (Value.slice ao on ac).ownBlock → Below a.heap.size a b → W6.grownBy b (Value.slice ao on ac).ownBlock := fun a b h hb => grown_under h hb
            have hpr : ∀ (j : Nat) (a b : World), (j = 5 → (fun W => W.ownsRow b1 40 10 (.slice ao on ac) on (out.flatMap enM)) a) → Below a.heap.size a b → (j = 5 → (fun W => W.ownsRow b1 40 10 (.slice ao on ac) on (out.flatMap enM)) b) := fun j a b h hb e => row_below (h e) hb
            have HKX := Lib.hid (fun (W : World) (hc : W6.grownBy W (Value.slice ao on ac).ownBlock) => HX6.out.grown hc (fun e => by have := (HOB.out _ e).1; have := HKB.out; omega))
            have HKM := Lib.hid (fun (W : World) (hc : W6.grownBy W (Value.slice ao on ac).ownBlock) => H11.out.grown hc (fun e => by have := (HOB.out _ e).2; omega))
            have HCPY := Lib.hid (fun (W : World) (hc : W6.grownBy W (Value.slice ao on ac).ownBlock) => copy_at x W HXE.out (HXOV.out.below (HB6.out.grown hc HB6.out.size (fun j hj => by have := (HOB.out j hj).1; have := HWB.out; have := HNW.out; have := HSZ.out; omega))) hxl)
            go_upto_region 8 with fail
            obtain ⟨W0, hW0⟩ : ∃ Wq : World, Wq = W6 := ⟨_, rfl⟩
            have HG0 := Lib.hid (show W6.grownBy W0.drew (Value.slice ao on ac).ownBlock from by rw [hW0]; exact hcm _ _ (World.grownBy.refl _ _) (Below.refl _ _).drew)
            have HP0 := Lib.hid (show W0.drew.ownsRow b1 40 10 (.slice ao on ac) on (out.flatMap enM) from by rw [hW0]; exact row_below HO6.out (Below.refl _ _).drew)
            rw [← hW0]
            clear hW0
            refine RegLin.wp_region_lin (RegLin.useL [(3, 4), (4, 5)]) (fun W => W6.grownBy W (Value.slice ao on ac).ownBlock) (fun j W => j = 5 → (fun W => W.ownsRow b1 40 10 (.slice ao on ac) on (out.flatMap enM)) W) 7 [false, false, false, false, false, false, false, false, false, false, false, false, false, false, false, false, false, false, false, false, false, false, false, false, false, false, false, false, false, false, false, false, false, false, false, false, false, false, false, false, false, false, false, false, true, true, true, true, true, true, true, false, false]
              [sLit (.pointer (some ⟨k9, 1, none⟩)),
    sLit (.slice ao on ac),
    sLit (.agg #[.int .i64 x.1.table, .int .i64 x.1.kind, .string x.1.key, .string x.1.fin, .string x.1.val, .int .i64 x.1.expiry, .int .i64 x.1.at_.p, .int .i64 x.1.at_.l, .int .i64 x.1.at_.w, .slice xo x.1.over.length xc]),
    sCopy b1 x,
    sNewC b1 x,
    sMore b1 out on x,
    sLit (.pointer (some ⟨k9, 1, none⟩))] (HG0.out) (fun j _ _ => HP0.out) (by kernel_rfl) (by kernel_rfl) (by kernel_rfl) (by kernel_rfl) (fun F hF => ?_)
            simp only [over, overL, Nat.reduceAdd] at hF
            obtain rfl := funext hF
            clear hF
            refine ⟨⟨?_, ?_, ?_, ?_, ?_, ?_, ?_, trivial⟩, ?_⟩
            · intro V W hc hp hd K hK _
              clear hd
              go_wp2_with fail
              refine hK _ _ ?_ ?_ ?_
              · rfl
              · exact RegLin.keeps_below hcm hpr hc (Below.refl _ _)
              · exact rfl
            · intro V W hc hp hd K hK _
              have h0 : (V 44) = .pointer (some ⟨k9, 1, none⟩) := hd 0 (by decide) (by kernel_rfl) (RegLin.useL_ok (by kernel_rfl))
              clear hd
              obtain ⟨-, s0, s1, s2, -⟩ := HKX.out W hc
              go_wp2_with fail
              refine hK _ _ ?_ ?_ ?_
              · rfl
              · exact RegLin.keeps_below hcm hpr hc (Below.refl _ _)
              · exact rfl
            · intro V W hc hp hd K hK _
              clear hd
              obtain ⟨-, m0, m1, m2, m3, m4, m5, m6, m7, m8, m9⟩ := HKM.out W hc
              rw [HXE.out] at m9
              go_wp2_with fail
              refine hK _ _ ?_ ?_ ?_
              · rfl
              · exact RegLin.keeps_below hcm hpr hc (Below.refl _ _)
              · exact rfl
            · intro V W hc hp hd K hK _
              have h2 : (V 46) = .agg #[.int .i64 x.1.table, .int .i64 x.1.kind, .string x.1.key, .string x.1.fin, .string x.1.val, .int .i64 x.1.expiry, .int .i64 x.1.at_.p, .int .i64 x.1.at_.l, .int .i64 x.1.at_.w, .slice xo x.1.over.length xc] := hd 2 (by decide) (by kernel_rfl) (RegLin.useL_ok (by kernel_rfl))
              clear hd
              have HCC := Lib.hid hc
              clear hc hp
              go_wp2_with fail
              refine (HCPY.out W HCC.out).mono ?_
              rintro e w1 ⟨v1, rfl, ⟨yo, yc, rfl⟩, hov1, hb1⟩
              have HOV1 := Lib.hid hov1
              clear hov1
              go_wp2_with fail
              refine hK _ _ ?_ ?_ ?_
              · rfl
              · exact RegLin.keeps_below hcm hpr HCC.out hb1
              · exact ⟨(x.1, .slice yo x.1.over.length yc), rfl, rfl, own_base HOV1.out (Nat.le_trans hbz6 HCC.out.size)⟩
            · intro V W hc hp hd K hK _
              have h3 : ∃ y : Ro, (V 47) = vM y ∧ y.1 = x.1 ∧ W.ownsRow b1 37 3 y.2 y.1.over.length (y.1.over.flatMap enS) := hd 3 (by decide) (by kernel_rfl) (RegLin.useL_ok (by kernel_rfl))
              clear hd
              obtain ⟨⟨ym, yv⟩, e3, hy1, hy2⟩ := h3
              simp only [] at hy1 hy2
              subst hy1
              obtain ⟨yo, yc, rfl⟩ := row_form hy2
              have HCC := Lib.hid hc
              have HY2 := Lib.hid hy2
              clear hc hp hy2
              unfold vM at e3
              simp only [] at e3
              go_wp2_with fail
              refine hK _ _ ?_ ?_ ?_
              · rfl
              · exact RegLin.keeps_below hcm hpr HCC.out ((Below.refl _ _).alloc (Nat.le_refl _) _)
              · exact ⟨W.heap.size, (x.1, .slice yo x.1.over.length yc), rfl, by simp, new_mut W (x.1, .slice yo x.1.over.length yc) yo yc rfl, rfl, HY2.out.alloc _⟩
            · intro V W hc hp hd K hK _
              have h1 : (V 45) = .slice ao on ac := hd 1 (by decide) (by kernel_rfl) (RegLin.useL_ok (by kernel_rfl))
              have h4 : ∃ (g : Nat) (y : Ro), (V 48) = .slice (some ⟨g, 0, none⟩) 1 1 ∧ g < W.heap.size ∧ (∀ j u, (enM y)[j]? = some u → W.cell? ⟨g, j, none⟩ = some u) ∧ y.1 = x.1 ∧ W.ownsRow b1 37 3 y.2 y.1.over.length (y.1.over.flatMap enS) := hd 4 (by decide) (by kernel_rfl) (RegLin.useL_ok (by kernel_rfl))
              clear hd
              have HA := Lib.hid (hp rfl)
              obtain ⟨gn, y, e4, hgl, hgc, hy1, hy2⟩ := h4
              have ea := h1
              have hbw : b1 ≤ W.heap.size := Nat.le_trans hbz6 hc.size
              have HCC := Lib.hid hc
              have HY2 := Lib.hid hy2
              obtain ⟨yo, yc, hye⟩ := row_form hy2
              clear hc hp hy2
              go_wp2_with (at_builtin; refine wpList_append_own_loc rfl (.tmp 45) (.tmp 48) 22 rfl b1 40 i0 zeroM zMM 120 Tryz.underlying22 HI.out.1 HI.out.2.1 rfl HI.out.2.2.1 HI.out.2.2.2 (by decide) (.slice ao on ac) on (out.flatMap enM) (by first | rfl | exact ea) HA.out ⟨gn, 0, none⟩ 1 1 (enM y) (by first | rfl | exact e4) (by decide) rfl (news_mut hgc) (enM_one y hye) (by unfold maxLen; omega) (by omega) hbw ?_)
              intro v1 w1 g1 g2 g3
              have G1 := Lib.hid (show w1.ownsRow b1 40 10 v1 (on + 1) ((out ++ [y]).flatMap enM) from by rw [List.flatMap_append, List.flatMap_singleton]; exact g1)
              have G2 := Lib.hid (show W6.grownBy w1 (Value.slice ao on ac).ownBlock from HCC.out.andThen g2 (fun j hj => Or.inr hj))
              have G3 := Lib.hid (show w1.ownsRow b1 37 3 y.2 y.1.over.length (y.1.over.flatMap enS) from HY2.out.kept g2 (rows_apart HY2.out HA.out (by decide)))
              clear g1 g2 g3
              go_wp2_with fail
              refine hK _ _ ?_ ?_ ?_
              · rfl
              · refine RegLin.keeps_by G2.out (by kernel_rfl) (fun j hj hne hl h => ?_)
                match j, hj, hne, hl, h with
                | 0, _, _, _, h => exact h
                | 1, _, _, _, h => exact h
                | 2, _, _, _, h => exact h
                | 3, _, _, hl, _ => exact Bool.noConfusion (hl.symm.trans (show RegLin.liveB _ 7 [(3, 4), (4, 5)] 5 3 = false from by kernel_rfl))
                | 4, _, _, hl, _ => exact Bool.noConfusion (hl.symm.trans (show RegLin.liveB _ 7 [(3, 4), (4, 5)] 5 4 = false from by kernel_rfl))
                | 5, _, hne, _, _ => exact absurd rfl hne
                | 6, _, _, hl, _ => exact Bool.noConfusion (hl.symm.trans (show RegLin.liveB _ 7 [(3, 4), (4, 5)] 5 6 = false from by kernel_rfl))
                | j + 7, hj, _, _, _ => exact absurd hj (by omega)
              · exact ⟨y, G1.out, hy1, G3.out⟩
            · intro V W hc hp hd K hK _
              clear hd
              go_wp2_with fail
              refine hK _ _ ?_ ?_ ?_
              · rfl
              · exact RegLin.keeps_below hcm hpr hc (Below.refl _ _)
              · exact rfl
            · intro V W hc hd
              have h5 : ∃ y : Ro, W.ownsRow b1 40 10 (V 49) (on + 1) ((out ++ [y]).flatMap enM) ∧ y.1 = x.1 ∧ W.ownsRow b1 37 3 y.2 y.1.over.length (y.1.over.flatMap enS) := hd 5 (by decide) rfl
              have h6 : (V 50) = .pointer (some ⟨k9, 1, none⟩) := hd 6 (by decide) rfl
              clear hd
              simp only [List.drop_succ_cons, List.drop_zero]
              obtain ⟨y, hy1, hy2, hy3⟩ := h5
              obtain ⟨bo, bc, e9⟩ := row_form hy1
              have HC9 := Lib.hid hc
              have HX9 := Lib.hid (HKX.out W hc)
              obtain ⟨-, s0, s1, s2, f0, f1, f2⟩ := HX9.out
              rw [e9] at hy1
              have HX10 := Lib.hid (HX9.out.set1 (.slice bo (on + 1) bc))
              have HO10 := Lib.hid (show (W.setCell ⟨k9, 1, none⟩ (.slice bo (on + 1) bc)).ownsRow b1 40 10 (.slice bo (on + 1) bc) (on + 1) ((out ++ [y]).flatMap enM) from hy1.kept (grown_cell W k9 1 (.slice bo (on + 1) bc)) (own_not hy1 HKB.out))
              have HV9 := Lib.hid (show ∀ z ∈ out ++ [y], W.ownsRow b1 37 3 z.2 z.1.over.length (z.1.over.flatMap enS) from fun z hz => by
                rcases List.mem_append.1 hz with h | h
                · exact (HOV6.out z h).kept HC9.out (rows_apart (HOV6.out z h) HO6.out (by decide))
                · rw [List.mem_singleton.1 h]; exact hy3)
              have HV10 := Lib.hid (show ∀ z ∈ out ++ [y], (W.setCell ⟨k9, 1, none⟩ (.slice bo (on + 1) bc)).ownsRow b1 37 3 z.2 z.1.over.length (z.1.over.flatMap enS) from fun z hz => (HV9.out z hz).kept (grown_cell W k9 1 (.slice bo (on + 1) bc)) (own_not (HV9.out z hz) HKB.out))
              have HG10 := Lib.hid (show Wq.grownBy (W.setCell ⟨k9, 1, none⟩ (.slice bo (on + 1) bc)) (some k9) from (grown_then HG6.out HC9.out (fun j hj => by have := (HOB.out j hj).1; have := HWB.out; omega)).andThen (grown_cell W k9 1 _) (fun j hj => Or.inr hj))
              have HZ10 := Lib.hid (show b1 ≤ (W.setCell ⟨k9, 1, none⟩ (.slice bo (on + 1) bc)).heap.size from by
                have := HC9.out.size
                simp; omega)
              have HY10 := Lib.hid (HS2.out y hy2)
              clear hy1 hy2 hy3 hc
              go_wp2_with fail
              go_roundw
              case rel => exact ⟨k + 1, on + 1, out ++ [y], _, by omega, by go_num, HY10, Lib.hid (by have := hol.out; simp; omega), by omega, HO10, HV10, HX10, HG10, HZ10.out⟩
              case measure => simp [intOf]; omega
      · obtain rfl : k = n2 := by omega
        have HOUT := Lib.hid (show out.map (·.1) = Q1 from by have h := hq.out; rw [List.drop_of_length_le (by have := HEN.out.2.1; omega)] at h; simpa using h)
        have HOE := Lib.hid (show wr.ownsRow b1 40 10 (.slice ao on ac) out.length (out.flatMap enM) from by rw [← hol.out]; exact hown.out)
        have HXR := Lib.hid (HBW.out.grown hg.out (fun e => by injection e with e; have := HNB.out; omega))
        have HK3E := Lib.hid (copied_kept HK3.out HCS.out hg.out)
        have HK7E := Lib.hid (copied_kept HK7.out HCS.out hg.out)
        obtain ⟨-, s0, s1, s2, -⟩ := hx5.out
        obtain ⟨-, t0, t1, t2, f0, f1, f2⟩ := HXR.out
        go_wp2_with fail
        obtain ⟨-, u0, u1, u2, -⟩ := c3_put HXR.out (.slice ao3 n0 ac3) (.slice ao on ac) (.slice ao7 n7 ac7)
        refine bodyPost_ret (v := .agg #[.slice ao3 n0 ac3, .slice ao on ac, .slice ao7 n7 ac7]) (by simp [results, Tryz.f6, go_sem, u0, u1, u2]) rfl ?_
        have hl : Lies wr (.slice ao3 n0 ac3) (.slice ao on ac) (.slice ao7 n7 ac7) ⟨(R0.map (·.1)).filter (fun m => inKey fr tt m.key), (R1.filter F1).map (·.1), (R2.map (·.1)).filter (fun m => inKey fr tt m.key)⟩ := by
          rw [← HMM.out.1, ← HMM.out.2, ← HQ1.out]
          exact ⟨⟨K3, rfl, HK3E.out.mrow⟩, ⟨out, HOUT.out, Lst.owned enM_len (by decide) rfl HOE.out, fun y hy => Over.own (hovr.out y hy)⟩, ⟨K7, rfl, HK7E.out.mrow⟩⟩
        exact ⟨_, rfl, (hl.plain3 (plain3 HXR.out _ _ _)).is, c3_put_below hBw.out (by rw [HSZ.out]; omega) _ _ _⟩
end Go.Proofs.YtmjelcjdfamikaaGreatDoor.Rpl
