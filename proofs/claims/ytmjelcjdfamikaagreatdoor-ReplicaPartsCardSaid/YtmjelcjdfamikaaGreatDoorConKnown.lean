/- ConSplit, RepsEx, RefSplit, ConFun: in one text. -/
import Derived.Test.YtmjelcjdfamikaaGreatDoorConMore
import Derived.Test.YtmjelcjdfamikaaGreatDoorRegApp
import Derived.Test.YtmjelcjdfamikaaGreatDoorConStore
import Derived.Test.YtmjelcjdfamikaaGreatDoorRefState
set_option linter.unusedSimpArgs false
set_option linter.unusedVariables false
/- The walks of state.Content's split, Above, Upto (layer 8). -/
namespace Go.Proofs.YtmjelcjdfamikaaGreatDoor.Mut
open Go.RowKit Go.Sort Go.Proofs.YtmjelcjdfamikaaGreatDoor.Ord Go.Proofs.YtmjelcjdfamikaaGreatDoor.RegInv
set_option linter.unusedSectionVars false
variable [Inhabited Lim]

/-- A question on stamps: answered so in every world in which no more than that row has changed. -/
def Tests (w₀ : World) (row : Option Nat) (g : FuncId) (cb : Array Value) (q : Stp → Bool) : Prop :=
  ∀ (s : Stp) (w : World), w₀.grownBy w row → Calls Tryz.prog g (#[vS s] ++ cb) w fun e w' => e = .returned (.bool (q s)) ∧ RowKit.Below w.heap.size w w'
theorem Tests.later {w w' : World} {row : Option Nat} {g : FuncId} {cb : Array Value} {p : Stp → Bool} (h : Tests w row g cb p) (hg : w.grownBy w' row) : Tests w' row g cb p := fun x z hz =>
  h x z ⟨hz.os.trans hg.os, hz.tape.trans hg.tape, hz.output.trans hg.output, Nat.le_trans hg.size hz.size, fun i hi hne => (hz.block i (Nat.lt_of_lt_of_le hi hg.size) hne).trans (hg.block i hi hne)⟩

set_option maxHeartbeats 1000000 in
set_option maxRecDepth 100000 in
theorem test_upto (s : Stp) (c : Nat) (row : Option Nat) (w : World) (hc : c < w.heap.size) (h0 : w.cell? ⟨c, 0, none⟩ = some (.int .i64 s.p)) (h1 : w.cell? ⟨c, 1, none⟩ = some (.int .i64 s.l)) (h2 : w.cell? ⟨c, 2, none⟩ = some (.int .i64 s.w)) (hr : row ≠ some c) :
    Tests w row 85 #[.pointer (some ⟨c, 0, none⟩)] (fun x => !decide (stC s x < 0)) := by
  intro x w1 hg
  have ec : ∀ k, w1.cell? ⟨c, k, none⟩ = w.cell? ⟨c, k, none⟩ := fun k => World.cell?_of_block (hg.block c hc (fun e => hr e.symm))
  have hc1 : c < w1.heap.size := Nat.lt_of_lt_of_le hc hg.size
  have s0 := (ec 0).trans h0
  have s1 := (ec 1).trans h1
  have s2 := (ec 2).trans h2
  have HL := Lib.hid (fun W => stless_any s x W)
  simp only []
  obtain ⟨Q, hQ⟩ : ∃ Q, Q = decide (stC s x < 0) := ⟨_, rfl⟩
  rw [← hQ] at HL ⊢
  clear hQ hr hg ec h0 h1 h2
  obtain ⟨ap1, al1, aw1⟩ := x
  obtain ⟨sp, sl, sw⟩ := s
  unfold vS at HL ⊢
  simp only [] at HL s0 s1 s2 ⊢
  go_enter Tryz.func85, Tryz.ntmps85
  go_wp2_with fail
  refine (HL.out _).mono ?_
  rintro e w2 ⟨rfl, hb⟩
  go_wp2_with fail
  go_ret
  exact ⟨rfl, ((Lays.refl _).alloc _ |>.trans hb).below⟩

set_option maxHeartbeats 1000000 in
set_option maxRecDepth 100000 in
theorem ask_split (c : Nat) (gf : FuncId) (cb : Array Value) (q : Stp → Bool) (row : Option Nat) (w : World) (hc : c < w.heap.size) (h0 : w.cell? ⟨c, 0, none⟩ = some (.func (.func gf) #[] cb)) (hr : row ≠ some c) (he : ∀ args w, (callFunc gf args).run Tryz.prog w = .ok (.enter gf args) w) (ht : Tests w row gf cb q) :
    Asks w row 129 #[.pointer (some ⟨c, 0, none⟩)] (fun x => !q x.at_) := by
  intro x w1 hg hx
  have hc1 : c < w1.heap.size := Nat.lt_of_lt_of_le hc hg.size
  have s0 := (World.cell?_of_block (a := ⟨c, 0, none⟩) (hg.block c hc (fun e => hr e.symm))).trans h0
  have HL := Lib.hid (fun (W : World) (hW : RowKit.Below w1.heap.size w1 W) => ht x.1.at_ W (grown_then hg hW))
  simp only []
  obtain ⟨Q, hQ⟩ : ∃ Q, Q = q x.1.at_ := ⟨_, rfl⟩
  rw [← hQ] at HL ⊢
  clear hQ hr hg h0 ht hc
  obtain ⟨ao, n, cap, e1⟩ := hx
  obtain ⟨⟨at1, ak1, akey1, afin1, aval1, aex1, ⟨ap1, al1, aw1⟩, aov1⟩, av1⟩ := x
  simp only [] at e1
  subst e1
  unfold vM
  unfold vS at HL
  simp only [] at HL ⊢
  go_enter Tryz.func129, Tryz.ntmps129
  have hB := Lib.hid ((Below.refl _ w1).alloc (Nat.le_refl _) (.cells #[.int .i64 at1, .int .i64 ak1, .string akey1, .string afin1, .string aval1, .int .i64 aex1, .int .i64 ap1, .int .i64 al1, .int .i64 aw1, .slice ao n cap] 40))
  go_wp2_with fail
  refine (HL.out _ hB.out).mono ?_
  rintro e w2 ⟨rfl, hb⟩
  have HB := Lib.hid (below_then hB.out (Nat.le_refl _) hb)
  go_wp2_with fail
  go_ret
  exact ⟨rfl, HB.out⟩

theorem Copied.filtered {base : Nat} {w w' : World} {R K : List Ro} {v v' : Value} (h : Copied w v R base) (hk : ∀ x ∈ K, x ∈ R) (ho : w'.ownsRow base 40 10 v' K.length (K.flatMap enM)) (hg : w.grownBy w' v.ownBlock) : MRow w' v' K :=
  ⟨Lst.owned enM_len (by decide) rfl ho, fun x hx => Over.own ((h.over x (hk x hx)).kept hg (rows_apart (h.over x (hk x hx)) h.row (by decide)))⟩
/-- What is left of a row comes back. -/
def PartP (w : World) (l : List Mu) (e : Ending) (w' : World) : Prop := ∃ v R, e = .returned v ∧ R.map (·.1) = l ∧ MRow w' v R ∧ RowKit.Below w.heap.size w w'

set_option maxHeartbeats 2000000 in
set_option maxRecDepth 100000 in
theorem partof_any (v : Value) (R : List Ro) (c : Nat) (gf : FuncId) (cb : Array Value) (q : Stp → Bool) (w : World) (hv : MRow w v R) (hs : ∀ x ∈ R, Small x.1) (hn : R.length ≤ 100000) (hc : c < w.heap.size) (h0 : w.cell? ⟨c, 0, none⟩ = some (.func (.func gf) #[] cb)) (he : ∀ args w, (callFunc gf args).run Tryz.prog w = .ok (.enter gf args) w) (ht : ∀ row, (∀ k, row = some k → w.heap.size ≤ k) → Tests w row gf cb q) :
    Calls Tryz.prog 128 #[v, .pointer (some ⟨c, 0, none⟩)] w (PartP w ((R.map (·.1)).filter fun m => q m.at_)) := by
  have HC := Lib.hid (copies_any v R w hv (fun x hx => (hs x hx).over) hn)
  have HD := Lib.hid (fun (W : World) (hW : RowKit.Below w.heap.size w W) (g cap : Nat) (R1 : List Ro) (hcp : Copied W (.slice (some ⟨g, 0, none⟩) R1.length cap) R1 w.heap.size) (hl : R1.length ≤ 100000) =>
    delete_any w.heap.size (.slice (some ⟨g, 0, none⟩) R1.length cap) R1 129 #[.pointer (some ⟨c, 0, none⟩)] (fun x => !q x.at_) W hcp.row hcp.mrow.forms (by omega)
      (ask_split c gf cb q _ W (Nat.lt_of_lt_of_le hc hW.size) ((hW.cell (p := ⟨c, 0, none⟩) hc).trans h0) (fun e => by have := (hcp.row.lt c e).1; omega) he ((ht _ (fun k hk => (hcp.row.lt k hk).1)).later (grown_below hW _)))
      (enters_of Tryz.func129 (by kernel_rfl) rfl))
  obtain ⟨ao, cap, rfl, -, -⟩ := hv.form
  obtain ⟨n, hN⟩ : ∃ n, n = R.length := ⟨_, rfl⟩
  unfold CopiesP at HC
  rw [← hN] at HC hn ⊢
  have HN := Lib.hid hN
  clear hv hs hc h0 he ht hN
  go_enter Tryz.func128, Tryz.ntmps128
  go_wp2_with fail
  refine HC.out.mono ?_
  rintro e w1 ⟨v1, R1, rfl, ⟨g, cap1, rfl⟩, hm, hcp, hb⟩
  have hl1 : n = R1.length := by have h := congrArg List.length hm; simp only [List.length_map] at h; rw [HN.out]; exact h.symm
  rw [hl1] at hcp
  have HD1 := Lib.hid (HD.out w1 hb g cap1 R1 hcp (by omega))
  rw [← hl1] at HD1
  have HP := Lib.hid (And.intro hm (And.intro hcp (And.intro hl1 hb)))
  clear hm hcp hb hl1 HC HD
  go_wp2_with fail
  refine HD1.out.mono ?_
  rintro e w2 ⟨v2, rfl, ho, hg, -⟩
  have hb2 : RowKit.Below w.heap.size w w2 := HP.out.2.2.2.grown hg HP.out.2.2.2.size (fun k hk => (HP.out.2.1.row.lt k (by rw [HP.out.2.2.1] at hk; exact hk)).1)
  have hmr := HP.out.2.1.filtered (K := R1.filter fun x => !!q x.1.at_) (fun x hx => (List.mem_filter.1 hx).1) ho (by rw [← HP.out.2.2.1]; exact hg)
  have HF := Lib.hid (And.intro hmr hb2)
  clear ho hg hmr hb2
  go_wp2_with fail
  go_ret
  refine ⟨_, _, rfl, ?_, HF.out.1, HF.out.2⟩
  rw [← HP.out.1, List.filter_map]
  simp only [Bool.not_not]
  rfl

/-- The part of a content comes back. -/
def SubP (w : World) (c : Con) (f : Mu → Bool) (e : Ending) (w' : World) : Prop := ∃ a b d, e = .returned (.agg #[a, b, d]) ∧ Lies w' a b d (c.filter f) ∧ RowKit.Below w.heap.size w w'

set_option maxHeartbeats 4000000 in
set_option maxRecDepth 100000 in
theorem split_any (a b d : Value) (c : Con) (n : Nat) (gf : FuncId) (cb : Array Value) (q : Stp → Bool) (w : World) (hc : Lies w a b d c) (hO : Okc c n) (hn : n ≤ 100000) (he : ∀ args w, (callFunc gf args).run Tryz.prog w = .ok (.enter gf args) w) (ht : ∀ row, (∀ k, row = some k → w.heap.size ≤ k) → Tests w row gf cb q) :
    Calls Tryz.prog 84 #[.agg #[a, b, d], .func (.func gf) #[] cb] w (SubP w c fun m => q m.at_) := by
  have hln := hO.lens
  obtain ⟨⟨ra, ea, hra⟩, ⟨rb, eb, hrb⟩, ⟨rd, ed, hrd⟩⟩ := hc
  have la : ra.length ≤ 100000 := by have h : c.cells.length = ra.length := by rw [← ea]; simp
                                     omega
  have lb : rb.length ≤ 100000 := by have h : c.wipes.length = rb.length := by rw [← eb]; simp
                                     omega
  have ld : rd.length ≤ 100000 := by have h : c.sibs.length = rd.length := by rw [← ed]; simp
                                     omega
  have sa : ∀ x ∈ ra, Small x.1 := fun x hx => small_right (hO.right _ (Con.mem_all.2 (Or.inl (ea ▸ List.mem_map.2 ⟨x, hx, rfl⟩))))
  have sb : ∀ x ∈ rb, Small x.1 := fun x hx => small_right (hO.right _ (Con.mem_all.2 (Or.inr (Or.inl (eb ▸ List.mem_map.2 ⟨x, hx, rfl⟩)))))
  have sd : ∀ x ∈ rd, Small x.1 := fun x hx => small_right (hO.right _ (Con.mem_all.2 (Or.inr (Or.inr (ed ▸ List.mem_map.2 ⟨x, hx, rfl⟩)))))
  obtain ⟨o1, k1, rfl, -, -⟩ := hra.form
  obtain ⟨o2, k2, rfl, -, -⟩ := hrb.form
  obtain ⟨o3, k3, rfl, -, -⟩ := hrd.form
  obtain ⟨W0, hW0⟩ : ∃ W0, W0 = ((w.alloc (.cells #[.slice o1 ra.length k1, .slice o2 rb.length k2, .slice o3 rd.length k3] 26)).alloc (.cells #[.func (.func gf) #[] cb] 77)).alloc (.cells #[.slice none 0 0, .slice none 0 0, .slice none 0 0] 26) := ⟨_, rfl⟩
  have hb0 : RowKit.Below w.heap.size w W0 := by rw [hW0]; exact (((Below.refl _ w).alloc (Nat.le_refl _) _).alloc (by simp) _).alloc (by simp; omega) _
  have hP : C3 W0 w.heap.size (.slice o1 ra.length k1) (.slice o2 rb.length k2) (.slice o3 rd.length k3) := by
    rw [hW0]
    exact ((C3.new w _ _ _).below ((Below.refl _ _).alloc (Nat.le_refl _) _)).below ((Below.refl _ _).alloc (Nat.le_refl _) _)
  have hT : C3 W0 (w.heap.size + 1 + 1) (.slice none 0 0) (.slice none 0 0) (.slice none 0 0) := by
    rw [hW0]
    have := C3.new ((w.alloc (.cells #[.slice o1 ra.length k1, .slice o2 rb.length k2, .slice o3 rd.length k3] 26)).alloc (.cells #[.func (.func gf) #[] cb] 77)) (.slice none 0 0) (.slice none 0 0) (.slice none 0 0)
    rwa [World.size_alloc, World.size_alloc] at this
  have hF : W0.cell? ⟨w.heap.size + 1, 0, none⟩ = some (.func (.func gf) #[] cb) := by rw [hW0]; go_simp
  have hz : w.heap.size + 1 < W0.heap.size := by have := hT.lt; omega
  have HCall := Lib.hid (fun (v : Value) (R : List Ro) (hv : MRow w v R) (hs : ∀ x ∈ R, Small x.1) (hl : R.length ≤ 100000) (W : World) (hW : RowKit.Below W0.heap.size W0 W) =>
    partof_any v R (w.heap.size + 1) gf cb q W (hv.below (below_then hb0 (Nat.le_refl _) hW)) hs hl (Nat.lt_of_lt_of_le hz hW.size) ((hW.cell (p := ⟨w.heap.size + 1, 0, none⟩) hz).trans hF) he (fun row hr => (ht row (fun k hk => Nat.le_trans (below_then hb0 (Nat.le_refl _) hW).size (hr k hk))).later (grown_below (below_then hb0 (Nat.le_refl _) hW) _)))
  have HA := Lib.hid (HCall.out _ ra hra sa la)
  have HB := Lib.hid (HCall.out _ rb hrb sb lb)
  have HD := Lib.hid (HCall.out _ rd hrd sd ld)
  rw [ea] at HA
  rw [eb] at HB
  rw [ed] at HD
  obtain ⟨n1, h1⟩ : ∃ n, n = ra.length := ⟨_, rfl⟩
  obtain ⟨n2, h2⟩ : ∃ n, n = rb.length := ⟨_, rfl⟩
  obtain ⟨n3, h3⟩ : ∃ n, n = rd.length := ⟨_, rfl⟩
  rw [← h1] at HA hP hW0 ⊢
  rw [← h2] at HB hP hW0 ⊢
  rw [← h3] at HD hP hW0 ⊢
  have HP := Lib.hid hP
  have HT := Lib.hid hT
  have HB0 := Lib.hid hb0
  have HW := Lib.hid hW0
  have he1 : ∀ args w, (callFunc 128 args).run Tryz.prog w = .ok (.enter 128 args) w := enters_of Tryz.func128 (by kernel_rfl) rfl
  clear hln ea hra eb hrb ed hrd la lb ld sa sb sd hb0 hP hT hF hz HCall h1 h2 h3 hW0 he ht hO hn
  go_enter Tryz.func84, Tryz.ntmps84
  go_upto_region 2 with fail
  rw [← HW.out]
  clear HW
  go_wp2_with fail
  refine wp_region_told [] 13 [false, false, false, false, false, false, false, true, true, true, true, true, true, true, true, true, true, true, true, true]
    [sLit (.func (.func 128) #[] #[.pointer (some ⟨w.heap.size + 1, 0, none⟩)]),
    sLit (.pointer (some ⟨w.heap.size, 0, none⟩)),
    sLit (.slice o1 n1 k1),
    sOne (fun v W => Reads W v (c.cells.filter fun m => q m.at_)) (fun _ _ _ h hb => h.below hb),
    sLit (.func (.func 128) #[] #[.pointer (some ⟨w.heap.size + 1, 0, none⟩)]),
    sLit (.pointer (some ⟨w.heap.size, 1, none⟩)),
    sLit (.slice o2 n2 k2),
    sOne (fun v W => Reads W v (c.wipes.filter fun m => q m.at_)) (fun _ _ _ h hb => h.below hb),
    sLit (.func (.func 128) #[] #[.pointer (some ⟨w.heap.size + 1, 0, none⟩)]),
    sLit (.pointer (some ⟨w.heap.size, 2, none⟩)),
    sLit (.slice o3 n3 k3),
    sOne (fun v W => Reads W v (c.sibs.filter fun m => q m.at_)) (fun _ _ _ h hb => h.below hb),
    sFn3 10 14 18 (fun x0 x1 x2 => .agg #[x0, x1, x2])] (by kernel_rfl) (by kernel_rfl) (by kernel_rfl) (fun F hF => ?_)
  simp only [over, overL, Nat.reduceAdd] at hF
  obtain rfl := funext hF
  clear hF
  refine ⟨⟨?_, ?_, ?_, ?_, ?_, ?_, ?_, ?_, ?_, ?_, ?_, ?_, ?_, trivial⟩, ?_⟩
  · intro V W hb hd K hK _
    clear hd
    go_wp2_with fail
    refine hK _ _ ?_ ?_ ?_ ?_
    · rfl
    · exact Below.refl _ _
    · exact rfl
    · trivial
  · intro V W hb hd K hK _
    clear hd
    go_wp2_with fail
    refine hK _ _ ?_ ?_ ?_ ?_
    · rfl
    · exact Below.refl _ _
    · exact rfl
    · trivial
  · intro V W hb hd K hK _
    have h1 : (V 8) = .pointer (some ⟨w.heap.size, 0, none⟩) := hd 1 (by kernel_rfl)
    clear hd
    obtain ⟨-, s0, s1, s2, -⟩ := HP.out.below hb
    go_wp2_with fail
    refine hK _ _ ?_ ?_ ?_ ?_
    · rfl
    · exact Below.refl _ _
    · exact rfl
    · trivial
  · intro V W hb hd K hK _
    have h0 : (V 7) = .func (.func 128) #[] #[.pointer (some ⟨w.heap.size + 1, 0, none⟩)] := hd 0 (by kernel_rfl)
    have h2 : (V 9) = .slice o1 n1 k1 := hd 2 (by kernel_rfl)
    clear hd
    go_wp2_with fail
    refine (HA.out _ hb).mono ?_
    rintro e w1 ⟨v1, R1, rfl, hm1, hr1, hb1⟩
    go_wp2_with fail
    refine hK _ _ ?_ ?_ ?_ ?_
    · rfl
    · exact hb1
    · exact ⟨R1, hm1, hr1⟩
    · trivial
  · intro V W hb hd K hK _
    clear hd
    go_wp2_with fail
    refine hK _ _ ?_ ?_ ?_ ?_
    · rfl
    · exact Below.refl _ _
    · exact rfl
    · trivial
  · intro V W hb hd K hK _
    clear hd
    go_wp2_with fail
    refine hK _ _ ?_ ?_ ?_ ?_
    · rfl
    · exact Below.refl _ _
    · exact rfl
    · trivial
  · intro V W hb hd K hK _
    have h5 : (V 12) = .pointer (some ⟨w.heap.size, 1, none⟩) := hd 5 (by kernel_rfl)
    clear hd
    obtain ⟨-, s0, s1, s2, -⟩ := HP.out.below hb
    go_wp2_with fail
    refine hK _ _ ?_ ?_ ?_ ?_
    · rfl
    · exact Below.refl _ _
    · exact rfl
    · trivial
  · intro V W hb hd K hK _
    have h4 : (V 11) = .func (.func 128) #[] #[.pointer (some ⟨w.heap.size + 1, 0, none⟩)] := hd 4 (by kernel_rfl)
    have h6 : (V 13) = .slice o2 n2 k2 := hd 6 (by kernel_rfl)
    clear hd
    go_wp2_with fail
    refine (HB.out _ hb).mono ?_
    rintro e w1 ⟨v1, R1, rfl, hm1, hr1, hb1⟩
    go_wp2_with fail
    refine hK _ _ ?_ ?_ ?_ ?_
    · rfl
    · exact hb1
    · exact ⟨R1, hm1, hr1⟩
    · trivial
  · intro V W hb hd K hK _
    clear hd
    go_wp2_with fail
    refine hK _ _ ?_ ?_ ?_ ?_
    · rfl
    · exact Below.refl _ _
    · exact rfl
    · trivial
  · intro V W hb hd K hK _
    clear hd
    go_wp2_with fail
    refine hK _ _ ?_ ?_ ?_ ?_
    · rfl
    · exact Below.refl _ _
    · exact rfl
    · trivial
  · intro V W hb hd K hK _
    have h9 : (V 16) = .pointer (some ⟨w.heap.size, 2, none⟩) := hd 9 (by kernel_rfl)
    clear hd
    obtain ⟨-, s0, s1, s2, -⟩ := HP.out.below hb
    go_wp2_with fail
    refine hK _ _ ?_ ?_ ?_ ?_
    · rfl
    · exact Below.refl _ _
    · exact rfl
    · trivial
  · intro V W hb hd K hK _
    have h8 : (V 15) = .func (.func 128) #[] #[.pointer (some ⟨w.heap.size + 1, 0, none⟩)] := hd 8 (by kernel_rfl)
    have h10 : (V 17) = .slice o3 n3 k3 := hd 10 (by kernel_rfl)
    clear hd
    go_wp2_with fail
    refine (HD.out _ hb).mono ?_
    rintro e w1 ⟨v1, R1, rfl, hm1, hr1, hb1⟩
    go_wp2_with fail
    refine hK _ _ ?_ ?_ ?_ ?_
    · rfl
    · exact hb1
    · exact ⟨R1, hm1, hr1⟩
    · trivial
  · intro V W hb hd K hK _
    have h3 : Reads W (V 10) (c.cells.filter fun m => q m.at_) := hd 3 (by kernel_rfl)
    have h7 : Reads W (V 14) (c.wipes.filter fun m => q m.at_) := hd 7 (by kernel_rfl)
    have h11 : Reads W (V 18) (c.sibs.filter fun m => q m.at_) := hd 11 (by kernel_rfl)
    clear hd
    obtain ⟨o3, k3, e3, -, -⟩ := h3.form
    obtain ⟨o7, k7, e7, -, -⟩ := h7.form
    obtain ⟨o11, k11, e11, -, -⟩ := h11.form
    go_wp2_with fail
    refine hK _ _ ?_ ?_ ?_ ?_
    · rfl
    · exact Below.refl _ _
    · exact (show _ = Value.agg #[V 10, V 14, V 18] by rw [e3, e7, e11]; rfl)
    · trivial
  · intro V W hb hd hap
    have h3 : Reads W (V 10) (c.cells.filter fun m => q m.at_) := hd 3 (by decide)
    have h7 : Reads W (V 14) (c.wipes.filter fun m => q m.at_) := hd 7 (by decide)
    have h11 : Reads W (V 18) (c.sibs.filter fun m => q m.at_) := hd 11 (by decide)
    have h12 : (V 19) = .agg #[V 10, V 14, V 18] := hd 12 (by decide)
    clear hd hap
    simp only [List.drop_succ_cons, List.drop_zero]
    have HT4 := Lib.hid (HT.out.below hb)
    obtain ⟨-, t0, t1, t2, f0, f1, f2⟩ := HT4.out
    obtain ⟨o4, k4, e3, -, -⟩ := h3.form
    obtain ⟨o5, k5, e7, -, -⟩ := h7.form
    obtain ⟨o6, k6, e11, -, -⟩ := h11.form
    rw [e3] at h3
    rw [e7] at h7
    rw [e11] at h11
    have HRR := Lib.hid (And.intro h3 (And.intro h7 h11))
    clear h3 h7 h11
    obtain ⟨n4, hn4⟩ : ∃ n, n = (c.cells.filter fun m => q m.at_).length := ⟨_, rfl⟩
    obtain ⟨n5, hn5⟩ : ∃ n, n = (c.wipes.filter fun m => q m.at_).length := ⟨_, rfl⟩
    obtain ⟨n6, hn6⟩ : ∃ n, n = (c.sibs.filter fun m => q m.at_).length := ⟨_, rfl⟩
    rw [← hn4] at e3 HRR
    rw [← hn5] at e7 HRR
    rw [← hn6] at e11 HRR
    clear hn4 hn5 hn6
    go_wp2_with fail
    obtain ⟨-, u0, u1, u2, -⟩ := c3_put HT4.out (.slice o4 n4 k4) (.slice o5 n5 k5) (.slice o6 n6 k6)
    refine bodyPost_ret (v := .agg #[.slice o4 n4 k4, .slice o5 n5 k5, .slice o6 n6 k6]) (by simp [results, Tryz.f84, go_sem, u0, u1, u2]) rfl ?_
    have hl : Lies _ (.slice o4 n4 k4) (.slice o5 n5 k5) (.slice o6 n6 k6) (c.filter fun m => q m.at_) := ⟨HRR.out.1, HRR.out.2.1, HRR.out.2.2⟩
    exact ⟨_, _, _, rfl, hl.plain3 (plain3 HT4.out _ _ _), c3_put_below (below_then HB0.out (Nat.le_refl _) hb) (by omega) _ _ _⟩

set_option maxHeartbeats 2000000 in
set_option maxRecDepth 100000 in
theorem upto_any (a b d : Value) (c : Con) (n : Nat) (s : Stp) (w : World) (hc : Lies w a b d c) (hO : Okc c n) (hn : n ≤ 100000) :
    Calls Tryz.prog 49 #[.agg #[a, b, d], vS s] w (SubP w c (fun m => !decide (stC s m.at_ < 0))) := by
  have HS := Lib.hid (fun (W : World) (hW : RowKit.Below w.heap.size w W) (k : Nat) (hk : k < W.heap.size) (h0 : W.cell? ⟨k, 0, none⟩ = some (.int .i64 s.p)) (h1 : W.cell? ⟨k, 1, none⟩ = some (.int .i64 s.l)) (h2 : W.cell? ⟨k, 2, none⟩ = some (.int .i64 s.w)) =>
    split_any a b d c n 85 #[.pointer (some ⟨k, 0, none⟩)] _ W (hc.below hW) hO hn (enters_of Tryz.func85 (by kernel_rfl) rfl) (fun row hr => test_upto s k row W hk h0 h1 h2 (fun e => by have := hr k e; omega)))
  obtain ⟨o1, n1, k1, rfl⟩ := hc.cells.slice
  obtain ⟨o2, n2, k2, rfl⟩ := hc.wipes.slice
  obtain ⟨o3, n3, k3, rfl⟩ := hc.sibs.slice
  clear hc hO hn
  obtain ⟨sp, sl, sw⟩ := s
  unfold vS
  simp only [] at HS ⊢
  go_enter Tryz.func49, Tryz.ntmps49
  have hB := (((Below.refl _ w).alloc (Nat.le_refl _) (.cells #[.slice o1 n1 k1, .slice o2 n2 k2, .slice o3 n3 k3] 26)).alloc (by simp) (.cells #[.int .i64 sp, .int .i64 sl, .int .i64 sw] 37)).alloc (by simp; omega) (.cells #[.slice none 0 0, .slice none 0 0, .slice none 0 0] 26)
  have hT := C3.new ((w.alloc (.cells #[.slice o1 n1 k1, .slice o2 n2 k2, .slice o3 n3 k3] 26)).alloc (.cells #[.int .i64 sp, .int .i64 sl, .int .i64 sw] 37)) (.slice none 0 0) (.slice none 0 0) (.slice none 0 0)
  rw [World.size_alloc, World.size_alloc] at hT
  have HB := Lib.hid hB
  have HT := Lib.hid hT
  clear hB hT
  go_wp2_with fail
  refine (HS.out _ HB.out (w.heap.size + 1) (by simp) (by go_simp) (by go_simp) (by go_simp)).mono ?_
  rintro e w1 ⟨va, vb, vd, rfl, hl, hb⟩
  obtain ⟨o4, n4, k4, hv1⟩ := hl.cells.slice
  obtain ⟨o5, n5, k5, hv2⟩ := hl.wipes.slice
  obtain ⟨o6, n6, k6, hv3⟩ := hl.sibs.slice
  subst hv1 hv2 hv3
  have HL := Lib.hid hl
  have HB1 := Lib.hid (below_then HB.out (Nat.le_refl _) hb)
  have HT1 := Lib.hid (HT.out.below hb)
  clear hl hb
  obtain ⟨-, t0, t1, t2, f0, f1, f2⟩ := HT1.out
  go_wp2_with fail
  obtain ⟨-, e0, e1, e2, -⟩ := c3_put HT1.out (.slice o4 n4 k4) (.slice o5 n5 k5) (.slice o6 n6 k6)
  refine bodyPost_ret (v := .agg #[.slice o4 n4 k4, .slice o5 n5 k5, .slice o6 n6 k6]) (by simp [results, Tryz.f49, go_sem, e0, e1, e2]) rfl ?_
  exact ⟨_, _, _, rfl, HL.out.plain3 (plain3 HT1.out _ _ _), c3_put_below HB1.out (by omega) _ _ _⟩
end Go.Proofs.YtmjelcjdfamikaaGreatDoor.Mut

/- Of any mutations there is what is left (layer 8), in plain Lean; so the reference's content is the program's. -/
namespace Go.Proofs.YtmjelcjdfamikaaGreatDoor.Mut
open Go.Proofs.YtmjelcjdfamikaaGreatDoor.Ord
set_option linter.unusedSectionVars false
variable [Inhabited Lim]

theorem parts_ex {d : Mu → Mu → Int} (c : Mu → Int) : ∀ (l : List Mu), Rises d l → (∀ x y, d x y < 0 → 0 ≤ c x → 0 ≤ c y) → ∃ i, Parts c l i
  | [], _, _ => ⟨0, Nat.le_refl _, fun k x _ h => by simp at h, fun k x _ h => by simp at h⟩
  | y :: l, hr, hm => by
    unfold Rises at hr
    obtain ⟨h1, h2⟩ := List.pairwise_cons.1 hr
    by_cases hy : c y < 0
    · obtain ⟨i, p1, p2, p3⟩ := parts_ex (d := d) c l h2 hm
      refine ⟨i + 1, by simp; omega, fun k x hk hx => ?_, fun k x hk hx => ?_⟩
      · cases k with
        | zero => obtain rfl : y = x := by simpa using hx
                  exact hy
        | succ k => exact p2 k x (by omega) (by simpa using hx)
      · cases k with
        | zero => omega
        | succ k => exact p3 k x (by omega) (by simpa using hx)
    · refine ⟨0, Nat.zero_le _, fun k x hk _ => by omega, fun k x _ hx => ?_⟩
      cases k with
      | zero => obtain rfl : y = x := by simpa using hx
                omega
      | succ k =>
        have hx' : l[k]? = some x := by simpa using hx
        exact hm y x (h1 x (List.mem_of_getElem? hx')) (by omega)
theorem sort_ex (l : List Mu) : ∃ k : List Mu, k.Perm l ∧ k.Pairwise fun a b => muC a b ≤ 0 := by
  refine ⟨l.mergeSort (fun a b => decide (muC a b ≤ 0)), List.mergeSort_perm _ _, ?_⟩
  refine (List.pairwise_mergeSort (le := fun a b => decide (muC a b ≤ 0)) ?_ ?_ l).imp fun h => of_decide_eq_true h
  · intro a b c h1 h2
    exact decide_eq_true (muO.le_le (of_decide_eq_true h1) (of_decide_eq_true h2))
  · intro a b
    have := muO.swap a b
    by_cases h : muC a b ≤ 0
    · simp [h]
    · have : muC b a ≤ 0 := by omega
      simp [this]
theorem Reps.one_more {S : Mu → Prop} {c : Con} {n : Nat} {m : Mu} (h : Reps S c) (hO : Okc c n) (hm : rightF m = true) : ∃ c', Reps (fun x => S x ∨ x = m) c' ∧ Okc c' (n + 1) := by
  have hf := fit_of hm
  by_cases hs : m.table = 2
  · obtain ⟨i, hp⟩ := parts_ex (d := sibC) (fun x => sibC x m) c.sibs h.rs (fun x y h1 h2 => by have := sib_up m x y h1 h2; omega)
    cases hat : isAt (fun x => sibC x m) c.sibs i with
    | true => exact ⟨c, h.sib_keep hf hs hat, hO.more (by omega)⟩
    | false => exact ⟨_, h.sib_put hf hs hp hat, hO.sibs hm (fun x hx => mem_take_drop.1 hx) (len_put _ _ _)⟩
  · by_cases hk : m.kind = 3
    · cases hany : c.wipes.any (fun x => withinB x m) with
      | true => exact ⟨c, h.wipe_keep hf ⟨hs, hk⟩ hany, hO.more (by omega)⟩
      | false =>
        obtain ⟨l, hp, hl⟩ := sort_ex (c.wipes.filter (fun x => !withinB m x) ++ [m])
        refine ⟨_, h.wipe_put hf ⟨hs, hk⟩ (fun x hx => by
          cases e : withinB x m with
          | false => rfl
          | true => rw [List.any_eq_true.2 ⟨x, hx, e⟩] at hany; cases hany) hp hl, hO.of hm ?_ ?_⟩
        · intro x hx
          rcases Con.mem_all.1 hx with h1 | h1 | h1
          · exact Or.inl (Con.mem_all.2 (Or.inl (List.mem_filter.1 h1).1))
          · rcases List.mem_append.1 (hp.mem_iff.1 h1) with h2 | h2
            · exact Or.inl (Con.mem_all.2 (Or.inr (Or.inl (List.mem_filter.1 h2).1)))
            · exact Or.inr (List.mem_singleton.1 h2)
          · exact Or.inl (Con.mem_all.2 (Or.inr (Or.inr h1)))
        · have e1 := hp.length_eq
          have e2 := List.length_filter_le (fun x => !withinB m x) c.wipes
          have e3 := List.length_filter_le (fun x => !hitsB m x.key x.at_) c.cells
          rw [List.length_append, List.length_singleton] at e1
          unfold Con.all
          simp only [List.length_append]
          omega
    · have hc : isC m := ⟨hs, hk⟩
      by_cases hh : ∃ w ∈ c.wipes, hits w m.key m.at_
      · obtain ⟨w, hw, hh⟩ := hh
        exact ⟨c, h.cell_hit hf hc hw hh, hO.more (by omega)⟩
      · have hh' : ∀ w ∈ c.wipes, ¬ hits w m.key m.at_ := fun w hw e => hh ⟨w, hw, e⟩
        obtain ⟨i, hp⟩ := parts_ex (d := keyC) (fun x => cmpS x.key m.key) c.cells h.rc (fun x y h1 h2 => by have := key_up m x y h1 h2; omega)
        cases hat : isAt (fun x => cmpS x.key m.key) c.cells i with
        | false => exact ⟨_, h.cell_put hf hc hh' hp hat, hO.cells hm (fun x hx => mem_take_drop.1 hx) (len_put _ _ _)⟩
        | true =>
          obtain ⟨x, hx, e⟩ := isAt_some hat
          have e' := (Tot.str.zero _ _).1 e
          by_cases hl : muC x m < 0
          · refine ⟨_, h.cell_set hf hc hh' hx e' hl, hO.cells hm (fun y hy => ?_) (by simp)⟩
            exact List.mem_or_eq_of_mem_set hy
          · exact ⟨c, h.cell_keep hf hc hh' hx e' hl, hO.more (by omega)⟩
theorem fits_nil (m : Mu) : ¬ Fits [] m := fun h => by cases h.1
/-- What is left of a row. -/
theorem reps_ex (l : List Mu) : ∃ c, Reps (Fits l) c ∧ Okc c l.length := by
  suffices h : ∀ r : List Mu, ∃ c, Reps (Fits r.reverse) c ∧ Okc c r.reverse.length by
    have := h l.reverse
    rwa [List.reverse_reverse] at this
  intro r
  induction r with
  | nil => exact ⟨⟨[], [], []⟩, Reps.none.same fun m => ⟨fun h => h.elim, fun h => (fits_nil m h).elim⟩, ⟨fun m hm => absurd hm (by simp [Con.all]), Nat.le_refl _⟩⟩
  | cons x r ih =>
    obtain ⟨c, h1, h2⟩ := ih
    rw [List.reverse_cons]
    have hlen : (r.reverse ++ [x]).length = r.reverse.length + 1 := by simp
    rw [hlen]
    cases hx : rightF x with
    | true =>
      obtain ⟨c', h3, h4⟩ := h1.one_more h2 hx
      refine ⟨c', h3.same fun y => ?_, h4⟩
      rw [fits_snoc]
      exact ⟨fun h => h.imp id fun e => ⟨e, hx⟩, fun h => h.imp id fun e => e.1⟩
    | false =>
      refine ⟨c, h1.same fun y => ?_, h2.more (by omega)⟩
      rw [fits_snoc]
      exact ⟨Or.inl, fun h => h.elim id fun e => by rw [hx] at e; exact absurd e.2 (by decide)⟩
end Go.Proofs.YtmjelcjdfamikaaGreatDoor.Mut

/- The walks of cenotaphref08.some, All, Split, Join, Of (layer 8). PRINTED by wip/genrefsplit2.py. -/
namespace Go.Proofs.YtmjelcjdfamikaaGreatDoor.Mut
open Go.RowKit Go.Sort Go.Proofs.YtmjelcjdfamikaaGreatDoor.Ord Go.Proofs.YtmjelcjdfamikaaGreatDoor.RegInv
set_option linter.unusedSectionVars false
variable [Inhabited Lim]

/-- All of three rows, rising. -/
def insAll (acc : List Ro) (R : List Ro) : List Ro := R.foldl (fun a x => insRo x false a) acc
def allRo (A B D : List Ro) : List Ro := insAll (insAll (insAll [] A) B) D
theorem insAll_snoc (acc R : List Ro) (x : Ro) : insAll acc (R ++ [x]) = insRo x false (insAll acc R) := by simp [insAll]
theorem insAll_mem (acc R : List Ro) : ∀ y ∈ insAll acc R, y ∈ acc ∨ y ∈ R := by
  induction R generalizing acc with
  | nil => intro y hy; exact Or.inl hy
  | cons x R ih =>
    intro y hy
    rcases ih _ y hy with h | h
    · rcases insRo_mem _ _ _ y h with h | rfl
      · exact Or.inl h
      · exact Or.inr (by simp)
    · exact Or.inr (List.mem_cons_of_mem _ h)
theorem insAll_spec : ∀ (R acc : List Ro), Rises muC (acc.map (·.1)) → Rises muC ((insAll acc R).map (·.1)) ∧ (∀ m, m ∈ (insAll acc R).map (·.1) ↔ m ∈ acc.map (·.1) ∨ m ∈ R.map (·.1)) ∧ (insAll acc R).length ≤ acc.length + R.length := by
  intro R
  induction R with
  | nil => intro acc h; exact ⟨h, fun m => by simp [insAll], by simp [insAll]⟩
  | cons x R ih =>
    intro acc h
    have hm := insRo_map x acc false
    have hs := insF_rises x.1 h
    obtain ⟨i1, i2, i3⟩ := ih (insRo x false acc) (by rw [hm]; exact hs.1)
    refine ⟨i1, fun m => (i2 m).trans ?_, ?_⟩
    · rw [hm, List.map_cons, List.mem_cons]
      refine (or_congr (hs.2 m) Iff.rfl).trans ?_
      constructor
      · rintro ((h | h) | h)
        · exact Or.inl h
        · exact Or.inr (Or.inl h)
        · exact Or.inr (Or.inr h)
      · rintro (h | h | h)
        · exact Or.inl (Or.inl h)
        · exact Or.inl (Or.inr h)
        · exact Or.inr h
    · have h4 : (insRo x false acc).length ≤ acc.length + 1 := by
        have := insF_len (acc.map (·.1)) x.1
        unfold insF at this
        rw [← hm, List.length_map, List.length_map] at this
        exact this
      have h5 : (insAll acc (x :: R)).length ≤ (insRo x false acc).length + R.length := i3
      simp only [List.length_cons]; omega
theorem allRo_mem (A B D : List Ro) : ∀ y ∈ allRo A B D, y ∈ A ∨ y ∈ B ∨ y ∈ D := by
  intro y hy
  rcases insAll_mem _ _ y hy with h | h
  · rcases insAll_mem _ _ y h with h | h
    · rcases insAll_mem _ _ y h with h | h
      · cases h
      · exact Or.inl h
    · exact Or.inr (Or.inl h)
  · exact Or.inr (Or.inr h)
theorem allRo_spec (A B D : List Ro) : Rises muC ((allRo A B D).map (·.1)) ∧ (∀ m, m ∈ (allRo A B D).map (·.1) ↔ m ∈ A.map (·.1) ∨ m ∈ B.map (·.1) ∨ m ∈ D.map (·.1)) ∧ (allRo A B D).length ≤ A.length + B.length + D.length := by
  obtain ⟨a1, a2, a3⟩ := insAll_spec A [] List.Pairwise.nil
  obtain ⟨b1, b2, b3⟩ := insAll_spec B _ a1
  obtain ⟨d1, d2, d3⟩ := insAll_spec D _ b1
  refine ⟨d1, fun m => (d2 m).trans ?_, ?_⟩
  · rw [b2, a2]
    simp [or_assoc]
  · have : ([] : List Ro).length = 0 := rfl
    unfold allRo
    omega

theorem insAll_len (acc R : List Ro) : (insAll acc R).length ≤ acc.length + R.length := by
  induction R generalizing acc with
  | nil => simp [insAll]
  | cons x R ih =>
    have h3 := ih (insRo x false acc)
    have h4 : (insRo x false acc).length ≤ acc.length + 1 := by
      have h := insF_len (acc.map (·.1)) x.1
      unfold insF at h
      rw [← insRo_map x acc false, List.length_map, List.length_map] at h
      exact h
    have h5 : (insAll acc (x :: R)).length ≤ (insRo x false acc).length + R.length := h3
    simp only [List.length_cons]; omega

/-- The reference's content is what is left, too. -/
theorem refof_con (v : Value) (R : List Ro) (w : World) (hT : Tabs w) (hv : MRow w v R) (hs : ∀ x ∈ R, Small x.1) (hn : R.length ≤ 10000) :
    Calls Tryz.prog 9 #[v] w (ConP w (Fits (R.map (·.1))) R.length) := by
  refine (refof_any v R w hT hv hs hn).mono ?_
  rintro e w' ⟨a, b, d, c, rfl, hl, hsy, -, hb⟩
  obtain ⟨c0, h1, h2⟩ := reps_ex (R.map (·.1))
  obtain rfl : c0 = c := Says.eq h1 hsy
  rw [List.length_map] at h2
  exact ⟨a, b, d, c0, rfl, hl, h1, h2, hb⟩
theorem reps_both {S T : Mu → Prop} {c c' cc : Con} (h : Reps S c) (g : Reps T c') (k : Reps (fun m => m ∈ c.all ∨ m ∈ c'.all) cc) : Reps (fun y => S y ∨ T y) cc :=
  (h.of_all ((g.of_all k).same fun _ => Or.comm)).same fun _ => Or.comm

theorem wpList_append_fresh {w : World} {ops : Array Oper} {rest : List Oper} {o : Oper} {a : Act} {Q : Exit → Act → World → Prop} (hgd : o.guard = none) (s x : Operand)
    (ho : o.op = .call { callee := .builtin .append, args := #[s, x], argTypes := #[22, 22] }) (base k : Nat) (hs : a.eval s = .slice (some ⟨k, 0, none⟩) 0 0) (hown : w.ownsRow base 40 10 (.slice (some ⟨k, 0, none⟩) 0 0) 0 [])
    (ao : Option Addr) (m c : Nat) (R : List Ro) (hx : a.eval x = .slice ao m c) (hR : MRow w (.slice ao m c) R) (hm : m ≤ 1000000) (hbase : base ≤ w.heap.size)
    (h : ∀ v' w', w'.ownsRow base 40 10 v' m (R.flatMap enM) → RowKit.Below w.heap.size w w' → wpList Tryz.prog ops Q rest (a.put o.dst v') w') : wpList Tryz.prog ops Q (o :: rest) a w := by
  obtain ⟨i0, hi, hz0, hz1, hz2⟩ := info_parts info_M
  obtain ⟨_, _, e, -, -⟩ := hR.form
  obtain ⟨rfl⟩ : m = R.length := by injection e
  cases ao with
  | none =>
    have h0 := hR.nil_of
    subst h0
    refine wpList_append_own_none' hgd s x 22 ho base 40 i0 10 c Tryz.underlying22 hi _ 0 [] hs hown hx ?_
    exact h _ w (by simpa using hown) (Below.refl _ _)
  | some ad =>
    refine wpList_plain hgd fun K hK => ?_
    obtain ⟨v', w', hr, h2, h3⟩ := run_append_fresh (P := Tryz.prog) (w := w) base 22 o.type 40 i0 zeroM 10 120 Tryz.underlying22 hi hz0 hz1 hz2 rfl k hown ad R.length c (R.flatMap enM) (flatMap_len enM_len R) (Lst.news enM_len (by decide) hR.row) (flatM_one hR.forms) (by unfold maxLen; omega) (by omega) hbase
    unfold Oper.wp execOp
    simp only [ho, resolve, invoke, builtin, Sem.run_bind, Sem.run_pure, Result.andThen_ok, List.map_toArray, List.map_cons, List.map_nil, hs, hx, hr]
    exact hK _ _ (h v' w' h2 h3)

end Go.Proofs.YtmjelcjdfamikaaGreatDoor.Mut

/- Contents as values (layer 8): what is left of a row of mutations is a function of it; each call of the program's and of the reference's hands back a content that is known ahead. -/
namespace Go.Proofs.YtmjelcjdfamikaaGreatDoor.Mut
open Go.RowKit Go.Sort Go.Proofs.YtmjelcjdfamikaaGreatDoor.Ord Go.Proofs.YtmjelcjdfamikaaGreatDoor.RegInv
set_option linter.unusedSectionVars false
variable [Inhabited Lim]

/-- What is left of these mutations. -/
def leftOf (l : List Mu) : Con :=
  ⟨(cellsRo (setRo (l.map fun m => ((m, .slice none 0 0) : Ro)))).map (·.1), (wipesRo (setRo (l.map fun m => ((m, .slice none 0 0) : Ro)))).map (·.1), (sibsRo (setRo (l.map fun m => ((m, .slice none 0 0) : Ro)))).map (·.1)⟩
theorem leftOf_eq {l : List Mu} {c : Con} (h : Reps (Fits l) c) : c = leftOf l := by
  have g := fits_says (l.map fun m => ((m, .slice none 0 0) : Ro))
  have e : (l.map fun m => ((m, .slice none 0 0) : Ro)).map (·.1) = l := by
    rw [List.map_map]
    exact List.map_id l
  rw [e] at g
  exact Says.eq h g
theorem leftOf_both (l : List Mu) : Reps (Fits l) (leftOf l) ∧ Okc (leftOf l) l.length := by
  obtain ⟨c, h, g⟩ := reps_ex l
  rw [← leftOf_eq h]
  exact ⟨h, g⟩
/-- A content of at most so many mutations: what is left of its own. -/
structure Good (c : Con) (n : Nat) : Prop where
  reps : Reps (fun m => m ∈ c.all) c
  okc : Okc c n
theorem Good.more {c : Con} {n k : Nat} (h : Good c n) (hk : n ≤ k) : Good c k := ⟨h.reps, h.okc.more hk⟩
theorem leftOf_good (l : List Mu) : Good (leftOf l) l.length := ⟨(leftOf_both l).1.self, (leftOf_both l).2⟩
theorem Good.fits {c : Con} {n : Nat} (h : Good c n) (m : Mu) : Fits c.all m ↔ m ∈ c.all := ⟨fun g => g.1, fun g => ⟨g, h.okc.right m g⟩⟩
theorem Good.left {c : Con} {n : Nat} (h : Good c n) : leftOf c.all = c := (leftOf_eq (h.reps.same fun m => (h.fits m).symm)).symm
theorem filter_all (c : Con) (p : Mu → Bool) : (c.filter p).all = c.all.filter p := by
  unfold Con.all Con.filter
  simp only [List.filter_append]
theorem Good.filter {c : Con} {n : Nat} (h : Good c n) (p : Mu → Bool) : Good (c.filter p) n :=
  ⟨h.reps.filter p, ⟨fun m hm => h.okc.right m (Con.mem_filter.1 hm).1, by rw [filter_all]; exact Nat.le_trans (List.length_filter_le _ _) h.okc.len⟩⟩
theorem leftOf_congr {l k : List Mu} (h : ∀ m, Fits l m ↔ Fits k m) : leftOf l = leftOf k := leftOf_eq ((leftOf_both l).1.same h)
theorem fits_append {l k : List Mu} (m : Mu) : Fits (l ++ k) m ↔ Fits l m ∨ Fits k m := by
  unfold Fits
  rw [List.mem_append]
  exact ⟨fun h => h.1.elim (fun g => Or.inl ⟨g, h.2⟩) (fun g => Or.inr ⟨g, h.2⟩), fun h => h.elim (fun g => ⟨Or.inl g.1, g.2⟩) (fun g => ⟨Or.inr g.1, g.2⟩)⟩
/-- What is left of what is left and of others. -/
theorem leftOf_swallow (l k : List Mu) : leftOf ((leftOf l).all ++ k) = leftOf (l ++ k) := by
  have h := (leftOf_both ((leftOf l).all ++ k)).1.same (T := fun m => Fits k m ∨ m ∈ (leftOf l).all) fun m => by
    rw [fits_append, (leftOf_good l).fits]; exact Or.comm
  exact leftOf_eq (((leftOf_both l).1.of_all h).same fun m => by rw [fits_append]; exact Or.comm)
theorem leftOf_comm (l k : List Mu) : leftOf (l ++ k) = leftOf (k ++ l) := leftOf_congr fun m => by rw [fits_append, fits_append]; exact Or.comm
theorem leftOf_swallow2 (l k : List Mu) : leftOf (l ++ (leftOf k).all) = leftOf (l ++ k) := by rw [leftOf_comm, leftOf_swallow, leftOf_comm]
def joinC (c d : Con) : Con := leftOf (c.all ++ d.all)
def addC (c : Con) (m : Mu) : Con := leftOf (c.all ++ [m])
theorem joinC_left (l k : List Mu) : joinC (leftOf l) (leftOf k) = leftOf (l ++ k) := by unfold joinC; rw [leftOf_swallow, leftOf_swallow2]
theorem joinC_good {c d : Con} {n k : Nat} (h : Good c n) (g : Good d k) : Good (joinC c d) (n + k) := (leftOf_good _).more (by rw [List.length_append]; have := h.okc.len; have := g.okc.len; omega)
theorem addC_left (l : List Mu) (m : Mu) : addC (leftOf l) m = leftOf (l ++ [m]) := leftOf_swallow l [m]
theorem addC_good {c : Con} {n : Nat} (h : Good c n) (m : Mu) : Good (addC c m) (n + 1) := (leftOf_good _).more (by rw [List.length_append, List.length_singleton]; have := h.okc.len; omega)
/-- Both parts of a content are all of it. -/
theorem parts_join {c : Con} {n : Nat} (h : Good c n) (p : Mu → Bool) : joinC (c.filter p) (c.filter fun m => !p m) = c := by
  unfold joinC
  rw [filter_all, filter_all]
  conv => rhs; rw [← h.left]
  refine leftOf_congr fun m => ?_
  unfold Fits
  rw [List.mem_append, List.mem_filter, List.mem_filter]
  constructor
  · rintro ⟨g | g, g2⟩
    · exact ⟨g.1, g2⟩
    · exact ⟨g.1, g2⟩
  · rintro ⟨g, g2⟩
    refine ⟨?_, g2⟩
    cases hp : p m
    · exact Or.inr ⟨g, by simp [hp]⟩
    · exact Or.inl ⟨g, rfl⟩
/-- All of it, rising. -/
def allF (c : Con) : List Mu := c.all.mergeSort fun a b => decide (muC a b ≤ 0)
theorem sorted_all (l : List Mu) : (l.mergeSort fun a b => decide (muC a b ≤ 0)).Pairwise fun a b => muC a b ≤ 0 := by
  refine (List.pairwise_mergeSort (le := fun a b => decide (muC a b ≤ 0)) ?_ ?_ l).imp fun h => of_decide_eq_true h
  · intro a b c h1 h2
    exact decide_eq_true (muO.le_le (of_decide_eq_true h1) (of_decide_eq_true h2))
  · intro a b
    have := muO.swap a b
    by_cases h : muC a b ≤ 0
    · simp [h]
    · have : muC b a ≤ 0 := by omega
      simp [this]
theorem Good.allOf {c : Con} {n : Nat} (h : Good c n) : AllOf c (allF c) := AllOf.of_perm h.reps (List.mergeSort_perm _ _) (sorted_all _)
theorem Good.all_eq {c : Con} {n : Nat} (h : Good c n) {l : List Mu} (hl : AllOf c l) : l = allF c := hl.unique h.allOf
theorem mem_allF {c : Con} {m : Mu} : m ∈ allF c ↔ m ∈ c.all := (List.mergeSort_perm _ _).mem_iff
theorem len_allF (c : Con) : (allF c).length = c.all.length := (List.mergeSort_perm _ _).length_eq

/-! ## Values that are contents -/
def IsC (c : Con) (v : Value) (w : World) : Prop := ∃ a b d, v = .agg #[a, b, d] ∧ Lies w a b d c
theorem IsC.below {c : Con} {v : Value} {w w' : World} (h : IsC c v w) (hb : RowKit.Below w.heap.size w w') : IsC c v w' := by
  obtain ⟨a, b, d, e, h⟩ := h
  exact ⟨a, b, d, e, h.below hb⟩
theorem Lies.is {w : World} {a b d : Value} {c : Con} (h : Lies w a b d c) : IsC c (.agg #[a, b, d]) w := ⟨a, b, d, rfl, h⟩
theorem IsC.plain3 {c : Con} {v : Value} {w w' : World} (h : IsC c v w) (hp : Plain3 w w') : IsC c v w' := by
  obtain ⟨a, b, d, e, h⟩ := h
  exact ⟨a, b, d, e, h.plain3 hp⟩
theorem IsC.form {c : Con} {v : Value} {w : World} (h : IsC c v w) : ∃ o1 n1 k1 o2 n2 k2 o3 n3 k3, v = .agg #[.slice o1 n1 k1, .slice o2 n2 k2, .slice o3 n3 k3] ∧ Lies w (.slice o1 n1 k1) (.slice o2 n2 k2) (.slice o3 n3 k3) c := by
  obtain ⟨a, b, d, rfl, h⟩ := h
  obtain ⟨o1, n1, k1, rfl⟩ := h.cells.slice
  obtain ⟨o2, n2, k2, rfl⟩ := h.wipes.slice
  obtain ⟨o3, n3, k3, rfl⟩ := h.sibs.slice
  exact ⟨o1, n1, k1, o2, n2, k2, o3, n3, k3, rfl, h⟩
/-- A known content comes back. -/
def RetC (c : Con) (w : World) (e : Ending) (w' : World) : Prop := ∃ v, e = .returned v ∧ IsC c v w' ∧ RowKit.Below w.heap.size w w'
/-- A known row comes back. -/
def RetR (l : List Mu) (w : World) (e : Ending) (w' : World) : Prop := ∃ v, e = .returned v ∧ Reads w' v l ∧ RowKit.Below w.heap.size w w'
/-- A known truth value comes back. -/
def RetB (q : Bool) (w : World) (e : Ending) (w' : World) : Prop := e = .returned (.bool q) ∧ RowKit.Below w.heap.size w w'

section
variable {c c' : Con} {n n' : Nat} {v v' : Value} {w : World}
theorem c_of {l : List Mu} (hT : Tabs w) (hv : Reads w v l) (hn : l.length ≤ 10000) (hs : ∀ m ∈ l, Small m) : Calls Tryz.prog 7 #[v] w (RetC (leftOf l) w) := by
  obtain ⟨R, rfl, hv⟩ := hv
  refine (of_any v R w hT hv (by simpa using hn) (fun x hx => hs _ (List.mem_map.2 ⟨x, hx, rfl⟩))).mono ?_
  rintro e w' ⟨a, b, d, c, rfl, hl, hr, -, hb⟩
  rw [← leftOf_eq hr]
  exact ⟨_, rfl, hl.is, hb⟩
theorem c_refof {l : List Mu} (hT : Tabs w) (hv : Reads w v l) (hn : l.length ≤ 10000) (hs : ∀ m ∈ l, Small m) : Calls Tryz.prog 9 #[v] w (RetC (leftOf l) w) := by
  obtain ⟨R, rfl, hv⟩ := hv
  refine (refof_con v R w hT hv (fun x hx => hs _ (List.mem_map.2 ⟨x, hx, rfl⟩)) (by simpa using hn)).mono ?_
  rintro e w' ⟨a, b, d, c, rfl, hl, hr, -, hb⟩
  rw [← leftOf_eq hr]
  exact ⟨_, rfl, hl.is, hb⟩
theorem c_join (hT : Tabs w) (hv : IsC c v w) (h : Good c n) (hv' : IsC c' v' w) (h' : Good c' n') (hn : n + n' ≤ 90000) : Calls Tryz.prog 83 #[v, v'] w (RetC (joinC c c') w) := by
  obtain ⟨a, b, d, rfl, hl⟩ := hv
  obtain ⟨a', b', d', rfl, hl'⟩ := hv'
  refine (join_any a b d a' b' d' c c' _ _ n n' w hT hl h.reps h.okc hl' h'.reps h'.okc hn).mono ?_
  rintro e w' ⟨a, b, d, c2, rfl, hl, hr, -, hb⟩
  have : c2 = joinC c c' := leftOf_eq (hr.same fun m => by rw [fits_append, h.fits, h'.fits])
  rw [← this]
  exact ⟨_, rfl, hl.is, hb⟩
theorem c_add {x : Ro} (hT : Tabs w) (hv : IsC c v w) (h : Good c n) (hn : n ≤ 100000) (hx : Over w x) (hs : Small x.1) : Calls Tryz.prog 19 #[v, vM x] w (RetC (addC c x.1) w) := by
  obtain ⟨a, b, d, rfl, hl⟩ := hv
  refine (add_any a b d c _ n x w hT hl h.reps h.okc hn hx hs).mono ?_
  rintro e w' ⟨a, b, d, c2, rfl, hl, hr, -, hb⟩
  have : c2 = addC c x.1 := leftOf_eq (hr.same fun m => by
    rw [fits_append, h.fits]
    unfold Fits
    rw [List.mem_singleton]
    exact or_congr_right ⟨fun g => ⟨g.1, g.1 ▸ g.2⟩, fun g => ⟨g.1, g.1 ▸ g.2⟩⟩)
  rw [← this]
  exact ⟨_, rfl, hl.is, hb⟩
theorem c_upto (s : Stp) (hv : IsC c v w) (h : Good c n) (hn : n ≤ 100000) : Calls Tryz.prog 49 #[v, vS s] w (RetC (c.filter fun m => !decide (stC s m.at_ < 0)) w) := by
  obtain ⟨a, b, d, rfl, hl⟩ := hv
  refine (upto_any a b d c n s w hl h.okc hn).mono ?_
  rintro e w' ⟨a, b, d, rfl, hl, hb⟩
  exact ⟨_, rfl, hl.is, hb⟩
theorem c_same (q : Bool) (hq : q = true ↔ c = c') (hv : IsC c v w) (h : Good c n) (hv' : IsC c' v' w) (h' : Good c' n') (hn : n ≤ 100000) (hn' : n' ≤ 100000) : Calls Tryz.prog 204 #[v, v'] w (RetB q w) := by
  obtain ⟨a, b, d, rfl, hl⟩ := hv
  obtain ⟨a', b', d', rfl, hl'⟩ := hv'
  exact same_con a b d a' b' d' c c' _ _ n n' w q hq hl h.reps h.okc hl' h'.reps h'.okc hn hn'
theorem c_refsame (q : Bool) (hq : q = true ↔ c = c') (hv : IsC c v w) (h : Good c n) (hv' : IsC c' v' w) (h' : Good c' n') : Calls Tryz.prog 11 #[v, v'] w (RetB q w) := by
  obtain ⟨a, b, d, rfl, hl⟩ := hv
  obtain ⟨a', b', d', rfl, hl'⟩ := hv'
  exact refsame8_any a b d a' b' d' c c' q w hq hl hl' (fun m hm => small_right (h.okc.right m hm)) (fun m hm => small_right (h'.okc.right m hm))
theorem c_is (q : Bool) (hq : q = true ↔ c = c') (hv : IsC c v w) (h : Good c n) (hv' : IsC c' v' w) (h' : Good c' n') : Calls Tryz.prog 5 #[v, v'] w (RetB q w) := by
  obtain ⟨a, b, d, rfl, hl⟩ := hv
  obtain ⟨a', b', d', rfl, hl'⟩ := hv'
  exact is_any a b d a' b' d' c c' q w hq hl hl' (fun m hm => small_right (h.okc.right m hm)) (fun m hm => small_right (h'.okc.right m hm))
theorem c_all (hv : IsC c v w) (h : Good c n) (hn : n ≤ 100000) : Calls Tryz.prog 127 #[v] w fun e w' => ∃ g cap R, e = .returned (.slice (some ⟨g, 0, none⟩) R.length cap) ∧ Copied w' (.slice (some ⟨g, 0, none⟩) R.length cap) R w.heap.size ∧ R.map (·.1) = allF c ∧ RowKit.Below w.heap.size w w' := by
  obtain ⟨a, b, d, rfl, hl⟩ := hv
  refine (all_any a b d c n w hl h.okc hn).mono ?_
  rintro e w' ⟨g, cap, R, rfl, hc, hp, hs, hb⟩
  have e1 : c.all.length = R.length := by have := hp.length_eq; simpa using this.symm
  rw [e1] at hc ⊢
  exact ⟨g, cap, R, rfl, hc, h.all_eq (AllOf.of_perm h.reps hp hs), hb⟩
end
end Go.Proofs.YtmjelcjdfamikaaGreatDoor.Mut
