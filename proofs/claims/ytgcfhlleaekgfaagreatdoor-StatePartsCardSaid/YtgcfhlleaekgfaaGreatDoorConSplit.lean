/- The walks of state.Content's split, Above, Upto (layer 8). -/
import Derived.Test.YtgcfhlleaekgfaaGreatDoorConMore
import Derived.Test.YtgcfhlleaekgfaaGreatDoorRegApp
namespace Go.Proofs.YtgcfhlleaekgfaaGreatDoor.Mut
open Go.RowKit Go.Sort Go.Proofs.YtgcfhlleaekgfaaGreatDoor.Ord Go.Proofs.YtgcfhlleaekgfaaGreatDoor.RegInv

/-- A question on stamps: answered so in every world in which no more than that row has changed. -/
def Tests (w₀ : World) (row : Option Nat) (g : FuncId) (cb : Array Value) (q : Stp → Bool) : Prop :=
  ∀ (s : Stp) (w : World), w₀.grownBy w row → Calls Tryz.prog g (#[vS s] ++ cb) w fun e w' => e = .returned (.bool (q s)) ∧ RowKit.Below w.heap.size w w'
theorem Tests.later {w w' : World} {row : Option Nat} {g : FuncId} {cb : Array Value} {p : Stp → Bool} (h : Tests w row g cb p) (hg : w.grownBy w' row) : Tests w' row g cb p := fun x z hz =>
  h x z ⟨hz.os.trans hg.os, hz.tape.trans hg.tape, hz.output.trans hg.output, Nat.le_trans hg.size hz.size, fun i hi hne => (hz.block i (Nat.lt_of_lt_of_le hi hg.size) hne).trans (hg.block i hi hne)⟩

set_option maxHeartbeats 1000000 in
set_option maxRecDepth 100000 in
theorem test_above (s : Stp) (c : Nat) (row : Option Nat) (w : World) (hc : c < w.heap.size) (h0 : w.cell? ⟨c, 0, none⟩ = some (.int .i64 s.p)) (h1 : w.cell? ⟨c, 1, none⟩ = some (.int .i64 s.l)) (h2 : w.cell? ⟨c, 2, none⟩ = some (.int .i64 s.w)) (hr : row ≠ some c) :
    Tests w row 53 #[.pointer (some ⟨c, 0, none⟩)] (fun x => decide (stC s x < 0)) := by
  intro x w1 hg
  have ec : ∀ k, w1.cell? ⟨c, k, none⟩ = w.cell? ⟨c, k, none⟩ := fun k => World.cell?_of_block (hg.block c hc (fun e => hr e.symm))
  have hc1 : c < w1.heap.size := Nat.lt_of_lt_of_le hc hg.size
  have s0 := (ec 0).trans h0
  have s1 := (ec 1).trans h1
  have s2 := (ec 2).trans h2
  have HL := Lib.hid (fun W => stless_any s x W)
  simp only []
  obtain ⟨Q, hQ⟩ : ∃ Q, Q = decide (stC s x < 0) := ⟨_, rfl⟩
  rw [← hQ] at HL ⊢
  clear hQ hr hg ec h0 h1 h2
  obtain ⟨ap1, al1, aw1⟩ := x
  obtain ⟨sp, sl, sw⟩ := s
  unfold vS at HL ⊢
  simp only [] at HL s0 s1 s2 ⊢
  go_enter Tryz.func53, Tryz.ntmps53
  go_wp2_with fail
  refine (HL.out _).mono ?_
  rintro e w2 ⟨rfl, hb⟩
  go_wp2_with fail
  go_ret
  exact ⟨rfl, ((Lays.refl _).alloc _ |>.trans hb).below⟩
set_option maxHeartbeats 1000000 in
set_option maxRecDepth 100000 in
theorem test_upto (s : Stp) (c : Nat) (row : Option Nat) (w : World) (hc : c < w.heap.size) (h0 : w.cell? ⟨c, 0, none⟩ = some (.int .i64 s.p)) (h1 : w.cell? ⟨c, 1, none⟩ = some (.int .i64 s.l)) (h2 : w.cell? ⟨c, 2, none⟩ = some (.int .i64 s.w)) (hr : row ≠ some c) :
    Tests w row 55 #[.pointer (some ⟨c, 0, none⟩)] (fun x => !decide (stC s x < 0)) := by
  intro x w1 hg
  have ec : ∀ k, w1.cell? ⟨c, k, none⟩ = w.cell? ⟨c, k, none⟩ := fun k => World.cell?_of_block (hg.block c hc (fun e => hr e.symm))
  have hc1 : c < w1.heap.size := Nat.lt_of_lt_of_le hc hg.size
  have s0 := (ec 0).trans h0
  have s1 := (ec 1).trans h1
  have s2 := (ec 2).trans h2
  have HL := Lib.hid (fun W => stless_any s x W)
  simp only []
  obtain ⟨Q, hQ⟩ : ∃ Q, Q = decide (stC s x < 0) := ⟨_, rfl⟩
  rw [← hQ] at HL ⊢
  clear hQ hr hg ec h0 h1 h2
  obtain ⟨ap1, al1, aw1⟩ := x
  obtain ⟨sp, sl, sw⟩ := s
  unfold vS at HL ⊢
  simp only [] at HL s0 s1 s2 ⊢
  go_enter Tryz.func55, Tryz.ntmps55
  go_wp2_with fail
  refine (HL.out _).mono ?_
  rintro e w2 ⟨rfl, hb⟩
  go_wp2_with fail
  go_ret
  exact ⟨rfl, ((Lays.refl _).alloc _ |>.trans hb).below⟩

set_option maxHeartbeats 1000000 in
set_option maxRecDepth 100000 in
theorem ask_split (c : Nat) (gf : FuncId) (cb : Array Value) (q : Stp → Bool) (row : Option Nat) (w : World) (hc : c < w.heap.size) (h0 : w.cell? ⟨c, 0, none⟩ = some (.func (.func gf) #[] cb)) (hr : row ≠ some c) (he : ∀ args w, (callFunc gf args).run Tryz.prog w = .ok (.enter gf args) w) (ht : Tests w row gf cb q) :
    Asks w row 98 #[.pointer (some ⟨c, 0, none⟩)] (fun x => !q x.at_) := by
  intro x w1 hg hx
  have hc1 : c < w1.heap.size := Nat.lt_of_lt_of_le hc hg.size
  have s0 := (World.cell?_of_block (a := ⟨c, 0, none⟩) (hg.block c hc (fun e => hr e.symm))).trans h0
  have HL := Lib.hid (fun (W : World) (hW : RowKit.Below w1.heap.size w1 W) => ht x.1.at_ W (grown_then hg hW))
  simp only []
  obtain ⟨Q, hQ⟩ : ∃ Q, Q = q x.1.at_ := ⟨_, rfl⟩
  rw [← hQ] at HL ⊢
  clear hQ hr hg h0 ht hc
  obtain ⟨ao, n, cap, e1⟩ := hx
  obtain ⟨⟨at1, ak1, akey1, afin1, aval1, aex1, ⟨ap1, al1, aw1⟩, aov1⟩, av1⟩ := x
  simp only [] at e1
  subst e1
  unfold vM
  unfold vS at HL
  simp only [] at HL ⊢
  go_enter Tryz.func98, Tryz.ntmps98
  have hB := Lib.hid ((Below.refl _ w1).alloc (Nat.le_refl _) (.cells #[.int .i64 at1, .int .i64 ak1, .string akey1, .string afin1, .string aval1, .int .i64 aex1, .int .i64 ap1, .int .i64 al1, .int .i64 aw1, .slice ao n cap] 29))
  go_wp2_with fail
  refine (HL.out _ hB.out).mono ?_
  rintro e w2 ⟨rfl, hb⟩
  have HB := Lib.hid (below_then hB.out (Nat.le_refl _) hb)
  go_wp2_with fail
  go_ret
  exact ⟨rfl, HB.out⟩

theorem Copied.filtered {base : Nat} {w w' : World} {R K : List Ro} {v v' : Value} (h : Copied w v R base) (hk : ∀ x ∈ K, x ∈ R) (ho : w'.ownsRow base 29 10 v' K.length (K.flatMap enM)) (hg : w.grownBy w' v.ownBlock) : MRow w' v' K :=
  ⟨Lst.owned enM_len (by decide) rfl ho, fun x hx => Lst.owned enS_len (by decide) rfl ((h.over x (hk x hx)).kept hg (rows_apart (h.over x (hk x hx)) h.row (by decide)))⟩
/-- What is left of a row comes back. -/
def PartP (w : World) (l : List Mu) (e : Ending) (w' : World) : Prop := ∃ v R, e = .returned v ∧ R.map (·.1) = l ∧ MRow w' v R ∧ RowKit.Below w.heap.size w w'

set_option maxHeartbeats 2000000 in
set_option maxRecDepth 100000 in
theorem partof_any (v : Value) (R : List Ro) (c : Nat) (gf : FuncId) (cb : Array Value) (q : Stp → Bool) (w : World) (hv : MRow w v R) (hs : ∀ x ∈ R, Small x.1) (hn : R.length ≤ 100000) (hc : c < w.heap.size) (h0 : w.cell? ⟨c, 0, none⟩ = some (.func (.func gf) #[] cb)) (he : ∀ args w, (callFunc gf args).run Tryz.prog w = .ok (.enter gf args) w) (ht : ∀ row, (∀ k, row = some k → w.heap.size ≤ k) → Tests w row gf cb q) :
    Calls Tryz.prog 97 #[v, .pointer (some ⟨c, 0, none⟩)] w (PartP w ((R.map (·.1)).filter fun m => q m.at_)) := by
  have HC := Lib.hid (copies_any v R w hv (fun x hx => (hs x hx).over) hn)
  have HD := Lib.hid (fun (W : World) (hW : RowKit.Below w.heap.size w W) (g cap : Nat) (R1 : List Ro) (hcp : Copied W (.slice (some ⟨g, 0, none⟩) R1.length cap) R1 w.heap.size) (hl : R1.length ≤ 100000) =>
    delete_any w.heap.size (.slice (some ⟨g, 0, none⟩) R1.length cap) R1 98 #[.pointer (some ⟨c, 0, none⟩)] (fun x => !q x.at_) W hcp.row hcp.mrow.forms (by omega)
      (ask_split c gf cb q _ W (Nat.lt_of_lt_of_le hc hW.size) ((hW.cell (p := ⟨c, 0, none⟩) hc).trans h0) (fun e => by have := (hcp.row.lt c e).1; omega) he ((ht _ (fun k hk => (hcp.row.lt k hk).1)).later (grown_below hW _)))
      (enters_of Tryz.func98 (by kernel_rfl) rfl))
  obtain ⟨ao, cap, rfl, -, -⟩ := hv.form
  obtain ⟨n, hN⟩ : ∃ n, n = R.length := ⟨_, rfl⟩
  unfold CopiesP at HC
  rw [← hN] at HC hn ⊢
  have HN := Lib.hid hN
  clear hv hs hc h0 he ht hN
  go_enter Tryz.func97, Tryz.ntmps97
  go_wp2_with fail
  refine HC.out.mono ?_
  rintro e w1 ⟨v1, R1, rfl, ⟨g, cap1, rfl⟩, hm, hcp, hb⟩
  have hl1 : n = R1.length := by have h := congrArg List.length hm; simp only [List.length_map] at h; rw [HN.out]; exact h.symm
  rw [hl1] at hcp
  have HD1 := Lib.hid (HD.out w1 hb g cap1 R1 hcp (by omega))
  rw [← hl1] at HD1
  have HP := Lib.hid (And.intro hm (And.intro hcp (And.intro hl1 hb)))
  clear hm hcp hb hl1 HC HD
  go_wp2_with fail
  refine HD1.out.mono ?_
  rintro e w2 ⟨v2, rfl, ho, hg, -⟩
  have hb2 : RowKit.Below w.heap.size w w2 := HP.out.2.2.2.grown hg HP.out.2.2.2.size (fun k hk => (HP.out.2.1.row.lt k (by rw [HP.out.2.2.1] at hk; exact hk)).1)
  have hmr := HP.out.2.1.filtered (K := R1.filter fun x => !!q x.1.at_) (fun x hx => (List.mem_filter.1 hx).1) ho (by rw [← HP.out.2.2.1]; exact hg)
  have HF := Lib.hid (And.intro hmr hb2)
  clear ho hg hmr hb2
  go_wp2_with fail
  go_ret
  refine ⟨_, _, rfl, ?_, HF.out.1, HF.out.2⟩
  rw [← HP.out.1, List.filter_map]
  simp only [Bool.not_not]
  rfl

/-- The part of a content comes back. -/
def SubP (w : World) (c : Con) (f : Mu → Bool) (e : Ending) (w' : World) : Prop := ∃ a b d, e = .returned (.agg #[a, b, d]) ∧ Lies w' a b d (c.filter f) ∧ RowKit.Below w.heap.size w w'

set_option maxHeartbeats 4000000 in
set_option maxRecDepth 100000 in
theorem split_any (a b d : Value) (c : Con) (n : Nat) (gf : FuncId) (cb : Array Value) (q : Stp → Bool) (w : World) (hc : Lies w a b d c) (hO : Okc c n) (hn : n ≤ 100000) (he : ∀ args w, (callFunc gf args).run Tryz.prog w = .ok (.enter gf args) w) (ht : ∀ row, (∀ k, row = some k → w.heap.size ≤ k) → Tests w row gf cb q) :
    Calls Tryz.prog 52 #[.agg #[a, b, d], .func (.func gf) #[] cb] w (SubP w c fun m => q m.at_) := by
  have hln := hO.lens
  obtain ⟨⟨ra, ea, hra⟩, ⟨rb, eb, hrb⟩, ⟨rd, ed, hrd⟩⟩ := hc
  have la : ra.length ≤ 100000 := by have h : c.cells.length = ra.length := by rw [← ea]; simp
                                     omega
  have lb : rb.length ≤ 100000 := by have h : c.wipes.length = rb.length := by rw [← eb]; simp
                                     omega
  have ld : rd.length ≤ 100000 := by have h : c.sibs.length = rd.length := by rw [← ed]; simp
                                     omega
  have sa : ∀ x ∈ ra, Small x.1 := fun x hx => small_right (hO.right _ (Con.mem_all.2 (Or.inl (ea ▸ List.mem_map.2 ⟨x, hx, rfl⟩))))
  have sb : ∀ x ∈ rb, Small x.1 := fun x hx => small_right (hO.right _ (Con.mem_all.2 (Or.inr (Or.inl (eb ▸ List.mem_map.2 ⟨x, hx, rfl⟩)))))
  have sd : ∀ x ∈ rd, Small x.1 := fun x hx => small_right (hO.right _ (Con.mem_all.2 (Or.inr (Or.inr (ed ▸ List.mem_map.2 ⟨x, hx, rfl⟩)))))
  obtain ⟨o1, k1, rfl, -, -⟩ := hra.form
  obtain ⟨o2, k2, rfl, -, -⟩ := hrb.form
  obtain ⟨o3, k3, rfl, -, -⟩ := hrd.form
  obtain ⟨W0, hW0⟩ : ∃ W0, W0 = ((w.alloc (.cells #[.slice o1 ra.length k1, .slice o2 rb.length k2, .slice o3 rd.length k3] 32)).alloc (.cells #[.func (.func gf) #[] cb] 73)).alloc (.cells #[.slice none 0 0, .slice none 0 0, .slice none 0 0] 32) := ⟨_, rfl⟩
  have hb0 : RowKit.Below w.heap.size w W0 := by rw [hW0]; exact (((Below.refl _ w).alloc (Nat.le_refl _) _).alloc (by simp) _).alloc (by simp; omega) _
  have hP : C3 W0 w.heap.size (.slice o1 ra.length k1) (.slice o2 rb.length k2) (.slice o3 rd.length k3) := by
    rw [hW0]
    exact ((C3.new w _ _ _).below ((Below.refl _ _).alloc (Nat.le_refl _) _)).below ((Below.refl _ _).alloc (Nat.le_refl _) _)
  have hT : C3 W0 (w.heap.size + 1 + 1) (.slice none 0 0) (.slice none 0 0) (.slice none 0 0) := by
    rw [hW0]
    have := C3.new ((w.alloc (.cells #[.slice o1 ra.length k1, .slice o2 rb.length k2, .slice o3 rd.length k3] 32)).alloc (.cells #[.func (.func gf) #[] cb] 73)) (.slice none 0 0) (.slice none 0 0) (.slice none 0 0)
    rwa [World.size_alloc, World.size_alloc] at this
  have hF : W0.cell? ⟨w.heap.size + 1, 0, none⟩ = some (.func (.func gf) #[] cb) := by rw [hW0]; go_simp
  have hz : w.heap.size + 1 < W0.heap.size := by have := hT.lt; omega
  have HCall := Lib.hid (fun (v : Value) (R : List Ro) (hv : MRow w v R) (hs : ∀ x ∈ R, Small x.1) (hl : R.length ≤ 100000) (W : World) (hW : RowKit.Below W0.heap.size W0 W) =>
    partof_any v R (w.heap.size + 1) gf cb q W (hv.below (below_then hb0 (Nat.le_refl _) hW)) hs hl (Nat.lt_of_lt_of_le hz hW.size) ((hW.cell (p := ⟨w.heap.size + 1, 0, none⟩) hz).trans hF) he (fun row hr => (ht row (fun k hk => Nat.le_trans (below_then hb0 (Nat.le_refl _) hW).size (hr k hk))).later (grown_below (below_then hb0 (Nat.le_refl _) hW) _)))
  have HA := Lib.hid (HCall.out _ ra hra sa la)
  have HB := Lib.hid (HCall.out _ rb hrb sb lb)
  have HD := Lib.hid (HCall.out _ rd hrd sd ld)
  rw [ea] at HA
  rw [eb] at HB
  rw [ed] at HD
  obtain ⟨n1, h1⟩ : ∃ n, n = ra.length := ⟨_, rfl⟩
  obtain ⟨n2, h2⟩ : ∃ n, n = rb.length := ⟨_, rfl⟩
  obtain ⟨n3, h3⟩ : ∃ n, n = rd.length := ⟨_, rfl⟩
  rw [← h1] at HA hP hW0 ⊢
  rw [← h2] at HB hP hW0 ⊢
  rw [← h3] at HD hP hW0 ⊢
  have HP := Lib.hid hP
  have HT := Lib.hid hT
  have HB0 := Lib.hid hb0
  have HW := Lib.hid hW0
  have he1 : ∀ args w, (callFunc 97 args).run Tryz.prog w = .ok (.enter 97 args) w := enters_of Tryz.func97 (by kernel_rfl) rfl
  clear hln ea hra eb hrb ed hrd la lb ld sa sb sd hb0 hP hT hF hz HCall h1 h2 h3 hW0 he ht hO hn
  go_enter Tryz.func52, Tryz.ntmps52
  go_upto_region 2 with fail
  rw [← HW.out]
  clear HW
  go_wp2_with fail
  refine wp_region_told [] 13 [false, false, false, false, false, false, false, true, true, true, true, true, true, true, true, true, true, true, true, true]
    [sLit (.func (.func 97) #[] #[.pointer (some ⟨w.heap.size + 1, 0, none⟩)]),
    sLit (.pointer (some ⟨w.heap.size, 0, none⟩)),
    sLit (.slice o1 n1 k1),
    sOne (fun v W => Reads W v (c.cells.filter fun m => q m.at_)) (fun _ _ _ h hb => h.below hb),
    sLit (.func (.func 97) #[] #[.pointer (some ⟨w.heap.size + 1, 0, none⟩)]),
    sLit (.pointer (some ⟨w.heap.size, 1, none⟩)),
    sLit (.slice o2 n2 k2),
    sOne (fun v W => Reads W v (c.wipes.filter fun m => q m.at_)) (fun _ _ _ h hb => h.below hb),
    sLit (.func (.func 97) #[] #[.pointer (some ⟨w.heap.size + 1, 0, none⟩)]),
    sLit (.pointer (some ⟨w.heap.size, 2, none⟩)),
    sLit (.slice o3 n3 k3),
    sOne (fun v W => Reads W v (c.sibs.filter fun m => q m.at_)) (fun _ _ _ h hb => h.below hb),
    sFn3 10 14 18 (fun x0 x1 x2 => .agg #[x0, x1, x2])] (by kernel_rfl) (by kernel_rfl) (by kernel_rfl) (fun F hF => ?_)
  simp only [over, overL, Nat.reduceAdd] at hF
  obtain rfl := funext hF
  clear hF
  refine ⟨⟨?_, ?_, ?_, ?_, ?_, ?_, ?_, ?_, ?_, ?_, ?_, ?_, ?_, trivial⟩, ?_⟩
  · intro V W hb hd K hK _
    clear hd
    go_wp2_with fail
    refine hK _ _ ?_ ?_ ?_ ?_
    · rfl
    · exact Below.refl _ _
    · exact rfl
    · trivial
  · intro V W hb hd K hK _
    clear hd
    go_wp2_with fail
    refine hK _ _ ?_ ?_ ?_ ?_
    · rfl
    · exact Below.refl _ _
    · exact rfl
    · trivial
  · intro V W hb hd K hK _
    have h1 : (V 8) = .pointer (some ⟨w.heap.size, 0, none⟩) := hd 1 (by kernel_rfl)
    clear hd
    obtain ⟨-, s0, s1, s2, -⟩ := HP.out.below hb
    go_wp2_with fail
    refine hK _ _ ?_ ?_ ?_ ?_
    · rfl
    · exact Below.refl _ _
    · exact rfl
    · trivial
  · intro V W hb hd K hK _
    have h0 : (V 7) = .func (.func 97) #[] #[.pointer (some ⟨w.heap.size + 1, 0, none⟩)] := hd 0 (by kernel_rfl)
    have h2 : (V 9) = .slice o1 n1 k1 := hd 2 (by kernel_rfl)
    clear hd
    go_wp2_with fail
    refine (HA.out _ hb).mono ?_
    rintro e w1 ⟨v1, R1, rfl, hm1, hr1, hb1⟩
    go_wp2_with fail
    refine hK _ _ ?_ ?_ ?_ ?_
    · rfl
    · exact hb1
    · exact ⟨R1, hm1, hr1⟩
    · trivial
  · intro V W hb hd K hK _
    clear hd
    go_wp2_with fail
    refine hK _ _ ?_ ?_ ?_ ?_
    · rfl
    · exact Below.refl _ _
    · exact rfl
    · trivial
  · intro V W hb hd K hK _
    clear hd
    go_wp2_with fail
    refine hK _ _ ?_ ?_ ?_ ?_
    · rfl
    · exact Below.refl _ _
    · exact rfl
    · trivial
  · intro V W hb hd K hK _
    have h5 : (V 12) = .pointer (some ⟨w.heap.size, 1, none⟩) := hd 5 (by kernel_rfl)
    clear hd
    obtain ⟨-, s0, s1, s2, -⟩ := HP.out.below hb
    go_wp2_with fail
    refine hK _ _ ?_ ?_ ?_ ?_
    · rfl
    · exact Below.refl _ _
    · exact rfl
    · trivial
  · intro V W hb hd K hK _
    have h4 : (V 11) = .func (.func 97) #[] #[.pointer (some ⟨w.heap.size + 1, 0, none⟩)] := hd 4 (by kernel_rfl)
    have h6 : (V 13) = .slice o2 n2 k2 := hd 6 (by kernel_rfl)
    clear hd
    go_wp2_with fail
    refine (HB.out _ hb).mono ?_
    rintro e w1 ⟨v1, R1, rfl, hm1, hr1, hb1⟩
    go_wp2_with fail
    refine hK _ _ ?_ ?_ ?_ ?_
    · rfl
    · exact hb1
    · exact ⟨R1, hm1, hr1⟩
    · trivial
  · intro V W hb hd K hK _
    clear hd
    go_wp2_with fail
    refine hK _ _ ?_ ?_ ?_ ?_
    · rfl
    · exact Below.refl _ _
    · exact rfl
    · trivial
  · intro V W hb hd K hK _
    clear hd
    go_wp2_with fail
    refine hK _ _ ?_ ?_ ?_ ?_
    · rfl
    · exact Below.refl _ _
    · exact rfl
    · trivial
  · intro V W hb hd K hK _
    have h9 : (V 16) = .pointer (some ⟨w.heap.size, 2, none⟩) := hd 9 (by kernel_rfl)
    clear hd
    obtain ⟨-, s0, s1, s2, -⟩ := HP.out.below hb
    go_wp2_with fail
    refine hK _ _ ?_ ?_ ?_ ?_
    · rfl
    · exact Below.refl _ _
    · exact rfl
    · trivial
  · intro V W hb hd K hK _
    have h8 : (V 15) = .func (.func 97) #[] #[.pointer (some ⟨w.heap.size + 1, 0, none⟩)] := hd 8 (by kernel_rfl)
    have h10 : (V 17) = .slice o3 n3 k3 := hd 10 (by kernel_rfl)
    clear hd
    go_wp2_with fail
    refine (HD.out _ hb).mono ?_
    rintro e w1 ⟨v1, R1, rfl, hm1, hr1, hb1⟩
    go_wp2_with fail
    refine hK _ _ ?_ ?_ ?_ ?_
    · rfl
    · exact hb1
    · exact ⟨R1, hm1, hr1⟩
    · trivial
  · intro V W hb hd K hK _
    have h3 : Reads W (V 10) (c.cells.filter fun m => q m.at_) := hd 3 (by kernel_rfl)
    have h7 : Reads W (V 14) (c.wipes.filter fun m => q m.at_) := hd 7 (by kernel_rfl)
    have h11 : Reads W (V 18) (c.sibs.filter fun m => q m.at_) := hd 11 (by kernel_rfl)
    clear hd
    obtain ⟨o3, k3, e3, -, -⟩ := h3.form
    obtain ⟨o7, k7, e7, -, -⟩ := h7.form
    obtain ⟨o11, k11, e11, -, -⟩ := h11.form
    go_wp2_with fail
    refine hK _ _ ?_ ?_ ?_ ?_
    · rfl
    · exact Below.refl _ _
    · exact (show _ = Value.agg #[V 10, V 14, V 18] by rw [e3, e7, e11]; rfl)
    · trivial
  · intro V W hb hd hap
    have h3 : Reads W (V 10) (c.cells.filter fun m => q m.at_) := hd 3 (by decide)
    have h7 : Reads W (V 14) (c.wipes.filter fun m => q m.at_) := hd 7 (by decide)
    have h11 : Reads W (V 18) (c.sibs.filter fun m => q m.at_) := hd 11 (by decide)
    have h12 : (V 19) = .agg #[V 10, V 14, V 18] := hd 12 (by decide)
    clear hd hap
    simp only [List.drop_succ_cons, List.drop_zero]
    have HT4 := Lib.hid (HT.out.below hb)
    obtain ⟨-, t0, t1, t2, f0, f1, f2⟩ := HT4.out
    obtain ⟨o4, k4, e3, -, -⟩ := h3.form
    obtain ⟨o5, k5, e7, -, -⟩ := h7.form
    obtain ⟨o6, k6, e11, -, -⟩ := h11.form
    rw [e3] at h3
    rw [e7] at h7
    rw [e11] at h11
    have HRR := Lib.hid (And.intro h3 (And.intro h7 h11))
    clear h3 h7 h11
    obtain ⟨n4, hn4⟩ : ∃ n, n = (c.cells.filter fun m => q m.at_).length := ⟨_, rfl⟩
    obtain ⟨n5, hn5⟩ : ∃ n, n = (c.wipes.filter fun m => q m.at_).length := ⟨_, rfl⟩
    obtain ⟨n6, hn6⟩ : ∃ n, n = (c.sibs.filter fun m => q m.at_).length := ⟨_, rfl⟩
    rw [← hn4] at e3 HRR
    rw [← hn5] at e7 HRR
    rw [← hn6] at e11 HRR
    clear hn4 hn5 hn6
    go_wp2_with fail
    obtain ⟨-, u0, u1, u2, -⟩ := c3_put HT4.out (.slice o4 n4 k4) (.slice o5 n5 k5) (.slice o6 n6 k6)
    refine bodyPost_ret (v := .agg #[.slice o4 n4 k4, .slice o5 n5 k5, .slice o6 n6 k6]) (by simp [results, Tryz.f52, go_sem, u0, u1, u2]) rfl ?_
    have hl : Lies _ (.slice o4 n4 k4) (.slice o5 n5 k5) (.slice o6 n6 k6) (c.filter fun m => q m.at_) := ⟨HRR.out.1, HRR.out.2.1, HRR.out.2.2⟩
    exact ⟨_, _, _, rfl, hl.plain3 (plain3 HT4.out _ _ _), c3_put_below (below_then HB0.out (Nat.le_refl _) hb) (by omega) _ _ _⟩

set_option maxHeartbeats 2000000 in
set_option maxRecDepth 100000 in
theorem above_any (a b d : Value) (c : Con) (n : Nat) (s : Stp) (w : World) (hc : Lies w a b d c) (hO : Okc c n) (hn : n ≤ 100000) :
    Calls Tryz.prog 18 #[.agg #[a, b, d], vS s] w (SubP w c (fun m => decide (stC s m.at_ < 0))) := by
  have HS := Lib.hid (fun (W : World) (hW : RowKit.Below w.heap.size w W) (k : Nat) (hk : k < W.heap.size) (h0 : W.cell? ⟨k, 0, none⟩ = some (.int .i64 s.p)) (h1 : W.cell? ⟨k, 1, none⟩ = some (.int .i64 s.l)) (h2 : W.cell? ⟨k, 2, none⟩ = some (.int .i64 s.w)) =>
    split_any a b d c n 53 #[.pointer (some ⟨k, 0, none⟩)] _ W (hc.below hW) hO hn (enters_of Tryz.func53 (by kernel_rfl) rfl) (fun row hr => test_above s k row W hk h0 h1 h2 (fun e => by have := hr k e; omega)))
  obtain ⟨o1, n1, k1, rfl⟩ := hc.cells.slice
  obtain ⟨o2, n2, k2, rfl⟩ := hc.wipes.slice
  obtain ⟨o3, n3, k3, rfl⟩ := hc.sibs.slice
  clear hc hO hn
  obtain ⟨sp, sl, sw⟩ := s
  unfold vS
  simp only [] at HS ⊢
  go_enter Tryz.func18, Tryz.ntmps18
  have hB := (((Below.refl _ w).alloc (Nat.le_refl _) (.cells #[.slice o1 n1 k1, .slice o2 n2 k2, .slice o3 n3 k3] 32)).alloc (by simp) (.cells #[.int .i64 sp, .int .i64 sl, .int .i64 sw] 26)).alloc (by simp; omega) (.cells #[.slice none 0 0, .slice none 0 0, .slice none 0 0] 32)
  have hT := C3.new ((w.alloc (.cells #[.slice o1 n1 k1, .slice o2 n2 k2, .slice o3 n3 k3] 32)).alloc (.cells #[.int .i64 sp, .int .i64 sl, .int .i64 sw] 26)) (.slice none 0 0) (.slice none 0 0) (.slice none 0 0)
  rw [World.size_alloc, World.size_alloc] at hT
  have HB := Lib.hid hB
  have HT := Lib.hid hT
  clear hB hT
  go_wp2_with fail
  refine (HS.out _ HB.out (w.heap.size + 1) (by simp) (by go_simp) (by go_simp) (by go_simp)).mono ?_
  rintro e w1 ⟨va, vb, vd, rfl, hl, hb⟩
  obtain ⟨o4, n4, k4, hv1⟩ := hl.cells.slice
  obtain ⟨o5, n5, k5, hv2⟩ := hl.wipes.slice
  obtain ⟨o6, n6, k6, hv3⟩ := hl.sibs.slice
  subst hv1 hv2 hv3
  have HL := Lib.hid hl
  have HB1 := Lib.hid (below_then HB.out (Nat.le_refl _) hb)
  have HT1 := Lib.hid (HT.out.below hb)
  clear hl hb
  obtain ⟨-, t0, t1, t2, f0, f1, f2⟩ := HT1.out
  go_wp2_with fail
  obtain ⟨-, e0, e1, e2, -⟩ := c3_put HT1.out (.slice o4 n4 k4) (.slice o5 n5 k5) (.slice o6 n6 k6)
  refine bodyPost_ret (v := .agg #[.slice o4 n4 k4, .slice o5 n5 k5, .slice o6 n6 k6]) (by simp [results, Tryz.f18, go_sem, e0, e1, e2]) rfl ?_
  exact ⟨_, _, _, rfl, HL.out.plain3 (plain3 HT1.out _ _ _), c3_put_below HB1.out (by omega) _ _ _⟩

set_option maxHeartbeats 2000000 in
set_option maxRecDepth 100000 in
theorem upto_any (a b d : Value) (c : Con) (n : Nat) (s : Stp) (w : World) (hc : Lies w a b d c) (hO : Okc c n) (hn : n ≤ 100000) :
    Calls Tryz.prog 19 #[.agg #[a, b, d], vS s] w (SubP w c (fun m => !decide (stC s m.at_ < 0))) := by
  have HS := Lib.hid (fun (W : World) (hW : RowKit.Below w.heap.size w W) (k : Nat) (hk : k < W.heap.size) (h0 : W.cell? ⟨k, 0, none⟩ = some (.int .i64 s.p)) (h1 : W.cell? ⟨k, 1, none⟩ = some (.int .i64 s.l)) (h2 : W.cell? ⟨k, 2, none⟩ = some (.int .i64 s.w)) =>
    split_any a b d c n 55 #[.pointer (some ⟨k, 0, none⟩)] _ W (hc.below hW) hO hn (enters_of Tryz.func55 (by kernel_rfl) rfl) (fun row hr => test_upto s k row W hk h0 h1 h2 (fun e => by have := hr k e; omega)))
  obtain ⟨o1, n1, k1, rfl⟩ := hc.cells.slice
  obtain ⟨o2, n2, k2, rfl⟩ := hc.wipes.slice
  obtain ⟨o3, n3, k3, rfl⟩ := hc.sibs.slice
  clear hc hO hn
  obtain ⟨sp, sl, sw⟩ := s
  unfold vS
  simp only [] at HS ⊢
  go_enter Tryz.func19, Tryz.ntmps19
  have hB := (((Below.refl _ w).alloc (Nat.le_refl _) (.cells #[.slice o1 n1 k1, .slice o2 n2 k2, .slice o3 n3 k3] 32)).alloc (by simp) (.cells #[.int .i64 sp, .int .i64 sl, .int .i64 sw] 26)).alloc (by simp; omega) (.cells #[.slice none 0 0, .slice none 0 0, .slice none 0 0] 32)
  have hT := C3.new ((w.alloc (.cells #[.slice o1 n1 k1, .slice o2 n2 k2, .slice o3 n3 k3] 32)).alloc (.cells #[.int .i64 sp, .int .i64 sl, .int .i64 sw] 26)) (.slice none 0 0) (.slice none 0 0) (.slice none 0 0)
  rw [World.size_alloc, World.size_alloc] at hT
  have HB := Lib.hid hB
  have HT := Lib.hid hT
  clear hB hT
  go_wp2_with fail
  refine (HS.out _ HB.out (w.heap.size + 1) (by simp) (by go_simp) (by go_simp) (by go_simp)).mono ?_
  rintro e w1 ⟨va, vb, vd, rfl, hl, hb⟩
  obtain ⟨o4, n4, k4, hv1⟩ := hl.cells.slice
  obtain ⟨o5, n5, k5, hv2⟩ := hl.wipes.slice
  obtain ⟨o6, n6, k6, hv3⟩ := hl.sibs.slice
  subst hv1 hv2 hv3
  have HL := Lib.hid hl
  have HB1 := Lib.hid (below_then HB.out (Nat.le_refl _) hb)
  have HT1 := Lib.hid (HT.out.below hb)
  clear hl hb
  obtain ⟨-, t0, t1, t2, f0, f1, f2⟩ := HT1.out
  go_wp2_with fail
  obtain ⟨-, e0, e1, e2, -⟩ := c3_put HT1.out (.slice o4 n4 k4) (.slice o5 n5 k5) (.slice o6 n6 k6)
  refine bodyPost_ret (v := .agg #[.slice o4 n4 k4, .slice o5 n5 k5, .slice o6 n6 k6]) (by simp [results, Tryz.f19, go_sem, e0, e1, e2]) rfl ?_
  exact ⟨_, _, _, rfl, HL.out.plain3 (plain3 HT1.out _ _ _), c3_put_below HB1.out (by omega) _ _ _⟩
end Go.Proofs.YtgcfhlleaekgfaaGreatDoor.Mut
