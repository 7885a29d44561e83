/- The law's walk over Under: the texts and their numbers. -/
import Derived.Test.YtehoanpjlinfaaaTriUnder
import Derived.Test.YtehoanpjlinfaaaLstMore
namespace Go.Proofs.Ytehoanpjlinfaaa.Tri
open Go.RowKit Go.Shelf Go.Proofs.Ytehoanpjlinfaaa.Kit

attribute [local go_sem] Oper.semAt_some

theorem info_S : (Try.prog.info? 9).map (fun i => (i.zero, i.size, i.bytes)) = some (some (.string ByteArray.empty), 1, 16) := by kernel_rfl
theorem info_I : (Try.prog.info? 3).map (fun i => (i.zero, i.size, i.bytes)) = some (some (.int .i64 0), 1, 8) := by kernel_rfl
abbrev enN (n : Int) : List Value := [.int .i64 n]
def txs (pre : Its) : List Value := pre.map fun x => .string (encs x.1)
def nms (pre : Its) : List Value := pre.map fun x => .int .i64 x.2

/-- What the law's loop has collected: two rows, in two boxes. -/
def Coll (n₀ B1 B2 : Nat) (pre : Its) (W : World) : Prop :=
  ∃ v1 v2, Boxed W B1 37 v1 ∧ W.ownsRow n₀ 9 1 v1 pre.length (txs pre) ∧ Boxed W B2 38 v2 ∧ W.ownsRow n₀ 3 1 v2 pre.length (nms pre) ∧ Apart v1 v2
theorem coll_own (n₀ B1 B2 : Nat) : Own (Coll n₀ B1 B2) := by
  rintro s X Y row ⟨v1, v2, h1, h2, h3, h4, h5⟩ hg hr
  exact ⟨v1, v2, own_box h1 hg hr, own_row h2 hg hr, own_box h3 hg hr, own_row h4 hg hr, h5⟩

def SeqPost (w : World) (l : Its) (e : Ending) (w' : World) : Prop :=
  ∃ v1 v2, e = .returned (.tuple #[v1, v2]) ∧ Lst 1 enS w' v1 (l.map fun x => encs x.1) ∧ Lst 1 enN w' v2 (l.map fun x => x.2) ∧ Below w.heap.size w w'
theorem sing {α : Type} (g : α → Value) (l : List α) : (l.flatMap fun x => [g x]) = l.map g := by induction l <;> simp_all
theorem seq_end {w W : World} {β D : Nat} {v1 v2 : Value} {l : Its} (r1 : W.ownsRow β 9 1 v1 l.length (txs l)) (r2 : W.ownsRow β 3 1 v2 l.length (nms l)) (hK : W.heap[D]? = some (.deferred (some [])))
    (hB : Below w.heap.size w W) (hD : w.heap.size ≤ D) : SeqPost w l (.returned (.tuple #[v1, v2])) (W.putObj D (.deferred none)) := by
  have q1 := ownsRow_putObj r1 (.deferred none) hK rfl
  have q2 := ownsRow_putObj r2 (.deferred none) hK rfl
  refine ⟨v1, v2, rfl, Lst.of_owns (fun _ => rfl) (by decide) (base := β) (e := 9) ?_, Lst.of_owns (fun _ => rfl) (by decide) (base := β) (e := 3) ?_, hB.trans (belowK_b (w := w) (Nat.le_refl _) W D _ _ hD hK rfl rfl)⟩
  · have e : (l.map fun x => encs x.1).flatMap enS = txs l := by unfold txs; rw [List.flatMap_map]; exact sing _ l
    rw [e, List.length_map]; exact q1
  · have e : (l.map fun x => x.2).flatMap enN = nms l := by unfold nms; rw [List.flatMap_map]; exact sing _ l
    rw [e, List.length_map]; exact q2

theorem beside2 {W w1 : World} {β B B2 : Nat} {t t2 e e2 : TypeId} {size : Nat} {v v2 v' : Value} {k n2 : Nat} {xs xs2 : List Value} {tmp : Obj}
    (hv2 : Boxed W B2 t2 v2) (hv : Boxed W B t v) (hne : B2 ≠ B) (hte : t ≠ e) (hte2 : t2 ≠ e) (hte3 : t ≠ e2) (hrow : W.ownsRow β e size v k xs) (hrow2 : W.ownsRow β e2 size v2 n2 xs2) (hap : Apart v v2) (hgrow : (W.alloc tmp).grownBy w1 v.ownBlock) :
    Boxed w1 B2 t2 v2 ∧ Boxed (w1.setCell ⟨B, 0, none⟩ v') B2 t2 v2 ∧ (w1.setCell ⟨B, 0, none⟩ v').ownsRow β e2 size v2 n2 xs2 := by
  have h1 : Boxed w1 B2 t2 v2 := (hv2.alloc tmp).kept hgrow (hv2.not_row hte2 hrow)
  refine ⟨h1, h1.kept (grownBy_setCell' w1 B v') (by simp; omega), ?_⟩
  have hv1 : Boxed w1 B t v := (hv.alloc tmp).kept hgrow (hv.not_row hte hrow)
  have hr1 : w1.ownsRow β e2 size v2 n2 xs2 := (hrow2.alloc tmp).kept hgrow hap.kept
  exact hr1.kept (grownBy_setCell' w1 B v') (.inr (hv1.not_row hte3 hr1).symm)

theorem under_stops (n β B0 B1 t N d : Nat) (hn : 1 ≤ n) (σ : Store) (D : Dict) (l : Its) (s : ByteArray) (R : Its) (hR : R = l.filter fun p => begins p.1 (runesOf s)) (n₀ : Nat)
    (W : World) (HT : TrieFor n₀ β σ W) (hrep : Rep d σ t D) (hl : RowIs D l) (hS : Slim σ N) (hN : N ≤ 99999) (hd : d ≤ 900000) (hz : s.size ≤ 50) (hn₀ : n₀ ≤ W.heap.size)
    (h0 : B0 < W.heap.size) (h1 : B1 < W.heap.size) (c0 : W.cell? ⟨B0, 0, none⟩ = some (enP t)) (c1 : W.cell? ⟨B1, 0, none⟩ = some (.string s)) :
    SeqStopsK Fence.wide n Try.prog 91 #[.pointer (some ⟨B0, 0, none⟩), .pointer (some ⟨B1, 0, none⟩)] yArgs (Below n₀) (fun ys => ys = R) (fun pre => pre <+: R) R.length W := fun lp J Jx W' hW hJ _ hY hJ0 =>
  under1_in lp n₀ β n B0 B1 t N d σ D l s J Jx R hR (fun m pre x W1 h1 h2 => yield_any m (hY pre x W1 h1 h2)) W' (HT.below (hW.mono hn₀)) hrep hl hS hN hd hz (Nat.le_trans hn₀ hW.size) hJ ((hW.cell (p := ⟨B0, 0, none⟩) h0).trans c0) ((hW.cell (p := ⟨B1, 0, none⟩) h1).trans c1) hJ0

set_option maxRecDepth 100000 in
set_option maxHeartbeats 4000000 in
theorem seq_any (β t N d : Nat) (σ : Store) (D : Dict) (l : Its) (s : ByteArray) (R : Its) (hR : R = l.filter fun p => begins p.1 (runesOf s)) (w : World) (HT : Heap w β σ) (hrep : Rep d σ t D) (hl : RowIs D l) (hS : Slim σ N) (hN : N ≤ 99999) (hd : d ≤ 900000) (hz : s.size ≤ 50) (hRl : R.length ≤ 1000) :
    Calls Try.prog 13 #[enP t, .string s] w (SeqPost w R) := by
  obtain ⟨i0, hi, hz0, hz1, hz2⟩ := info_parts info_I
  obtain ⟨j0, hj, hy0, hy1, hy2⟩ := info_parts info_S
  have HI := Lib.hid hi
  have HZ0 := Lib.hid hz0
  have HZ1 := Lib.hid hz1
  have HZ2 := Lib.hid hz2
  have JI := Lib.hid hj
  have JZ0 := Lib.hid hy0
  have JZ1 := Lib.hid hy1
  have JZ2 := Lib.hid hy2
  clear hi hz0 hz1 hz2 hj hy0 hy1 hy2
  have HTF : TrieFor w.heap.size β σ w := ⟨HT, fun i hi => (HT.uses_lt hi).2⟩
  refine (callsIn_wide (n := 3)).1 ?_
  refine callsIn_of_wp_marks Try.func13 rfl trivial ?_ rfl
  simp only [Try.ntmps13, List.size_toArray, List.length_cons, List.length_nil, Nat.reduceAdd, Nat.reduceSub, Array.replicate_succ, Array.replicate_zero, List.push_toArray, List.append_toArray, List.nil_append, List.cons_append]
  have hnil := fun g lb w => eq_nilFunc Try.underlying94 g lb w
  gi_wp2_with (refine ⟨trivial, ?_⟩; gi_at_call 50; refine (under_in _ t s _).mono ?_; rintro e w' ⟨rfl, rfl⟩)
  obtain ⟨W0, hW0⟩ : ∃ W0, W0 = ((((w.alloc (.cells #[.slice none 0 0] 37)).alloc (.cells #[.slice none 0 0] 38)).alloc (.cells #[enP t] 23)).alloc (.cells #[.string s] 9)) := ⟨_, rfl⟩
  rw [← hW0]
  have c0 : W0.cell? ⟨w.heap.size + 1 + 1, 0, none⟩ = some (enP t) := by rw [hW0]; go_simp
  have c1 : W0.cell? ⟨w.heap.size + 1 + 2, 0, none⟩ = some (.string s) := by rw [hW0]; go_simp
  have bx1 : Boxed W0 w.heap.size 37 (.slice none 0 0) := by
    rw [hW0]
    exact (((Boxed.new w 37 (.slice none 0 0)).alloc _).alloc _).alloc _
  have bx2 : Boxed W0 (w.heap.size + 1) 38 (.slice none 0 0) := by
    rw [hW0]
    have := Boxed.new (w.alloc (.cells #[.slice none 0 0] 37)) 38 (.slice none 0 0)
    simp only [World.size_alloc] at this
    exact (this.alloc _).alloc _
  have hs0 : W0.heap.size = w.heap.size + 4 := by rw [hW0]; simp
  have hb0 : Below w.heap.size w W0 := by rw [hW0]; exact ((((Below.refl _ _).alloc (Nat.le_refl _) _).alloc (by simp) _).alloc (by simp; omega) _).alloc (by simp; omega) _
  clear hW0
  refine wpIn_rangeFunc_ownG rfl (by omega) (gf := 91) (lb := #[.pointer (some ⟨w.heap.size + 1 + 1, 0, none⟩), .pointer (some ⟨w.heap.size + 1 + 2, 0, none⟩)]) rfl trivial (enters_of Try.func91 (by kernel_rfl) rfl)
    (under_stops _ β (w.heap.size + 1 + 1) (w.heap.size + 1 + 2) t N d (by omega) σ D l s R hR w.heap.size W0 (HTF.below hb0) hrep hl hS hN hd hz (by omega) (by omega) (by omega) c0 c1) belowK_t (belowK_b (by omega)) (Below.refl _ _) (fun _ => rfl)
    (fun pre W => Coll W0.heap.size w.heap.size (w.heap.size + 1) pre W ∧ Below w.heap.size W0 W)
    (fun _ _ _ => False)
    (OwnFrom.and (Own.from (coll_own _ _ _) _) (ownFrom_below (by omega) (by omega)))
    (fun _ _ _ _ _ hs _ _ => hs)
    ⟨⟨_, _, bx1, World.ownsRow_nil _ _ _ _, bx2, World.ownsRow_nil _ _ _ _, fun g h => by cases h⟩, Below.refl _ _⟩
    (fun x => { tmps := #[enP t, .string s, undef, undef, .slice none 0 0, .slice none 0 0, .pointer (some ⟨w.heap.size, 0, none⟩), .pointer (some ⟨w.heap.size + 1, 0, none⟩), .func (.func 91) #[] #[.pointer (some ⟨w.heap.size + 1 + 1, 0, none⟩), .pointer (some ⟨w.heap.size + 1 + 2, 0, none⟩)], .string (encs x.1), .int .i64 x.2, enP t, .string s, .func (.func 91) #[] #[.pointer (some ⟨w.heap.size + 1 + 1, 0, none⟩), .pointer (some ⟨w.heap.size + 1 + 2, 0, none⟩)], .func (.func 91) #[] #[.pointer (some ⟨w.heap.size + 1 + 1, 0, none⟩), .pointer (some ⟨w.heap.size + 1 + 2, 0, none⟩)], .bool false, .func (.func 91) #[] #[.pointer (some ⟨w.heap.size + 1 + 1, 0, none⟩), .pointer (some ⟨w.heap.size + 1 + 2, 0, none⟩)], .string (encs x.1), .int .i64 x.2, undef, undef, undef, undef, undef, undef, undef, undef, undef, undef], defers := [] }) ?assign ?body ?done ?stop
  case assign =>
    intro l x W K hK
    gi_wp2
    simpa using hK
  case body =>
    rintro l pre x W ⟨hcoll, hB⟩ hlt
    obtain ⟨v1, v2, h1, r1, h2, r2, hap⟩ := hcoll
    have hsz := hB.size
    have g1 := h1.cell
    have g2 := h2.cell
    obtain ⟨ao1, cap1, rfl⟩ := row_form r1
    obtain ⟨ao2, cap2, rfl⟩ := row_form r2
    obtain ⟨q, hq⟩ : ∃ q : Nat, q = pre.length := ⟨_, rfl⟩
    rw [← hq] at r1 r2 h1 h2 g1 g2 hlt hap
    have R1 := Lib.hid r1
    have R2 := Lib.hid r2
    have HAP := Lib.hid hap
    have H1 := Lib.hid h1
    have H2 := Lib.hid h2
    have HQ := Lib.hid hq
    have HBB := Lib.hid hB
    clear r1 r2 hap h1 h2 hq hB HTF
    gi_wp2_with (first
      | (gi_at_builtin; refine wpListIn_append_lies _ rfl (.tmp 19) (.tmp 21) 37 rfl W0.heap.size 9 j0 (.string ByteArray.empty) 1 16 Try.underlying37 JI.out JZ0.out JZ1.out JZ2.out rfl (by decide) (.slice ao1 q cap1) _ _ rfl (R1.out.alloc _) ⟨_, 0, none⟩ 1 1 [.string (encs x.1)] rfl rfl (cell_one_at _ _ _ _ (by simp)) (by simp [Value.oneCell']) (by decide) (by unfold maxLen; omega) (by omega) (by simp; omega) (W.heap.size + 1) (by simp) ?_; intro p1 c1' w1 hown1 hgrow1 hat1 hlt1; obtain ⟨a1, a2, a3, a4, a5, -⟩ := appended (n₀ := w.heap.size) H1.out (by decide) R1.out (by omega) (by omega) (by omega) hown1 hgrow1; obtain ⟨b1, b2, b3⟩ := beside2 (v' := .slice (some ⟨p1, 0, none⟩) (q + 1) c1') H2.out H1.out (by omega) (by decide) (by decide) (by decide) R1.out R2.out HAP.out hgrow1; have k1 := a1.cell; have k2 := a1.frozen; have k3 := b2.cell; have A := Lib.hid (And.intro a2 (And.intro a3 (And.intro a4 a5))); have B := Lib.hid (And.intro b2 b3); have C := Lib.hid (HAP.out.grown (k := q + 1) (cap := c1') (R2.out.alloc (.cells #[.string (encs x.1)] 9)) (by simpa using hat1)); have hs1 := a5.size; simp only [World.size_setCell] at hs1; clear a1 a2 a3 a4 a5 b1 b2 b3 hown1 hgrow1 hat1)
      | (gi_at_builtin; refine wpListIn_append_lies _ rfl (.tmp 23) (.tmp 25) 38 rfl W0.heap.size 3 i0 (.int .i64 0) 1 8 Try.underlying38 HI.out HZ0.out HZ1.out HZ2.out rfl (by decide) (.slice ao2 q cap2) _ _ rfl (B.out.2.alloc _) ⟨_, 0, none⟩ 1 1 [.int .i64 x.2] rfl rfl (cell_one_at _ _ _ _ (by simp)) (by simp [Value.oneCell']) (by decide) (by unfold maxLen; omega) (by omega) (by simp; omega) (w1.heap.size + 1) (by simp) ?_; intro p2 c2' w2 hown2 hgrow2 hat2 hlt2; obtain ⟨b1, b2, b3⟩ := beside2 (v' := .slice (some ⟨p2, 0, none⟩) (q + 1) c2') A.out.1 B.out.1 (by omega) (by decide) (by decide) (by decide) B.out.2 A.out.2.1 C.out.symm hgrow2; obtain ⟨a1, a2, a3, a4, a5, -⟩ := appended (n₀ := w.heap.size) B.out.1 (by decide) B.out.2 (by omega) (by simp; omega) (by omega) hown2 hgrow2; have C2 := Lib.hid ((C.out.symm.grown (k := q + 1) (cap := c2') (A.out.2.1.alloc (.cells #[.int .i64 x.2] 3)) (by simpa using hat2)).symm); have k1 := a1.cell; have k2 := a1.frozen; have A2 := Lib.hid (And.intro a2 (And.intro a3 (And.intro a4 a5))); have B2 := Lib.hid (And.intro b2 b3); clear a1 a2 a3 a4 a5 b1 b2 b3 hown2 hgrow2 hat2))
    have hlen : (pre ++ [x]).length = q + 1 := by rw [HQ.out]; simp
    refine ⟨(A.out.2.2.1.trans A2.out.2.2.1).from _, A.out.2.2.2.trans A2.out.2.2.2, ⟨_, _, B2.out.1, ?_, A2.out.1, ?_, C2.out⟩, HBB.out.trans (A.out.2.2.2.trans A2.out.2.2.2)⟩
    · rw [hlen]; unfold txs; rw [List.map_append]; exact B2.out.2
    · rw [hlen]; unfold nms; rw [List.map_append]; exact A2.out.2.1
  case done =>
    rintro D ys W hD rfl ⟨⟨v1, v2, h1, r1, h2, r2, hap⟩, hB⟩ hK
    have g1 := h1.cell
    have g2 := h2.cell
    have hend := seq_end (W := W.drew) r1 r2 hK (hb0.trans hB).drew (by omega)
    have HE := Lib.hid hend
    clear hend
    gi_wp2
    gi_region
    gi_wp2
    refine ⟨by simp, .inl ⟨_, _, rfl, run_takeDeferred hK, ?_⟩⟩
    exact ⟨.tuple #[v1, v2], by simp [results, Try.f13, go_sem], HE.out⟩
  case stop =>
    rintro D c pre W hD _ h _
    exact h.elim
end Go.Proofs.Ytehoanpjlinfaaa.Tri
