/- Layer 30 (trace), the law: great. PRINTED by wip/gentrcgreat.py. · Layer 30 (trace), the law TraceLists: the walk. PRINTED by wip/gentrclists.py. · Rows of events as an argument: they read as rows; what they hold fits into memory. PRINTED by wip/gentrcarg.py. -/
import Derived.Test.YtljlbkichcjlfaaGreatDoorTrcLine
import Derived.Test.YtljlbkichcjlfaaGreatDoorConMore
import Derived.Test.YtljlbkichcjlfaaGreatDoorRefIns
import Derived.Test.YtljlbkichcjlfaaGreatDoorTrcCopied
import Derived.Test.YtljlbkichcjlfaaGreatDoorAskSized
set_option linter.unusedSimpArgs false
set_option linter.unusedVariables false
namespace Go.Proofs.YtljlbkichcjlfaaGreatDoor.Trc
open Go.RowKit Go.Proofs.YtljlbkichcjlfaaGreatDoor.RegInv Go.Proofs.YtljlbkichcjlfaaGreatDoor.Mut Go.Proofs.YtljlbkichcjlfaaGreatDoor.Ints
set_option linter.unusedSectionVars false
variable [Inhabited Lim]

def greatR (R : List Rw) : Bool := R.any fun r => decide (300 < r.key.size) || decide (300 < r.val.size)
/-- Too much to be asked. -/
def greatE (e : Ev) (nQ : Nat) (R : List Rw) : Bool := greatF [e.m.1] 1 || (decide (20 < nQ) || (decide (20 < R.length) || greatR R))

set_option maxRecDepth 100000 in
set_option maxHeartbeats 2000000 in
theorem great30_any (e : Ev) (Q : List Int) (R : List Rw) (w : World) (hm : Over w e.m) (hz : e.m.1.key.size ≤ maxLen ∧ e.m.1.fin.size ≤ maxLen ∧ e.m.1.val.size ≤ maxLen) (hq : IRow w e.qv Q) (hr : WRow w e.rv R) (hrs : ∀ r ∈ R, r.key.size ≤ maxLen ∧ r.val.size ≤ maxLen) :
    Calls Tryz.prog 4 #[vE e] w fun r w' => r = .returned (.bool (greatE e Q.length R)) ∧ Below w.heap.size w w' := by
  obtain ⟨G, hG⟩ : ∃ G, G = greatF [e.m.1] 1 := ⟨_, rfl⟩
  unfold greatE
  rw [← hG]
  have HGR := Lib.hid (fun W (h : Below w.heap.size w W) => great_any (.slice (some ⟨W.heap.size, 0, none⟩) 1 1) [e.m] 1 _ (one_row (t := 32) (hm.below h)) (by decide) (fun x hx => by rw [List.mem_singleton.1 hx]; exact hz))
  have e1 : greatF ([e.m].map (·.1)) 1 = G := hG.symm
  rw [e1] at HGR
  clear e1 hG hm hz
  obtain ⟨kind, node, rng, op, ⟨⟨mt, mk, mkey, mfin, mval, mexp, ⟨map, mal, maw⟩, movr⟩, mv⟩, ca, cb, cd, ⟨sp, sl, sw⟩, ⟨bp, bl, bw⟩, quar, why, qv, nv, no, table, key, fin, rv, cv⟩ := e
  simp only [] at hq hr
  obtain ⟨qo, qc, rfl, hq1, hq2⟩ := Lst.form hq
  obtain ⟨ro, rc, rfl, hr1, hr2⟩ := Lst.form hr
  unfold enM at HGR
  unfold vE enE
  simp only [] at HGR ⊢
  have HR := Lib.hid hr
  have HRS := Lib.hid hrs
  unfold maxLen at hq2 hr2
  obtain ⟨nQ, hnQ⟩ : ∃ n, n = Q.length := ⟨_, rfl⟩
  obtain ⟨nR, hnR⟩ : ∃ n, n = R.length := ⟨_, rfl⟩
  have HNR := Lib.hid hnR
  rw [← hnQ] at hq1 ⊢
  rw [← hnR] at hr1 HR ⊢
  clear hnQ hnR hq hr hrs
  obtain ⟨W0, hW0⟩ : ∃ W0, W0 = w.alloc (.cells #[.int .i64 kind, .int .i64 node, .int .i64 rng, .int .i64 op, .int .i64 mt, .int .i64 mk, .string mkey, .string mfin, .string mval, .int .i64 mexp, .int .i64 map, .int .i64 mal, .int .i64 maw, mv, ca, cb, cd, .int .i64 sp, .int .i64 sl, .int .i64 sw, .int .i64 bp, .int .i64 bl, .int .i64 bw, .bool quar, .int .i64 why, .slice qo nQ qc, nv, .int .i64 no, .int .i64 table, .string key, .string fin, .slice ro nR rc, cv] 39) := ⟨_, rfl⟩
  have HC := Lib.hid (show CellsAt W0 w.heap.size [.int .i64 kind, .int .i64 node, .int .i64 rng, .int .i64 op, .int .i64 mt, .int .i64 mk, .string mkey, .string mfin, .string mval, .int .i64 mexp, .int .i64 map, .int .i64 mal, .int .i64 maw, mv, ca, cb, cd, .int .i64 sp, .int .i64 sl, .int .i64 sw, .int .i64 bp, .int .i64 bl, .int .i64 bw, .bool quar, .int .i64 why, .slice qo nQ qc, nv, .int .i64 no, .int .i64 table, .string key, .string fin, .slice ro nR rc, cv] from by rw [hW0]; exact CellsAt.new w [.int .i64 kind, .int .i64 node, .int .i64 rng, .int .i64 op, .int .i64 mt, .int .i64 mk, .string mkey, .string mfin, .string mval, .int .i64 mexp, .int .i64 map, .int .i64 mal, .int .i64 maw, mv, ca, cb, cd, .int .i64 sp, .int .i64 sl, .int .i64 sw, .int .i64 bp, .int .i64 bl, .int .i64 bw, .bool quar, .int .i64 why, .slice qo nQ qc, nv, .int .i64 no, .int .i64 table, .string key, .string fin, .slice ro nR rc, cv] 39)
  have HB0 := Lib.hid (show Below w.heap.size w W0 by rw [hW0]; exact (Below.refl _ w).alloc (Nat.le_refl _) _)
  have HW := Lib.hid hW0
  clear hW0
  go_enter Tryz.func4, Tryz.ntmps4
  go_upto_region 1 with fail
  rw [← HW.out]
  have s4 := HC.out.get 4 _ rfl
  have s5 := HC.out.get 5 _ rfl
  have s6 := HC.out.get 6 _ rfl
  have s7 := HC.out.get 7 _ rfl
  have s8 := HC.out.get 8 _ rfl
  have s9 := HC.out.get 9 _ rfl
  have s10 := HC.out.get 10 _ rfl
  have s11 := HC.out.get 11 _ rfl
  have s12 := HC.out.get 12 _ rfl
  have s13 := HC.out.get 13 _ rfl
  go_wp2_with fail
  clear s4 s5 s6 s7 s8 s9 s10 s11 s12 s13
  refine (HGR.out W0 HB0.out).mono ?_
  rintro e w1 ⟨rfl, rfl⟩
  obtain ⟨W1, hW1⟩ : ∃ W1, W1 = W0.alloc (.cells #[.int .i64 mt, .int .i64 mk, .string mkey, .string mfin, .string mval, .int .i64 mexp, .int .i64 map, .int .i64 mal, .int .i64 maw, mv] 32) := ⟨_, rfl⟩
  have hb1 : Below W0.heap.size W0 W1 := by rw [hW1]; exact (Below.refl _ _).alloc (Nat.le_refl _) _
  have HC1 := Lib.hid (HC.out.below hb1)
  have HB1 := Lib.hid (below_then HB0.out (Nat.le_refl _) hb1)
  rw [← hW1]
  clear hW1 hb1 HGR
  have s25 := HC1.out.get 25 _ rfl
  have s31 := HC1.out.get 31 _ rfl
  cases G
  · by_cases h1 : 20 < nQ
    · have d1 : (20 : Int) < (nQ : Int) := by omega
      go_wp2_with fail
      go_ret
      exact ⟨ret_bool (by simp [h1]), HB1.out⟩
    · have d1 : ¬ (20 : Int) < (nQ : Int) := by omega
      by_cases h2 : 20 < nR
      · have d2 : (20 : Int) < (nR : Int) := by omega
        go_wp2_with fail
        go_ret
        exact ⟨ret_bool (by simp [h2]), HB1.out⟩
      · have d2 : ¬ (20 : Int) < (nR : Int) := by omega
        have HE := Lib.hid (show (false || (decide (20 < nQ) || (decide (20 < nR) || greatR R))) = greatR R from by simp [h1, h2])
        go_wp2_with fail
        have N1 := Lib.hid h1
        clear d1 d2 h1
        obtain ⟨g, hg⟩ : ∃ g, g = w.heap.size := ⟨_, rfl⟩
        go_loopw [3] (fun iv wr => ∃ k : Nat, k ≤ nR ∧ iv = .int .i64 k ∧ wr = W1 ∧ Hid (greatR (R.drop k) = greatR R)) (fun iv _ => nR - (intOf iv).toNat)
        case atStart => exact ⟨0, by omega, rfl, rfl, Lib.hid rfl⟩
        case round =>
          obtain ⟨k, hk, rfl, rfl, hq⟩ := hrel
          by_cases hlt : k < nR
          · have hkl : k < R.length := by have := HNR.out; omega
            obtain ⟨x, hx⟩ : ∃ x, R[k]? = some x := ⟨_, List.getElem?_eq_getElem hkl⟩
            obtain ⟨rb, roff, rfl, hat⟩ := WRow.at_ (HR.out.below HB1.out) hx
            obtain ⟨y1, y2⟩ := HRS.out x (List.mem_of_getElem? hx)
            unfold maxLen at y1 y2
            have hst : greatR (R.drop k) = (decide (300 < x.key.size) || decide (300 < x.val.size) || greatR (R.drop (k + 1))) := by
              rw [List.drop_eq_getElem_cons hkl]
              rw [List.getElem?_eq_getElem hkl] at hx
              injection hx with hx
              rw [hx]
              rfl
            obtain ⟨hlb, c0, c1, -, -, -⟩ := hat
            have HQ := Lib.hid (hst.symm.trans hq.out)
            clear hx hst hq
            obtain ⟨xk, xv, ⟨xp, xl, xw⟩⟩ := x
            simp only [] at c0 c1 y1 y2 HQ
            by_cases e1 : 300 < xk.size
            · have d1 : (300 : Int) < (xk.size : Int) := by omega
              have HT := Lib.hid (show true = greatR R from by rw [← HQ.out]; simp [e1])
              go_wp2_with fail
              go_ret
              exact ⟨ret_bool (by first | (rw [HE.out]; exact HT.out) | exact HT.out | simpa [N1.out] using HT.out), HB1.out⟩
            · have d1 : ¬ (300 : Int) < (xk.size : Int) := by omega
              by_cases e2 : 300 < xv.size
              · have d2 : (300 : Int) < (xv.size : Int) := by omega
                have HT := Lib.hid (show true = greatR R from by rw [← HQ.out]; simp [e2])
                go_wp2_with fail
                go_ret
                exact ⟨ret_bool (by first | (rw [HE.out]; exact HT.out) | exact HT.out | simpa [N1.out] using HT.out), HB1.out⟩
              · have d2 : ¬ (300 : Int) < (xv.size : Int) := by omega
                have HT := Lib.hid (show greatR (R.drop (k + 1)) = greatR R from by rw [← HQ.out]; simp [e1, e2])
                go_wp2_with fail
                go_roundw
                case rel => exact ⟨k + 1, by omega, by go_num, trivial, HT⟩
                case measure => simp [intOf]; omega
          · have hkn : R.drop k = [] := List.drop_eq_nil_of_le (by have := HNR.out; omega)
            have HT := Lib.hid (show false = greatR R from by rw [← hq.out, hkn]; rfl)
            clear hkn hq
            go_wp2_with fail
            go_ret
            exact ⟨ret_bool (by first | (rw [HE.out]; exact HT.out) | exact HT.out | simpa [N1.out] using HT.out), HB1.out⟩
  · go_wp2_with fail
    go_ret
    exact ⟨ret_bool (by simp), HB1.out⟩
end Go.Proofs.YtljlbkichcjlfaaGreatDoor.Trc

namespace Go.Proofs.YtljlbkichcjlfaaGreatDoor.Trc
open Go.RowKit Go.Proofs.YtljlbkichcjlfaaGreatDoor.RegInv Go.Proofs.YtljlbkichcjlfaaGreatDoor.Mut Go.Proofs.YtljlbkichcjlfaaGreatDoor.Ints
set_option linter.unusedSectionVars false
variable [Inhabited Lim]

/-- What fits into memory, of an event that came with the call. -/
structure EvZ (e : Ev) (NN : List Int) (R : List Rw) (c : Con) : Prop where
  m : e.m.1.key.size ≤ maxLen ∧ e.m.1.fin.size ≤ maxLen ∧ e.m.1.val.size ≤ maxLen
  rs : ∀ r ∈ R, r.key.size ≤ maxLen ∧ r.val.size ≤ maxLen
  nl : NN.length ≤ 17592186043904
  con : ∀ m ∈ c.all, m.key.size ≤ maxLen ∧ m.fin.size ≤ maxLen ∧ m.val.size ≤ maxLen
/-- The places of a kind's events, among the first. -/
def wantF (k : Int) (L : List Ev) (i : Nat) : List Int := (ofK Ev.kind k L i).map fun p => (p.2 : Int)
/-- The place of the first answer, or -1. -/
def firstF (op : Int) (L : List Ev) (i : Nat) : Int := match firstE op (ofK Ev.kind 5 L i) with
  | none => -1
  | some p => (p.2 : Int)
theorem wantF_step {k : Int} {L : List Ev} {i : Nat} {x : Ev} (hx : L[i]? = some x) : wantF k L (i + 1) = wantF k L i ++ if x.kind = k then [(i : Int)] else [] := by
  unfold wantF
  rw [ofK_step Ev.kind hx, List.map_append]
  by_cases h : x.kind = k <;> simp [h]
theorem firstF_ge (op : Int) (L : List Ev) (i : Nat) : -1 ≤ firstF op L i := by
  unfold firstF
  cases firstE op (ofK Ev.kind 5 L i) with
  | none => simp
  | some p => first | (simp; done) | (simp; omega)
theorem firstF_none {op : Int} {L : List Ev} {i : Nat} : firstF op L i < 0 ↔ firstE op (ofK Ev.kind 5 L i) = none := by
  unfold firstF
  cases firstE op (ofK Ev.kind 5 L i) with
  | none => simp
  | some p => first | (simp; done) | (simp; omega)
theorem firstE_step {op : Int} {L : List Ev} {i : Nat} {x : Ev} (hx : L[i]? = some x) : firstE op (ofK Ev.kind 5 L (i + 1)) = (firstE op (ofK Ev.kind 5 L i)).or (if x.kind = 5 ∧ x.op = op then some (x, i) else none) := by
  unfold firstE
  rw [ofK_step Ev.kind hx, List.find?_append]
  congr 1
  by_cases h1 : x.kind = 5 <;> by_cases h2 : x.op = op <;> simp [h1, h2]
theorem firstF_hit {op : Int} {L : List Ev} {i : Nat} {x : Ev} (hx : L[i]? = some x) (h0 : firstF op L i < 0) (h1 : x.kind = 5) (h2 : x.op = op) : firstF op L (i + 1) = (i : Int) := by
  have h := firstF_none.1 h0
  unfold firstF
  rw [firstE_step hx, h, if_pos ⟨h1, h2⟩]
  rfl
theorem firstF_miss {op : Int} {L : List Ev} {i : Nat} {x : Ev} (hx : L[i]? = some x) (h : ¬ (firstF op L i < 0 ∧ x.kind = 5 ∧ x.op = op)) : firstF op L (i + 1) = firstF op L i := by
  unfold firstF
  rw [firstE_step hx]
  by_cases h0 : firstF op L i < 0
  · rw [if_neg (fun g => h ⟨h0, g.1, g.2⟩), Option.or_none]
  · have h1 : firstE op (ofK Ev.kind 5 L i) ≠ none := fun g => h0 (firstF_none.2 g)
    cases hq : firstE op (ofK Ev.kind 5 L i) with
    | none => exact absurd hq h1
    | some p => rfl
theorem firstF_zero (op : Int) (L : List Ev) : firstF op L 0 = -1 := rfl
theorem wantF_zero (k : Int) (L : List Ev) : wantF k L 0 = [] := rfl
/-- The first answer lies at its place. -/
theorem firstE_at {op : Int} {L : List Ev} {p : Ev × Nat} (h : firstE op (ofK Ev.kind 5 L L.length) = some p) : L[p.2]? = some p.1 := by
  have h1 := List.mem_of_find?_eq_some h
  unfold ofK at h1
  rw [List.take_length] at h1
  have h2 := (List.mem_filter.1 h1).1
  exact List.mem_zipIdx_iff_getElem?.1 h2
theorem sm_step {w : World} {L : List Ev} {i : Nat} {x : Ev} (h : ∀ j e, j < i → L[j]? = some e → ∃ Q NN R X c, EvAt w e Q NN R X c ∧ EvSm e Q NN R X c) (hx : L[i]? = some x) (hs : ∃ Q NN R X c, EvAt w x Q NN R X c ∧ EvSm x Q NN R X c) :
    ∀ j e, j < i + 1 → L[j]? = some e → ∃ Q NN R X c, EvAt w e Q NN R X c ∧ EvSm e Q NN R X c := fun j e hj he => by
  by_cases hji : j < i
  · exact h j e hji he
  · obtain rfl : j = i := by omega
    obtain rfl : x = e := Option.some.inj (hx.symm.trans he)
    exact hs
theorem lists_grown {w w1 w2 : World} {o : Obj} {v : Value} {n : Nat} {t : TypeId} {xs : List Value} (hb : Below w.heap.size w w1) (hg : (w1.alloc o).grownBy w2 v.ownBlock) (ho : w1.ownsRow w.heap.size t 1 v n xs) : Below w.heap.size w w2 :=
  (hb.alloc hb.size o).grown hg (by have := hb.size; simp; omega) (fun k hk => (World.ownsRow.lt ho k hk).1)
theorem wp_load_run {P : Program} {w : World} {o : Oper} {a : Act} {K : Act → World → Prop} {Q : Exit → Act → World → Prop} (ty : TypeId) (x : Operand) (hop : o.op = .load ty x)
    (p V : Value) (hx : a.eval x = p) (hld : (Instr.loadAt ty p).run P w = .ok V w) (h : K (a.put o.dst V) w) : o.wp P a w K Q := by
  unfold Oper.wp execOp
  simp only [hop, hx, hld, Sem.run_bind, Sem.run_pure, Result.andThen_ok]
  exact h
theorem wpList_loadG_run {P : Program} {w : World} {ops : Array Oper} {rest : List Oper} {o : Oper} {a : Act} {Q : Exit → Act → World → Prop} (hw : Region.wanted o (yielded ops a.tmps) = true) (ty : TypeId) (x : Operand) (hop : o.op = .load ty x)
    (p V : Value) (hx : a.eval x = p) (hld : (Instr.loadAt ty p).run P w = .ok V w) (h : wpList P ops Q rest (a.put o.dst V) w) : wpList P ops Q (o :: rest) a w :=
  wpList_step fun _ hK => by rw [if_pos hw]; exact wp_load_run ty x hop p V hx hld (hK _ _ h)
theorem eq_step {wp : World} {v : Value} {Z : List Int} {n base wc : Nat} {wo : Option Addr} (hn : n = Z.length) (hrow : IRow wp v Z) (hown : wp.ownsRow base 3 1 (.slice wo n wc) n (Z.flatMap enI)) (hz : Z.length ≤ 1000) :
    ∃ po pc, v = .slice po n pc ∧ Calls Tryz.prog 9 #[.slice po n pc, .slice wo n wc] wp fun e w' => e = .returned (.bool true) ∧ Below wp.heap.size wp w' := by
  subst hn
  obtain ⟨po, pc, rfl, -, -⟩ := Lst.form hrow
  refine ⟨po, pc, rfl, ?_⟩
  have h := equal_big po wo pc wc Z Z wp hrow (Lst.owned enI_len (by decide) rfl hown) (by omega) (by omega)
  rwa [eqI_self] at h
theorem evsm_of {e : Ev} {Q NN : List Int} {R : List Rw} {X : List Stp} {c : Con} (hz : EvZ e NN R c) (h1 : greatE e Q.length R = false) (h2 : ¬ 50 < X.length) (h3 : greatF c.cells 5 = false) (h4 : greatF c.wipes 5 = false) (h5 : greatF c.sibs 5 = false) : EvSm e Q NN R X c := by
  unfold greatE at h1
  simp only [Bool.or_eq_false_iff, decide_eq_false_iff_not] at h1
  obtain ⟨g1, g2, g3, g4⟩ := h1
  have k1 := great_small g1
  have k3 := great_small h3
  have k4 := great_small h4
  have k5 := great_small h5
  refine ⟨k1.2 _ (by simp), by omega, hz.nl, by omega, fun r hr => ?_, by omega, ⟨fun m hm => ?_, ?_⟩⟩
  · unfold greatR at g4
    have := List.any_eq_false.1 g4 r hr
    simp at this
    omega
  · unfold Con.all at hm
    rcases List.mem_append.1 hm with h | h
    · exact k3.2 m h
    · rcases List.mem_append.1 h with h | h
      · exact k4.2 m h
      · exact k5.2 m h
  · unfold Con.all
    simp only [List.length_append]
    omega

set_option maxRecDepth 100000 in
set_option maxHeartbeats 16000000 in
theorem lists_any (ao : Option Addr) (cap : Nat) (L : List Ev) (k op : Int) (w : World) (hT : Tabs w) (ha : Lst 33 enE w (.slice ao L.length cap) L) (hk : ∀ e ∈ L, ∃ Q NN R X c, EvAt w e Q NN R X c ∧ EvZ e NN R c) :
    Calls Tryz.prog 3 #[.slice ao L.length cap, .int .i64 k, .int .i64 op] w fun r w' => r = .returned (.bool true) ∧ Below w.heap.size w w' := by
  have hfm := Lst.form ha
  obtain ⟨_, _, efm, hf1, hf2⟩ := hfm
  unfold maxLen at hf2
  cases efm
  obtain ⟨N, hN⟩ : ∃ N, N = L.length := ⟨_, rfl⟩
  rw [← hN] at ha hf1 ⊢
  have HN := Lib.hid hN
  have HA := Lib.hid ha
  have HK := Lib.hid hk
  have HT := Lib.hid hT
  clear hN ha hk hT
  obtain ⟨i0, hi0⟩ : ∃ i : TypeInfo, Tryz.prog.info? 3 = some i ∧ i.zero = some (.int .i64 0) ∧ i.size = 1 ∧ i.bytes = 8 := by
    have h := info_I
    cases hq : Tryz.prog.info? 3 with
    | none => simp [hq] at h
    | some i => simp [hq] at h; exact ⟨i, rfl, h.1, h.2.1, h.2.2⟩
  have HI := Lib.hid hi0
  clear hi0
  go_enter Tryz.func3, Tryz.ntmps3
  by_cases hbig : (50 : Int) < (N : Int)
  · go_wp2_with fail
    go_ret
    exact ⟨rfl, Below.refl _ _⟩
  have hN50 : N ≤ 50 := by omega
  go_wp2_with fail
  go_loopw [7, 8, 9] (fun va fv iv wr => ∃ (i n : Nat) (F : Int) (wo : Option Addr) (wc : Nat), i ≤ N ∧ va = .slice wo n wc ∧ fv = .int .i64 F ∧ iv = .int .i64 i ∧ -1 ≤ F ∧ n ≤ i ∧ Hid (F = firstF op L i ∧ n = (wantF k L i).length) ∧ Hid (wr.ownsRow w.heap.size 3 1 (.slice wo n wc) n ((wantF k L i).flatMap enI)) ∧ Hid (∀ j e, j < i → L[j]? = some e → ∃ Q NN R X c, EvAt w e Q NN R X c ∧ EvSm e Q NN R X c) ∧ Hid (Below w.heap.size w wr)) (fun _ _ iv _ => N - (intOf iv).toNat)
  case atStart => exact ⟨0, 0, -1, none, 0, Nat.zero_le _, rfl, rfl, rfl, by omega, by omega, Lib.hid ⟨rfl, rfl⟩, Lib.hid (World.ownsRow_nil _ _ _ _), Lib.hid (fun j e hj _ => absurd hj (Nat.not_lt_zero _)), Lib.hid (Below.refl _ _)⟩
  case round =>
    obtain ⟨i, n, F, wo, wc, hi, rfl, rfl, rfl, hF0, hni, hFN, hown, hsm, hbw⟩ := hrel
    by_cases hlt : i < N
    · have hil : i < L.length := by have := HN.out; omega
      obtain ⟨x, hx⟩ : ∃ x, L[i]? = some x := ⟨_, List.getElem?_eq_getElem hil⟩
      obtain ⟨xb, xoff, hao, hb, hcx⟩ := Lst.get HA.out hil
      rw [(List.getElem?_eq_some_iff.1 hx).2] at hcx
      cases hao
      obtain ⟨Q, NN, R, X, c, hat, hz⟩ := HK.out x (List.mem_of_getElem? hx)
      have HCX := Lib.hid (fun (Wx : World) (h : Below w.heap.size w Wx) (j : Nat) (v : Value) (hj : (enE x)[j]? = some v) => show Wx.cell? ⟨xb, xoff + i * 33 + j, none⟩ = some v from
        (h.cell (p := ⟨xb, xoff + i * 33 + j, none⟩) hb).trans ((hcx j (by have := (List.getElem?_eq_some_iff.1 hj).1; rw [enE_len] at this; exact this)).trans hj))
      have HLDX := Lib.hid (fun (Wx : World) (h : Below w.heap.size w Wx) => (show (Instr.loadAt 39 (.pointer (some ⟨xb, xoff + i * 33, none⟩))).run Tryz.prog Wx = .ok (.agg ⟨enE x⟩) Wx from
        run_loadAt_mid Wx xb (xoff + i * 33) 39 (enE x) _ (fun j v hv => HCX.out Wx h j v hv) Tryz.underlying39 rfl size_Ev))
      obtain ⟨V, hV⟩ : ∃ V, V = Value.agg ⟨enE x⟩ := ⟨_, rfl⟩
      have hgr := great30_any x Q R wr (hat.over.below hbw.out) hz.m (Lst.below hat.q hbw.out) (Lst.below hat.r hbw.out) hz.rs
      have hcp := fun (Wx : World) (h : Below w.heap.size w Wx) (hs : EvSm x Q NN R X c) => copied_any x Q NN R X c Wx (HT.out.below h) (hat.below h) hs
      unfold vE at hgr hcp
      rw [← hV] at hgr hcp
      have HLD0 := Lib.hid (show (Instr.loadAt 39 (.pointer (some ⟨xb, xoff + i * 33, none⟩))).run Tryz.prog wr = .ok V wr from by rw [hV]; exact HLDX.out wr hbw.out)
      obtain ⟨xo, xc, exv, hx1, hx2⟩ := Lst.form hat.x
      unfold maxLen at hx2
      obtain ⟨nX, hnX⟩ : ∃ n, n = X.length := ⟨_, rfl⟩
      rw [← hnX] at exv hx1
      obtain ⟨pa, na, ka, eca⟩ := hat.con.cells.slice
      obtain ⟨pb, nb, kb, ecb⟩ := hat.con.wipes.slice
      obtain ⟨pd, nd, kd, ecd⟩ := hat.con.sibs.slice
      obtain ⟨A1, eA1, hA1⟩ := hat.con.cells
      obtain ⟨A2, eA2, hA2⟩ := hat.con.wipes
      obtain ⟨A3, eA3, hA3⟩ := hat.con.sibs
      have hzc : ∀ (A : List Ro) (l : List Mu), A.map (·.1) = l → (∀ m ∈ l, m ∈ c.all) → ∀ y ∈ A, y.1.key.size ≤ maxLen ∧ y.1.fin.size ≤ maxLen ∧ y.1.val.size ≤ maxLen := fun A l hA hl y hy => hz.con _ (hl _ (by rw [← hA]; exact List.mem_map.2 ⟨y, hy, rfl⟩))
      obtain ⟨G1, hG1⟩ : ∃ G, G = greatE x Q.length R := ⟨_, rfl⟩
      obtain ⟨G3, hG3⟩ : ∃ G, G = greatF c.cells 5 := ⟨_, rfl⟩
      obtain ⟨G4, hG4⟩ : ∃ G, G = greatF c.wipes 5 := ⟨_, rfl⟩
      obtain ⟨G5, hG5⟩ : ∃ G, G = greatF c.sibs 5 := ⟨_, rfl⟩
      rw [← hG1] at hgr
      have hg3 := fun (Wx : World) (h : Below w.heap.size w Wx) => great_any x.ca A1 5 Wx (hA1.below h) (by decide) (hzc A1 _ eA1 (fun m hm => by unfold Con.all; simp [hm]))
      have hg4 := fun (Wx : World) (h : Below w.heap.size w Wx) => great_any x.cb A2 5 Wx (hA2.below h) (by decide) (hzc A2 _ eA2 (fun m hm => by unfold Con.all; simp [hm]))
      have hg5 := fun (Wx : World) (h : Below w.heap.size w Wx) => great_any x.cd A3 5 Wx (hA3.below h) (by decide) (hzc A3 _ eA3 (fun m hm => by unfold Con.all; simp [hm]))
      rw [eA1, ← hG3, eca] at hg3
      rw [eA2, ← hG4, ecb] at hg4
      rw [eA3, ← hG5, ecd] at hg5
      have HG3 := Lib.hid hg3
      have HG4 := Lib.hid hg4
      have HG5 := Lib.hid hg5
      have HGR := Lib.hid hgr
      have HCP := Lib.hid hcp
      have HEV := Lib.hid (And.intro hat hz)
      have HGG := Lib.hid (And.intro hG1 (And.intro hG3 (And.intro hG4 hG5)))
      have HNX := Lib.hid hnX
      have HX := Lib.hid hx
      have HVV := Lib.hid hV
      have HCE := Lib.hid (fun (Wx : World) (h : Below w.heap.size w Wx) => show Wx.cell? ⟨xb, xoff + i * 33 + 32, none⟩ = some (.slice xo nX xc) ∧ Wx.cell? ⟨xb, xoff + i * 33 + 14, none⟩ = some (.slice pa na ka) ∧ Wx.cell? ⟨xb, xoff + i * 33 + 15, none⟩ = some (.slice pb nb kb) ∧ Wx.cell? ⟨xb, xoff + i * 33 + 16, none⟩ = some (.slice pd nd kd) ∧ Wx.cell? ⟨xb, xoff + i * 33, none⟩ = some (.int .i64 x.kind) ∧ Wx.cell? ⟨xb, xoff + i * 33 + 3, none⟩ = some (.int .i64 x.op) from
        ⟨HCX.out Wx h 32 _ (by rw [← exv]; rfl), HCX.out Wx h 14 _ (by rw [← eca]; rfl), HCX.out Wx h 15 _ (by rw [← ecb]; rfl), HCX.out Wx h 16 _ (by rw [← ecd]; rfl), HCX.out Wx h 0 _ rfl, HCX.out Wx h 3 _ rfl⟩)
      clear hcx hat hz hV hgr hcp exv hnX eca ecb ecd eA1 hA1 eA2 hA2 eA3 hA3 hzc hG1 hG3 hG4 hG5 hg3 hg4 hg5 hx hil
      go_wp2_with (refine wpList_load_run rfl 39 _ rfl (.pointer (some ⟨xb, xoff + i * 33, none⟩)) V rfl HLD0.out ?_)
      cases G1
      · refine HGR.out.mono ?_
        rintro e w1 ⟨rfl, hb1⟩
        obtain ⟨q32, q14, q15, q16, q0, q3⟩ := HCE.out w1 (below_then hbw.out (Nat.le_refl _) hb1)
        have HB1 := Lib.hid (below_then hbw.out (Nat.le_refl _) hb1)
        have HOW := Lib.hid (row_below hown.out hb1)
        have HSMS := hsm
        clear hb1
        by_cases hX : (50 : Int) < (nX : Int)
        · go_wp2_with fail
          go_ret
          exact ⟨rfl, HB1.out⟩
        · go_wp2_with fail
          cases G3
          · refine (HG3.out w1 HB1.out).mono ?_
            rintro e w2 ⟨rfl, h⟩
            subst h
            go_wp2_with fail
            cases G4
            · refine (HG4.out w1 HB1.out).mono ?_
              rintro e w2 ⟨rfl, h⟩
              subst h
              go_wp2_with fail
              cases G5
              · refine (HG5.out w1 HB1.out).mono ?_
                rintro e w2 ⟨rfl, h⟩
                subst h
                have HSM := Lib.hid (evsm_of (X := X) (Q := Q) HEV.out.2 HGG.out.1.symm (by have := HNX.out; omega) HGG.out.2.1.symm HGG.out.2.2.1.symm HGG.out.2.2.2.symm)
                obtain ⟨kx, hkx⟩ : ∃ z, z = x.kind := ⟨_, rfl⟩
                obtain ⟨ox, hox⟩ : ∃ z, z = x.op := ⟨_, rfl⟩
                rw [← hkx] at q0
                rw [← hox] at q3
                have HKO := Lib.hid (And.intro hkx.symm hox.symm)
                clear hkx hox
                cases hkk : (kx == k)
                · have HWS := Lib.hid (show wantF k L (i + 1) = wantF k L i from by rw [wantF_step HX.out, if_neg (by rw [HKO.out.1]; simpa using hkk), List.append_nil])
                  have HLDA := Lib.hid (show (Instr.loadAt 39 (.pointer (some ⟨xb, xoff + i * 33, none⟩))).run Tryz.prog w1 = .ok V w1 from by rw [HVV.out]; exact HLDX.out w1 HB1.out)
                  cases hF : decide (F < 0)
                  · have HFS := Lib.hid (show firstF op L (i + 1) = F from by rw [hFN.out.1]; exact firstF_miss HX.out (fun g => (show ¬ F < 0 from of_decide_eq_false hF) (by rw [hFN.out.1]; exact g.1)))
                    go_wp2_with (refine wpList_load_run rfl 39 _ rfl (.pointer (some ⟨xb, xoff + i * 33, none⟩)) V rfl HLDA.out ?_)
                    refine (HCP.out w1 HB1.out HSM.out).mono ?_
                    rintro e w3 ⟨rfl, hb3⟩
                    have HB3 := Lib.hid (below_then HB1.out (Nat.le_refl _) hb3)
                    have HOW3 := Lib.hid (row_below HOW.out hb3)
                    clear hb3
                    go_wp2_with fail
                    go_roundw
                    case rel => exact ⟨i + 1, n, F, wo, wc, by omega, rfl, rfl, by go_num, by omega, by omega, Lib.hid ⟨HFS.out.symm, by rw [HWS.out, hFN.out.2]⟩, Lib.hid (by rw [HWS.out]; exact HOW3.out), Lib.hid (sm_step HSMS.out HX.out ⟨Q, NN, R, X, c, HEV.out.1, HSM.out⟩), HB3⟩
                    case measure => simp [intOf]; omega
                  · cases h5 : (kx == 5)
                    · have HFS := Lib.hid (show firstF op L (i + 1) = F from by rw [hFN.out.1]; exact firstF_miss HX.out (fun g => (show ¬ kx = 5 from by simpa using h5) (HKO.out.1.symm.trans g.2.1)))
                      go_wp2_with (refine wpList_load_run rfl 39 _ rfl (.pointer (some ⟨xb, xoff + i * 33, none⟩)) V rfl HLDA.out ?_)
                      refine (HCP.out w1 HB1.out HSM.out).mono ?_
                      rintro e w3 ⟨rfl, hb3⟩
                      have HB3 := Lib.hid (below_then HB1.out (Nat.le_refl _) hb3)
                      have HOW3 := Lib.hid (row_below HOW.out hb3)
                      clear hb3
                      go_wp2_with fail
                      go_roundw
                      case rel => exact ⟨i + 1, n, F, wo, wc, by omega, rfl, rfl, by go_num, by omega, by omega, Lib.hid ⟨HFS.out.symm, by rw [HWS.out, hFN.out.2]⟩, Lib.hid (by rw [HWS.out]; exact HOW3.out), Lib.hid (sm_step HSMS.out HX.out ⟨Q, NN, R, X, c, HEV.out.1, HSM.out⟩), HB3⟩
                      case measure => simp [intOf]; omega
                    · cases hop : (ox == op)
                      · have HFS := Lib.hid (show firstF op L (i + 1) = F from by rw [hFN.out.1]; exact firstF_miss HX.out (fun g => (show ¬ ox = op from by simpa using hop) (HKO.out.2.symm.trans g.2.2)))
                        go_wp2_with (refine wpList_load_run rfl 39 _ rfl (.pointer (some ⟨xb, xoff + i * 33, none⟩)) V rfl HLDA.out ?_)
                        refine (HCP.out w1 HB1.out HSM.out).mono ?_
                        rintro e w3 ⟨rfl, hb3⟩
                        have HB3 := Lib.hid (below_then HB1.out (Nat.le_refl _) hb3)
                        have HOW3 := Lib.hid (row_below HOW.out hb3)
                        clear hb3
                        go_wp2_with fail
                        go_roundw
                        case rel => exact ⟨i + 1, n, F, wo, wc, by omega, rfl, rfl, by go_num, by omega, by omega, Lib.hid ⟨HFS.out.symm, by rw [HWS.out, hFN.out.2]⟩, Lib.hid (by rw [HWS.out]; exact HOW3.out), Lib.hid (sm_step HSMS.out HX.out ⟨Q, NN, R, X, c, HEV.out.1, HSM.out⟩), HB3⟩
                        case measure => simp [intOf]; omega
                      · have HFS := Lib.hid (show firstF op L (i + 1) = (i : Int) from firstF_hit HX.out (by rw [← hFN.out.1]; exact of_decide_eq_true hF) (by rw [HKO.out.1]; simpa using h5) (by rw [HKO.out.2]; simpa using hop))
                        go_wp2_with (refine wpList_load_run rfl 39 _ rfl (.pointer (some ⟨xb, xoff + i * 33, none⟩)) V rfl HLDA.out ?_)
                        refine (HCP.out w1 HB1.out HSM.out).mono ?_
                        rintro e w3 ⟨rfl, hb3⟩
                        have HB3 := Lib.hid (below_then HB1.out (Nat.le_refl _) hb3)
                        have HOW3 := Lib.hid (row_below HOW.out hb3)
                        clear hb3
                        go_wp2_with fail
                        go_roundw
                        case rel => exact ⟨i + 1, n, (i : Int), wo, wc, by omega, rfl, rfl, by go_num, by omega, by omega, Lib.hid ⟨HFS.out.symm, by rw [HWS.out, hFN.out.2]⟩, Lib.hid (by rw [HWS.out]; exact HOW3.out), Lib.hid (sm_step HSMS.out HX.out ⟨Q, NN, R, X, c, HEV.out.1, HSM.out⟩), HB3⟩
                        case measure => simp [intOf]; omega
                · have HWS := Lib.hid (show wantF k L (i + 1) = wantF k L i ++ [(i : Int)] from by rw [wantF_step HX.out, if_pos (by rw [HKO.out.1]; simpa using hkk)])
                  cases hF : decide (F < 0)
                  · have HFS := Lib.hid (show firstF op L (i + 1) = F from by rw [hFN.out.1]; exact firstF_miss HX.out (fun g => (show ¬ F < 0 from of_decide_eq_false hF) (by rw [hFN.out.1]; exact g.1)))
                    go_wp2_with (first | (refine wpList_load_run rfl 39 _ rfl (.pointer (some ⟨xb, xoff + i * 33, none⟩)) V rfl HLDA.out ?_) | (at_builtin; refine wpList_append_own _ rfl (.tmp 69) (.tmp 71) 24 rfl w.heap.size 3 i0 (.int .i64 0) 1 8 Tryz.underlying24 HI.out.1 HI.out.2.1 HI.out.2.2.1 HI.out.2.2.2 rfl (by decide) (.slice wo n wc) _ _ rfl (HOW.out.alloc _) ⟨_, 0, none⟩ 1 1 (enI (i : Int)) rfl rfl (new_cells _ (enI (i : Int)) _) (by intro u hu; simp at hu; subst hu; rfl) (by unfold maxLen; omega) (by omega) (by have := HB1.out.size; simp; omega) ?_; intro v2 w2 hown2 hgrow2 _; obtain ⟨vo2, vc2, rfl⟩ := row_form hown2; have HB2 := Lib.hid (lists_grown HB1.out hgrow2 HOW.out); have HOW2 := Lib.hid hown2; have HLDA := Lib.hid (show (Instr.loadAt 39 (.pointer (some ⟨xb, xoff + i * 33, none⟩))).run Tryz.prog w2 = .ok V w2 from by rw [HVV.out]; exact HLDX.out w2 HB2.out); have p0 := (HCE.out w2 HB2.out).2.2.2.2.1; rw [HKO.out.1] at p0; have p3 := (HCE.out w2 HB2.out).2.2.2.2.2; rw [HKO.out.2] at p3; clear hown2 hgrow2))
                    refine (HCP.out w2 HB2.out HSM.out).mono ?_
                    rintro e w3 ⟨rfl, hb3⟩
                    have HB3 := Lib.hid (below_then HB2.out (Nat.le_refl _) hb3)
                    have HOW3 := Lib.hid (row_below HOW2.out hb3)
                    clear hb3
                    go_wp2_with fail
                    go_roundw
                    case rel => exact ⟨i + 1, n + 1, F, vo2, vc2, by omega, rfl, rfl, by go_num, by omega, by omega, Lib.hid ⟨HFS.out.symm, by rw [HWS.out, List.length_append, List.length_cons, List.length_nil, hFN.out.2]⟩, Lib.hid (by rw [HWS.out, List.flatMap_append, List.flatMap_singleton]; exact HOW3.out), Lib.hid (sm_step HSMS.out HX.out ⟨Q, NN, R, X, c, HEV.out.1, HSM.out⟩), HB3⟩
                    case measure => simp [intOf]; omega
                  · cases h5 : (kx == 5)
                    · have HFS := Lib.hid (show firstF op L (i + 1) = F from by rw [hFN.out.1]; exact firstF_miss HX.out (fun g => (show ¬ kx = 5 from by simpa using h5) (HKO.out.1.symm.trans g.2.1)))
                      go_wp2_with (first | (refine wpList_load_run rfl 39 _ rfl (.pointer (some ⟨xb, xoff + i * 33, none⟩)) V rfl HLDA.out ?_) | (at_builtin; refine wpList_append_own _ rfl (.tmp 69) (.tmp 71) 24 rfl w.heap.size 3 i0 (.int .i64 0) 1 8 Tryz.underlying24 HI.out.1 HI.out.2.1 HI.out.2.2.1 HI.out.2.2.2 rfl (by decide) (.slice wo n wc) _ _ rfl (HOW.out.alloc _) ⟨_, 0, none⟩ 1 1 (enI (i : Int)) rfl rfl (new_cells _ (enI (i : Int)) _) (by intro u hu; simp at hu; subst hu; rfl) (by unfold maxLen; omega) (by omega) (by have := HB1.out.size; simp; omega) ?_; intro v2 w2 hown2 hgrow2 _; obtain ⟨vo2, vc2, rfl⟩ := row_form hown2; have HB2 := Lib.hid (lists_grown HB1.out hgrow2 HOW.out); have HOW2 := Lib.hid hown2; have HLDA := Lib.hid (show (Instr.loadAt 39 (.pointer (some ⟨xb, xoff + i * 33, none⟩))).run Tryz.prog w2 = .ok V w2 from by rw [HVV.out]; exact HLDX.out w2 HB2.out); have p0 := (HCE.out w2 HB2.out).2.2.2.2.1; rw [HKO.out.1] at p0; have p3 := (HCE.out w2 HB2.out).2.2.2.2.2; rw [HKO.out.2] at p3; clear hown2 hgrow2))
                      refine (HCP.out w2 HB2.out HSM.out).mono ?_
                      rintro e w3 ⟨rfl, hb3⟩
                      have HB3 := Lib.hid (below_then HB2.out (Nat.le_refl _) hb3)
                      have HOW3 := Lib.hid (row_below HOW2.out hb3)
                      clear hb3
                      go_wp2_with fail
                      go_roundw
                      case rel => exact ⟨i + 1, n + 1, F, vo2, vc2, by omega, rfl, rfl, by go_num, by omega, by omega, Lib.hid ⟨HFS.out.symm, by rw [HWS.out, List.length_append, List.length_cons, List.length_nil, hFN.out.2]⟩, Lib.hid (by rw [HWS.out, List.flatMap_append, List.flatMap_singleton]; exact HOW3.out), Lib.hid (sm_step HSMS.out HX.out ⟨Q, NN, R, X, c, HEV.out.1, HSM.out⟩), HB3⟩
                      case measure => simp [intOf]; omega
                    · cases hop : (ox == op)
                      · have HFS := Lib.hid (show firstF op L (i + 1) = F from by rw [hFN.out.1]; exact firstF_miss HX.out (fun g => (show ¬ ox = op from by simpa using hop) (HKO.out.2.symm.trans g.2.2)))
                        go_wp2_with (first | (refine wpList_load_run rfl 39 _ rfl (.pointer (some ⟨xb, xoff + i * 33, none⟩)) V rfl HLDA.out ?_) | (at_builtin; refine wpList_append_own _ rfl (.tmp 69) (.tmp 71) 24 rfl w.heap.size 3 i0 (.int .i64 0) 1 8 Tryz.underlying24 HI.out.1 HI.out.2.1 HI.out.2.2.1 HI.out.2.2.2 rfl (by decide) (.slice wo n wc) _ _ rfl (HOW.out.alloc _) ⟨_, 0, none⟩ 1 1 (enI (i : Int)) rfl rfl (new_cells _ (enI (i : Int)) _) (by intro u hu; simp at hu; subst hu; rfl) (by unfold maxLen; omega) (by omega) (by have := HB1.out.size; simp; omega) ?_; intro v2 w2 hown2 hgrow2 _; obtain ⟨vo2, vc2, rfl⟩ := row_form hown2; have HB2 := Lib.hid (lists_grown HB1.out hgrow2 HOW.out); have HOW2 := Lib.hid hown2; have HLDA := Lib.hid (show (Instr.loadAt 39 (.pointer (some ⟨xb, xoff + i * 33, none⟩))).run Tryz.prog w2 = .ok V w2 from by rw [HVV.out]; exact HLDX.out w2 HB2.out); have p0 := (HCE.out w2 HB2.out).2.2.2.2.1; rw [HKO.out.1] at p0; have p3 := (HCE.out w2 HB2.out).2.2.2.2.2; rw [HKO.out.2] at p3; clear hown2 hgrow2))
                        refine (HCP.out w2 HB2.out HSM.out).mono ?_
                        rintro e w3 ⟨rfl, hb3⟩
                        have HB3 := Lib.hid (below_then HB2.out (Nat.le_refl _) hb3)
                        have HOW3 := Lib.hid (row_below HOW2.out hb3)
                        clear hb3
                        go_wp2_with fail
                        go_roundw
                        case rel => exact ⟨i + 1, n + 1, F, vo2, vc2, by omega, rfl, rfl, by go_num, by omega, by omega, Lib.hid ⟨HFS.out.symm, by rw [HWS.out, List.length_append, List.length_cons, List.length_nil, hFN.out.2]⟩, Lib.hid (by rw [HWS.out, List.flatMap_append, List.flatMap_singleton]; exact HOW3.out), Lib.hid (sm_step HSMS.out HX.out ⟨Q, NN, R, X, c, HEV.out.1, HSM.out⟩), HB3⟩
                        case measure => simp [intOf]; omega
                      · have HFS := Lib.hid (show firstF op L (i + 1) = (i : Int) from firstF_hit HX.out (by rw [← hFN.out.1]; exact of_decide_eq_true hF) (by rw [HKO.out.1]; simpa using h5) (by rw [HKO.out.2]; simpa using hop))
                        go_wp2_with (first | (refine wpList_load_run rfl 39 _ rfl (.pointer (some ⟨xb, xoff + i * 33, none⟩)) V rfl HLDA.out ?_) | (at_builtin; refine wpList_append_own _ rfl (.tmp 69) (.tmp 71) 24 rfl w.heap.size 3 i0 (.int .i64 0) 1 8 Tryz.underlying24 HI.out.1 HI.out.2.1 HI.out.2.2.1 HI.out.2.2.2 rfl (by decide) (.slice wo n wc) _ _ rfl (HOW.out.alloc _) ⟨_, 0, none⟩ 1 1 (enI (i : Int)) rfl rfl (new_cells _ (enI (i : Int)) _) (by intro u hu; simp at hu; subst hu; rfl) (by unfold maxLen; omega) (by omega) (by have := HB1.out.size; simp; omega) ?_; intro v2 w2 hown2 hgrow2 _; obtain ⟨vo2, vc2, rfl⟩ := row_form hown2; have HB2 := Lib.hid (lists_grown HB1.out hgrow2 HOW.out); have HOW2 := Lib.hid hown2; have HLDA := Lib.hid (show (Instr.loadAt 39 (.pointer (some ⟨xb, xoff + i * 33, none⟩))).run Tryz.prog w2 = .ok V w2 from by rw [HVV.out]; exact HLDX.out w2 HB2.out); have p0 := (HCE.out w2 HB2.out).2.2.2.2.1; rw [HKO.out.1] at p0; have p3 := (HCE.out w2 HB2.out).2.2.2.2.2; rw [HKO.out.2] at p3; clear hown2 hgrow2))
                        refine (HCP.out w2 HB2.out HSM.out).mono ?_
                        rintro e w3 ⟨rfl, hb3⟩
                        have HB3 := Lib.hid (below_then HB2.out (Nat.le_refl _) hb3)
                        have HOW3 := Lib.hid (row_below HOW2.out hb3)
                        clear hb3
                        go_wp2_with fail
                        go_roundw
                        case rel => exact ⟨i + 1, n + 1, (i : Int), vo2, vc2, by omega, rfl, rfl, by go_num, by omega, by omega, Lib.hid ⟨HFS.out.symm, by rw [HWS.out, List.length_append, List.length_cons, List.length_nil, hFN.out.2]⟩, Lib.hid (by rw [HWS.out, List.flatMap_append, List.flatMap_singleton]; exact HOW3.out), Lib.hid (sm_step HSMS.out HX.out ⟨Q, NN, R, X, c, HEV.out.1, HSM.out⟩), HB3⟩
                        case measure => simp [intOf]; omega
              · refine (HG5.out w1 HB1.out).mono ?_
                rintro e w2 ⟨rfl, h⟩
                subst h
                go_wp2_with fail
                go_ret
                exact ⟨rfl, HB1.out⟩
            · refine (HG4.out w1 HB1.out).mono ?_
              rintro e w2 ⟨rfl, h⟩
              subst h
              go_wp2_with fail
              go_ret
              exact ⟨rfl, HB1.out⟩
          · refine (HG3.out w1 HB1.out).mono ?_
            rintro e w2 ⟨rfl, h⟩
            subst h
            go_wp2_with fail
            go_ret
            exact ⟨rfl, HB1.out⟩
      · refine HGR.out.mono ?_
        rintro e w1 ⟨rfl, hb1⟩
        have HB1 := Lib.hid (below_then hbw.out (Nat.le_refl _) hb1)
        clear hb1
        go_wp2_with fail
        go_ret
        exact ⟨rfl, HB1.out⟩
    · obtain rfl : N = i := by omega
      obtain ⟨wz, hwz⟩ : ∃ W, W = wr := ⟨_, rfl⟩
      subst hwz
      have hall : ∀ e ∈ L, ∃ Q NN R X c, EvAt w e Q NN R X c ∧ EvSm e Q NN R X c := fun e he => by
        obtain ⟨j, hj, rfl⟩ := List.mem_iff_getElem.1 he
        exact hsm.out j _ (by rw [HN.out]; exact hj) (List.getElem?_eq_getElem hj)
      have hans := answer_any op ao cap L wz (HT.out.below hbw.out) (by rw [← HN.out]; exact Lst.below HA.out hbw.out) (by rw [← HN.out]; omega) (fun e he => by
        obtain ⟨Q, NN, R, X, c, h1, h2⟩ := hall e he
        exact ⟨Q, NN, R, X, c, h1.below hbw.out, h2⟩)
      rw [← HN.out] at hans
      have HANS := Lib.hid hans
      have HALL := Lib.hid hall
      clear hans hall hsm
      go_wp2_with fail
      refine HANS.out.mono ?_
      rintro e w1 ⟨hb1, hm⟩
      cases hfe : firstE op (ofK Ev.kind 5 L N) with
      | none =>
        rw [hfe] at hm
        simp only [] at hm
        subst hm
        have hF1 : F = -1 := by rw [hFN.out.1]; unfold firstF; rw [hfe]
        subst hF1
        obtain ⟨V2, hV2⟩ : ∃ V2, V2 = vE zE := ⟨_, rfl⟩
        rw [← hV2]
        obtain ⟨W2, hW2⟩ : ∃ W2, W2 = w1.alloc (.cells ⟨enE zE⟩ 39) := ⟨_, rfl⟩
        have HST := Lib.hid (show (Instr.storeAt 39 (.pointer (some ⟨w1.heap.size, 0, none⟩)) V2).run Tryz.prog (w1.alloc (.cells #[.int .i64 0, .int .i64 0, .int .i64 0, .int .i64 0, .int .i64 0, .int .i64 0, .string ⟨#[]⟩, .string ⟨#[]⟩, .string ⟨#[]⟩, .int .i64 0, .int .i64 0, .int .i64 0, .int .i64 0, .slice none 0 0, .slice none 0 0, .slice none 0 0, .slice none 0 0, .int .i64 0, .int .i64 0, .int .i64 0, .int .i64 0, .int .i64 0, .int .i64 0, .bool false, .int .i64 0, .slice none 0 0, .slice none 0 0, .int .i64 0, .int .i64 0, .string ⟨#[]⟩, .string ⟨#[]⟩, .slice none 0 0, .slice none 0 0] 39)) = .ok () W2 by
          rw [show V2 = Value.agg ⟨enE zE⟩ from hV2, hW2, ← World.setRow_alloc_new w1 #[.int .i64 0, .int .i64 0, .int .i64 0, .int .i64 0, .int .i64 0, .int .i64 0, .string ⟨#[]⟩, .string ⟨#[]⟩, .string ⟨#[]⟩, .int .i64 0, .int .i64 0, .int .i64 0, .int .i64 0, .slice none 0 0, .slice none 0 0, .slice none 0 0, .slice none 0 0, .int .i64 0, .int .i64 0, .int .i64 0, .int .i64 0, .int .i64 0, .int .i64 0, .bool false, .int .i64 0, .slice none 0 0, .slice none 0 0, .int .i64 0, .int .i64 0, .string ⟨#[]⟩, .string ⟨#[]⟩, .slice none 0 0, .slice none 0 0] ⟨enE zE⟩ 39]
          exact (VarAt.new w1 39 [.int .i64 0, .int .i64 0, .int .i64 0, .int .i64 0, .int .i64 0, .int .i64 0, .string ⟨#[]⟩, .string ⟨#[]⟩, .string ⟨#[]⟩, .int .i64 0, .int .i64 0, .int .i64 0, .int .i64 0, .slice none 0 0, .slice none 0 0, .slice none 0 0, .slice none 0 0, .int .i64 0, .int .i64 0, .int .i64 0, .int .i64 0, .int .i64 0, .int .i64 0, .bool false, .int .i64 0, .slice none 0 0, .slice none 0 0, .int .i64 0, .int .i64 0, .string ⟨#[]⟩, .string ⟨#[]⟩, .slice none 0 0, .slice none 0 0]).storeAll 39 33 (enE zE) rfl rfl size_Ev rfl)
        have hb2 : Below w1.heap.size w1 W2 := by rw [hW2]; exact (Below.refl _ _).alloc (Nat.le_refl _) _
        have HB2 := Lib.hid (below_then (below_then hbw.out (Nat.le_refl _) hb1) (Nat.le_refl _) hb2)
        have HO2 := Lib.hid (row_below (row_below hown.out hb1) hb2)
        have HFE := Lib.hid hfe
        clear hV2 hW2 hb2 hb1 hfe
        go_upto_region 17 with (refine wpList_store_run rfl 39 _ _ rfl (.pointer (some ⟨w1.heap.size, 0, none⟩)) V2 rfl rfl HST.out ?_)
        refine wp_region_told [] 16 [false, false, false, false, false, false, false, false, false, false, false, false, false, false, false, false, false, false, false, false, false, false, false, false, false, false, false, false, false, false, false, false, false, false, false, false, false, false, false, false, false, false, false, false, false, false, false, false, false, false, false, false, false, false, false, false, false, false, false, false, false, false, false, false, false, false, false, false, false, false, false, false, false, false, false, false, false, false, false, false, false, false, false, false, false, false, false, false, false, false, false, false, false, false, false, false, false, false, false, false, false, false, false, false, false, true, true, true, true, true, true, true, true, true, true, true, true, true, true, true, true, false, false, false, false, false, false, false, false, false]
          [sLit (.bool false),
    sLit (.int .i64 (-1)),
    sLit (.bool false),
    sLit (.bool false),
    sLit (.bool false),
    sLit (.bool false),
    sLit (.bool false),
    sFree,
    sFree,
    sFree,
    sFree,
    sFree,
    sFree,
    sFree,
    sFree,
    sLit (.bool false)] (by kernel_rfl) (by kernel_rfl) (by kernel_rfl) (fun F hF => ?_)
        simp only [over, overL, Nat.reduceAdd] at hF
        obtain rfl := funext hF
        clear hF
        refine ⟨⟨?_, ?_, ?_, ?_, ?_, ?_, ?_, ?_, ?_, ?_, ?_, ?_, ?_, ?_, ?_, ?_, trivial⟩, ?_⟩
        · intro V W hb hd K hK _
          clear hd
          go_wp2_with fail
          refine hK _ _ ?_ ?_ ?_ ?_
          · rfl
          · exact Below.refl _ _
          · exact rfl
          · trivial
        · intro V W hb hd K hK _
          clear hd
          go_wp2_with fail
          refine hK _ _ ?_ ?_ ?_ ?_
          · rfl
          · exact Below.refl _ _
          · exact rfl
          · trivial
        · intro V W hb hd K hK _
          have h1 : (V 106) = .int .i64 (-1) := hd 1 (by kernel_rfl)
          clear hd
          go_wp2_with fail
          refine hK _ _ ?_ ?_ ?_ ?_
          · rfl
          · exact Below.refl _ _
          · exact rfl
          · trivial
        · intro V W hb hd K hK _
          have h0 : (V 105) = .bool false := hd 0 (by kernel_rfl)
          have h2 : (V 107) = .bool false := hd 2 (by kernel_rfl)
          clear hd
          go_wp2_with fail
          refine hK _ _ ?_ ?_ ?_ ?_
          · rfl
          · exact Below.refl _ _
          · exact rfl
          · trivial
        · intro V W hb hd K hK _
          have h3 : (V 108) = .bool false := hd 3 (by kernel_rfl)
          clear hd
          go_wp2_with fail
          refine hK _ _ ?_ ?_ ?_ ?_
          · rfl
          · exact Below.refl _ _
          · exact rfl
          · trivial
        · intro V W hb hd K hK _
          have h4 : (V 109) = .bool false := hd 4 (by kernel_rfl)
          clear hd
          go_wp2_with fail
          refine hK _ _ ?_ ?_ ?_ ?_
          · rfl
          · exact Below.refl _ _
          · exact rfl
          · trivial
        · intro V W hb hd K hK _
          have h4 : (V 109) = .bool false := hd 4 (by kernel_rfl)
          have h5 : (V 110) = .bool false := hd 5 (by kernel_rfl)
          clear hd
          go_wp2_with fail
          refine hK _ _ ?_ ?_ ?_ ?_
          · rfl
          · exact Below.refl _ _
          · exact rfl
          · trivial
        · intro V W hb hd K hK _
          have h6 : (V 111) = .bool false := hd 6 (by kernel_rfl)
          clear hd
          go_wp2_with fail
          refine hK _ _ ?_ ?_ ?_ ?_
          · rfl
          · exact Below.refl _ _
          · exact trivial
          · trivial
        · intro V W hb hd K hK _
          have h6 : (V 111) = .bool false := hd 6 (by kernel_rfl)
          have h7 : True := hd 7 (by kernel_rfl)
          clear hd
          go_wp2_with fail
          refine hK _ _ ?_ ?_ ?_ ?_
          · rfl
          · exact Below.refl _ _
          · exact trivial
          · trivial
        · intro V W hb hd K hK _
          have h6 : (V 111) = .bool false := hd 6 (by kernel_rfl)
          clear hd
          go_wp2_with fail
          refine hK _ _ ?_ ?_ ?_ ?_
          · rfl
          · exact Below.refl _ _
          · exact trivial
          · trivial
        · intro V W hb hd K hK _
          have h6 : (V 111) = .bool false := hd 6 (by kernel_rfl)
          clear hd
          go_wp2_with fail
          refine hK _ _ ?_ ?_ ?_ ?_
          · rfl
          · exact Below.refl _ _
          · exact trivial
          · trivial
        · intro V W hb hd K hK _
          have h6 : (V 111) = .bool false := hd 6 (by kernel_rfl)
          have h9 : True := hd 9 (by kernel_rfl)
          have h10 : True := hd 10 (by kernel_rfl)
          clear hd
          go_wp2_with fail
          refine hK _ _ ?_ ?_ ?_ ?_
          · rfl
          · exact Below.refl _ _
          · exact trivial
          · trivial
        · intro V W hb hd K hK _
          have h6 : (V 111) = .bool false := hd 6 (by kernel_rfl)
          have h11 : True := hd 11 (by kernel_rfl)
          clear hd
          go_wp2_with fail
          refine hK _ _ ?_ ?_ ?_ ?_
          · rfl
          · exact Below.refl _ _
          · exact trivial
          · trivial
        · intro V W hb hd K hK _
          have h6 : (V 111) = .bool false := hd 6 (by kernel_rfl)
          have h12 : True := hd 12 (by kernel_rfl)
          clear hd
          go_wp2_with fail
          refine hK _ _ ?_ ?_ ?_ ?_
          · rfl
          · exact Below.refl _ _
          · exact trivial
          · trivial
        · intro V W hb hd K hK _
          have h6 : (V 111) = .bool false := hd 6 (by kernel_rfl)
          have h8 : True := hd 8 (by kernel_rfl)
          have h13 : True := hd 13 (by kernel_rfl)
          clear hd
          go_wp2_with fail
          refine hK _ _ ?_ ?_ ?_ ?_
          · rfl
          · exact Below.refl _ _
          · exact trivial
          · trivial
        · intro V W hb hd K hK _
          have h4 : (V 109) = .bool false := hd 4 (by kernel_rfl)
          have h6 : (V 111) = .bool false := hd 6 (by kernel_rfl)
          have h14 : True := hd 14 (by kernel_rfl)
          clear hd
          go_wp2_with fail
          refine hK _ _ ?_ ?_ ?_ ?_
          · rfl
          · exact Below.refl _ _
          · exact rfl
          · trivial
        · intro V W hb hd hap
          have h4 : (V 109) = .bool false := hd 4 (by decide)
          have h15 : (V 120) = .bool false := hd 15 (by decide)
          clear hd hap
          simp only [List.drop_succ_cons, List.drop_zero]
          have HBD := Lib.hid (below_then HB2.out (Nat.le_refl _) hb)
          have HOD := Lib.hid (row_below HO2.out hb)
          have hpl := places_any Ev.kind enE enE_len (fun _ => rfl) ao cap k L W (fun e he => by
            obtain ⟨Q, NN, R, X, c, h1, h2⟩ := HALL.out e he
            exact h1.one) (by rw [← HN.out]; exact Lst.below HA.out HBD.out) (by rw [← HN.out]; omega)
          rw [← HN.out] at hpl
          have HPL := Lib.hid hpl
          clear hpl hb
          go_wp2_with fail
          refine HPL.out.mono ?_
          rintro e wp ⟨v, rfl, hrow, hbp⟩
          have HBP := Lib.hid (below_then HBD.out (Nat.le_refl _) hbp)
          obtain ⟨po, pc, rfl, heq⟩ := eq_step hFN.out.2 hrow (row_below HOD.out hbp) (by have := hFN.out.2; unfold wantF at this ⊢; omega)
          have HEQ := Lib.hid heq
          clear heq hrow hbp
          go_wp2_with fail
          refine HEQ.out.mono ?_
          rintro e we ⟨rfl, hbe⟩
          have HBE := Lib.hid (below_then HBP.out (Nat.le_refl _) hbe)
          clear hbe
          go_wp2_with fail
          refine (alive30_any we (HT.out.below HBE.out)).mono ?_
          rintro e wa ⟨rfl, hba⟩
          have HBA := Lib.hid (below_then HBE.out (Nat.le_refl _) hba)
          clear hba
          go_wp2_with fail
          go_ret
          exact ⟨rfl, HBA.out⟩
      | some p =>
        rw [hfe] at hm
        simp only [] at hm
        obtain ⟨e', rfl, hone, hhit⟩ := hm
        have hF1 : F = (p.2 : Int) := by rw [hFN.out.1]; unfold firstF; rw [hfe]
        subst hF1
        obtain ⟨⟨pe, pj⟩, hp⟩ : ∃ q, q = p := ⟨_, rfl⟩
        subst hp
        have hat := firstE_at (by rw [← HN.out]; exact hfe)
        simp only [] at hat hhit
        have hpl := (List.getElem?_eq_some_iff.1 hat).1
        rw [← HN.out] at hpl
        obtain ⟨xb, xoff, hao, hb, hcx⟩ := Lst.get HA.out (by rw [← HN.out]; exact hpl)
        rw [(List.getElem?_eq_some_iff.1 hat).2] at hcx
        cases hao
        obtain ⟨V2, hV2⟩ : ∃ V2, V2 = vE e' := ⟨_, rfl⟩
        obtain ⟨V1, hV1⟩ : ∃ V1, V1 = vE pe := ⟨_, rfl⟩
        rw [← hV2]
        obtain ⟨W2, hW2⟩ : ∃ W2, W2 = w1.alloc (.cells ⟨enE e'⟩ 39) := ⟨_, rfl⟩
        have HST := Lib.hid (show (Instr.storeAt 39 (.pointer (some ⟨w1.heap.size, 0, none⟩)) V2).run Tryz.prog (w1.alloc (.cells #[.int .i64 0, .int .i64 0, .int .i64 0, .int .i64 0, .int .i64 0, .int .i64 0, .string ⟨#[]⟩, .string ⟨#[]⟩, .string ⟨#[]⟩, .int .i64 0, .int .i64 0, .int .i64 0, .int .i64 0, .slice none 0 0, .slice none 0 0, .slice none 0 0, .slice none 0 0, .int .i64 0, .int .i64 0, .int .i64 0, .int .i64 0, .int .i64 0, .int .i64 0, .bool false, .int .i64 0, .slice none 0 0, .slice none 0 0, .int .i64 0, .int .i64 0, .string ⟨#[]⟩, .string ⟨#[]⟩, .slice none 0 0, .slice none 0 0] 39)) = .ok () W2 by
          rw [show V2 = Value.agg ⟨enE e'⟩ from hV2, hW2, ← World.setRow_alloc_new w1 #[.int .i64 0, .int .i64 0, .int .i64 0, .int .i64 0, .int .i64 0, .int .i64 0, .string ⟨#[]⟩, .string ⟨#[]⟩, .string ⟨#[]⟩, .int .i64 0, .int .i64 0, .int .i64 0, .int .i64 0, .slice none 0 0, .slice none 0 0, .slice none 0 0, .slice none 0 0, .int .i64 0, .int .i64 0, .int .i64 0, .int .i64 0, .int .i64 0, .int .i64 0, .bool false, .int .i64 0, .slice none 0 0, .slice none 0 0, .int .i64 0, .int .i64 0, .string ⟨#[]⟩, .string ⟨#[]⟩, .slice none 0 0, .slice none 0 0] ⟨enE e'⟩ 39]
          exact (VarAt.new w1 39 [.int .i64 0, .int .i64 0, .int .i64 0, .int .i64 0, .int .i64 0, .int .i64 0, .string ⟨#[]⟩, .string ⟨#[]⟩, .string ⟨#[]⟩, .int .i64 0, .int .i64 0, .int .i64 0, .int .i64 0, .slice none 0 0, .slice none 0 0, .slice none 0 0, .slice none 0 0, .int .i64 0, .int .i64 0, .int .i64 0, .int .i64 0, .int .i64 0, .int .i64 0, .bool false, .int .i64 0, .slice none 0 0, .slice none 0 0, .int .i64 0, .int .i64 0, .string ⟨#[]⟩, .string ⟨#[]⟩, .slice none 0 0, .slice none 0 0]).storeAll 39 33 (enE e') rfl rfl size_Ev hone)
        have hb2 : Below w1.heap.size w1 W2 := by rw [hW2]; exact (Below.refl _ _).alloc (Nat.le_refl _) _
        have hB1 := below_then hbw.out (Nat.le_refl _) hb1
        have hB2 := below_then hB1 (Nat.le_refl _) hb2
        have hv2 : VarAt W2 w1.heap.size 39 (enE e') := by rw [hW2]; exact VarAt.new w1 _ _
        have HLD2 := Lib.hid (fun (Wx : World) (h : Below W2.heap.size W2 Wx) => show (Instr.loadAt 39 (.pointer (some ⟨w1.heap.size, 0, none⟩))).run Tryz.prog Wx = .ok V2 Wx from by
          rw [show V2 = Value.agg ⟨enE e'⟩ from hV2]
          exact (hv2.below h).loadAll 39 33 rfl _ Tryz.underlying39 rfl size_Ev)
        have HLD1 := Lib.hid (fun (Wx : World) (h : Below W2.heap.size W2 Wx) => show (Instr.loadAt 39 (.pointer (some ⟨xb, xoff + pj * 33, none⟩))).run Tryz.prog Wx = .ok V1 Wx from by
          rw [show V1 = Value.agg ⟨enE pe⟩ from hV1]
          exact run_loadAt_mid Wx xb (xoff + pj * 33) 39 (enE pe) _ (fun j v hj => ((below_then hB2 (Nat.le_refl _) h).cell (p := ⟨xb, xoff + pj * 33 + j, none⟩) hb).trans ((hcx j (by have := (List.getElem?_eq_some_iff.1 hj).1; rw [enE_len] at this; exact this)).trans hj)) Tryz.underlying39 rfl size_Ev)
        obtain ⟨hs1, hsm2, Q, R, i1, i2, i3, i4, i5, i6, i7⟩ := hhit
        have hz1 : ∀ r ∈ R, r.key.size ≤ 1000 ∧ r.val.size ≤ 1000 := fun r hr => ⟨by have := (i5 r hr).1; omega, by have := (i5 r hr).2; omega⟩
        obtain ⟨TX, hTX⟩ : ∃ TX, TX = lineF pe Q R := ⟨_, rfl⟩
        have hln2 := fun (Wx : World) (h : Below W2.heap.size W2 Wx) => line_any e' Q R Wx (HT.out.below (below_then hB2 (Nat.le_refl _) h)) hsm2 (Lst.below (Lst.below (Lst.owned enI_len (by decide) rfl i6) hb2) h) (Lst.below (Lst.below (Lst.owned enRw_len (by decide) rfl i7) hb2) h) (by omega) (by omega) hz1
        rw [hs1.2 Q R, ← hTX, ← hV2] at hln2
        have hln1 := fun (Wx : World) (h : Below W2.heap.size W2 Wx) => line_any pe Q R Wx (HT.out.below (below_then hB2 (Nat.le_refl _) h)) (by rw [← hs1.1]; exact hsm2) (Lst.below i1 (below_then (below_then hb1 (Nat.le_refl _) hb2) (Nat.le_refl _) h)) (Lst.below i2 (below_then (below_then hb1 (Nat.le_refl _) hb2) (Nat.le_refl _) h)) (by omega) (by omega) hz1
        rw [← hTX, ← hV1] at hln1
        have HLN2 := Lib.hid hln2
        have HLN1 := Lib.hid hln1
        have HB2 := Lib.hid hB2
        have HO2 := Lib.hid (row_below (row_below hown.out hb1) hb2)
        have HFE := Lib.hid hfe
        clear hV1 hV2 hW2 hb2 hb1 hB1 hB2 hv2 hs1 hsm2 i1 i2 i3 i4 i5 i6 i7 hz1 hTX hln1 hln2 hat hcx hone hfe
        go_upto_region 17 with (refine wpList_store_run rfl 39 _ _ rfl (.pointer (some ⟨w1.heap.size, 0, none⟩)) V2 rfl rfl HST.out ?_)
        refine wp_region_told [] 16 [false, false, false, false, false, false, false, false, false, false, false, false, false, false, false, false, false, false, false, false, false, false, false, false, false, false, false, false, false, false, false, false, false, false, false, false, false, false, false, false, false, false, false, false, false, false, false, false, false, false, false, false, false, false, false, false, false, false, false, false, false, false, false, false, false, false, false, false, false, false, false, false, false, false, false, false, false, false, false, false, false, false, false, false, false, false, false, false, false, false, false, false, false, false, false, false, false, false, false, false, false, false, false, false, false, true, true, true, true, true, true, true, true, true, true, true, true, true, true, true, true, false, false, false, false, false, false, false, false, false]
          [sLit (.bool true),
    sLit (.int .i64 (pj : Int)),
    sLit (.bool true),
    sLit (.bool false),
    sLit (.bool false),
    sLit (.bool true),
    sLit (.bool true),
    sLit (V2),
    sLit (.string TX),
    sLit (.slice (some ⟨xb, xoff, none⟩) N cap),
    sLit (.int .i64 (pj : Int)),
    sLit (.pointer (some ⟨xb, xoff + pj * 33, none⟩)),
    sLit (V1),
    sLit (.string TX),
    sLit (.bool false),
    sLit (.bool false)] (by kernel_rfl) (by kernel_rfl) (by kernel_rfl) (fun F hF => ?_)
        simp only [over, overL, Nat.reduceAdd] at hF
        obtain rfl := funext hF
        clear hF
        refine ⟨⟨?_, ?_, ?_, ?_, ?_, ?_, ?_, ?_, ?_, ?_, ?_, ?_, ?_, ?_, ?_, ?_, trivial⟩, ?_⟩
        · intro V W hb hd K hK _
          clear hd
          go_wp2_with fail
          refine hK _ _ ?_ ?_ ?_ ?_
          · rfl
          · exact Below.refl _ _
          · exact rfl
          · trivial
        · intro V W hb hd K hK _
          clear hd
          go_wp2_with fail
          refine hK _ _ ?_ ?_ ?_ ?_
          · rfl
          · exact Below.refl _ _
          · exact rfl
          · trivial
        · intro V W hb hd K hK _
          have h1 : (V 106) = .int .i64 (pj : Int) := hd 1 (by kernel_rfl)
          clear hd
          go_wp2_with fail
          refine hK _ _ ?_ ?_ ?_ ?_
          · rfl
          · exact Below.refl _ _
          · exact rfl
          · trivial
        · intro V W hb hd K hK _
          have h0 : (V 105) = .bool true := hd 0 (by kernel_rfl)
          have h2 : (V 107) = .bool true := hd 2 (by kernel_rfl)
          clear hd
          go_wp2_with fail
          refine hK _ _ ?_ ?_ ?_ ?_
          · rfl
          · exact Below.refl _ _
          · exact rfl
          · trivial
        · intro V W hb hd K hK _
          have h3 : (V 108) = .bool false := hd 3 (by kernel_rfl)
          clear hd
          go_wp2_with fail
          refine hK _ _ ?_ ?_ ?_ ?_
          · rfl
          · exact Below.refl _ _
          · exact rfl
          · trivial
        · intro V W hb hd K hK _
          have h4 : (V 109) = .bool false := hd 4 (by kernel_rfl)
          clear hd
          go_wp2_with fail
          refine hK _ _ ?_ ?_ ?_ ?_
          · rfl
          · exact Below.refl _ _
          · exact rfl
          · trivial
        · intro V W hb hd K hK _
          have h4 : (V 109) = .bool false := hd 4 (by kernel_rfl)
          have h5 : (V 110) = .bool true := hd 5 (by kernel_rfl)
          clear hd
          go_wp2_with fail
          refine hK _ _ ?_ ?_ ?_ ?_
          · rfl
          · exact Below.refl _ _
          · exact rfl
          · trivial
        · intro V W hb hd K hK _
          have h6 : (V 111) = .bool true := hd 6 (by kernel_rfl)
          clear hd
          have hld := HLD2.out W hb
          go_wp2_with (first | (refine wp_load_run 39 _ rfl (.pointer (some ⟨w1.heap.size, 0, none⟩)) V2 rfl hld ?_) | (refine wpList_loadG_run (by simp [Region.wanted, yielded, h6]) 39 _ rfl (.pointer (some ⟨w1.heap.size, 0, none⟩)) V2 rfl hld ?_))
          refine hK _ _ ?_ ?_ ?_ ?_
          · rfl
          · exact Below.refl _ _
          · exact rfl
          · trivial
        · intro V W hb hd K hK _
          have h6 : (V 111) = .bool true := hd 6 (by kernel_rfl)
          have h7 : (V 112) = V2 := hd 7 (by kernel_rfl)
          clear hd
          have HBB := Lib.hid hb
          clear hb
          go_wp2_with fail
          refine (HLN2.out W HBB.out).mono ?_
          rintro e w1 ⟨rfl, hb1⟩
          go_wp2_with fail
          refine hK _ _ ?_ ?_ ?_ ?_
          · rfl
          · exact hb1
          · exact rfl
          · trivial
        · intro V W hb hd K hK _
          have h6 : (V 111) = .bool true := hd 6 (by kernel_rfl)
          clear hd
          go_wp2_with fail
          refine hK _ _ ?_ ?_ ?_ ?_
          · rfl
          · exact Below.refl _ _
          · exact rfl
          · trivial
        · intro V W hb hd K hK _
          have h6 : (V 111) = .bool true := hd 6 (by kernel_rfl)
          clear hd
          go_wp2_with fail
          refine hK _ _ ?_ ?_ ?_ ?_
          · rfl
          · exact Below.refl _ _
          · exact rfl
          · trivial
        · intro V W hb hd K hK _
          have h6 : (V 111) = .bool true := hd 6 (by kernel_rfl)
          have h9 : (V 114) = .slice (some ⟨xb, xoff, none⟩) N cap := hd 9 (by kernel_rfl)
          have h10 : (V 115) = .int .i64 (pj : Int) := hd 10 (by kernel_rfl)
          clear hd
          go_wp2_with fail
          refine hK _ _ ?_ ?_ ?_ ?_
          · rfl
          · exact Below.refl _ _
          · exact rfl
          · trivial
        · intro V W hb hd K hK _
          have h6 : (V 111) = .bool true := hd 6 (by kernel_rfl)
          have h11 : (V 116) = .pointer (some ⟨xb, xoff + pj * 33, none⟩) := hd 11 (by kernel_rfl)
          clear hd
          have hld := HLD1.out W hb
          go_wp2_with (first | (refine wp_load_run 39 _ rfl (.pointer (some ⟨xb, xoff + pj * 33, none⟩)) V1 h11 hld ?_) | (refine wpList_loadG_run (by simp [Region.wanted, yielded, h6]) 39 _ rfl (.pointer (some ⟨xb, xoff + pj * 33, none⟩)) V1 h11 hld ?_))
          refine hK _ _ ?_ ?_ ?_ ?_
          · rfl
          · exact Below.refl _ _
          · exact rfl
          · trivial
        · intro V W hb hd K hK _
          have h6 : (V 111) = .bool true := hd 6 (by kernel_rfl)
          have h12 : (V 117) = V1 := hd 12 (by kernel_rfl)
          clear hd
          have HBB := Lib.hid hb
          clear hb
          go_wp2_with fail
          refine (HLN1.out W HBB.out).mono ?_
          rintro e w1 ⟨rfl, hb1⟩
          go_wp2_with fail
          refine hK _ _ ?_ ?_ ?_ ?_
          · rfl
          · exact hb1
          · exact rfl
          · trivial
        · intro V W hb hd K hK _
          have h6 : (V 111) = .bool true := hd 6 (by kernel_rfl)
          have h8 : (V 113) = .string TX := hd 8 (by kernel_rfl)
          have h13 : (V 118) = .string TX := hd 13 (by kernel_rfl)
          clear hd
          go_wp2_with fail
          refine hK _ _ ?_ ?_ ?_ ?_
          · rfl
          · exact Below.refl _ _
          · exact rfl
          · trivial
        · intro V W hb hd K hK _
          have h4 : (V 109) = .bool false := hd 4 (by kernel_rfl)
          have h6 : (V 111) = .bool true := hd 6 (by kernel_rfl)
          have h14 : (V 119) = .bool false := hd 14 (by kernel_rfl)
          clear hd
          go_wp2_with fail
          refine hK _ _ ?_ ?_ ?_ ?_
          · rfl
          · exact Below.refl _ _
          · exact rfl
          · trivial
        · intro V W hb hd hap
          have h4 : (V 109) = .bool false := hd 4 (by decide)
          have h15 : (V 120) = .bool false := hd 15 (by decide)
          clear hd hap
          simp only [List.drop_succ_cons, List.drop_zero]
          have HBD := Lib.hid (below_then HB2.out (Nat.le_refl _) hb)
          have HOD := Lib.hid (row_below HO2.out hb)
          have hpl := places_any Ev.kind enE enE_len (fun _ => rfl) (some ⟨xb, xoff, none⟩) cap k L W (fun e he => by
            obtain ⟨Q, NN, R, X, c, h1, h2⟩ := HALL.out e he
            exact h1.one) (by rw [← HN.out]; exact Lst.below HA.out HBD.out) (by rw [← HN.out]; omega)
          rw [← HN.out] at hpl
          have HPL := Lib.hid hpl
          clear hpl hb
          go_wp2_with fail
          refine HPL.out.mono ?_
          rintro e wp ⟨v, rfl, hrow, hbp⟩
          have HBP := Lib.hid (below_then HBD.out (Nat.le_refl _) hbp)
          obtain ⟨po, pc, rfl, heq⟩ := eq_step hFN.out.2 hrow (row_below HOD.out hbp) (by have := hFN.out.2; unfold wantF at this ⊢; omega)
          have HEQ := Lib.hid heq
          clear heq hrow hbp
          go_wp2_with fail
          refine HEQ.out.mono ?_
          rintro e we ⟨rfl, hbe⟩
          have HBE := Lib.hid (below_then HBP.out (Nat.le_refl _) hbe)
          clear hbe
          go_wp2_with fail
          refine (alive30_any we (HT.out.below HBE.out)).mono ?_
          rintro e wa ⟨rfl, hba⟩
          have HBA := Lib.hid (below_then HBE.out (Nat.le_refl _) hba)
          clear hba
          go_wp2_with fail
          go_ret
          exact ⟨rfl, HBA.out⟩
end Go.Proofs.YtljlbkichcjlfaaGreatDoor.Trc

namespace Go.Proofs.YtljlbkichcjlfaaGreatDoor.Kit
open Go.ChangeShapes Go.WideShapes Go.ChangeAt Go.RowKit Go.Deep
section
variable {H : Type} {enc : TypeId × Value → H} {P : Program} {w : World}
theorem cells_slice_p {p : List Value → Prop} {e : TypeId} {ao : Option Addr} {len cap : Nat} (hpos : 0 < P.cellsOf e) (hl : len ≤ cap) (hc : cap ≤ maxLen)
    (h : ao = none ∧ cap = 0 ∨ ∃ a, ao = some a ∧ ∀ i, i < cap → ∃ cs', w.cells? 0 (a.add (i * P.cellsOf e)) (P.cellsOf e) = some cs' ∧ p cs') :
    len = 0 ∨ ∃ (b off : Nat) (F : Nat → List Value), ao = some ⟨b, off, none⟩ ∧ 0 < len ∧ len ≤ cap ∧ cap ≤ maxLen ∧ b < w.heap.size ∧
      ∀ i, i < cap → (F i).length = P.cellsOf e ∧ p (F i) ∧ ∀ j, j < P.cellsOf e → w.cell? ⟨b, off + i * P.cellsOf e + j, none⟩ = (F i)[j]? := by
  by_cases h0 : len = 0
  · exact Or.inl h0
  right
  rcases h with ⟨_, h1⟩ | ⟨a, rfl, hel⟩
  · omega
  obtain ⟨F, hF⟩ := choose_lt (α := List Value) (p := fun i cs' => w.cells? 0 (a.add (i * P.cellsOf e)) (P.cellsOf e) = some cs' ∧ p cs') hel
  obtain ⟨_, g1, g2⟩ := World.cells?_some (hF 0 (by omega)).1
  have g := g2 0 hpos
  have hs : a.spot = none ∧ a.block < w.heap.size := by
    have e1 : (a.add (0 * P.cellsOf e)).add 0 = a := by simp [Addr.add]
    rw [e1] at g
    have : (F 0)[0]? ≠ none := by rw [Ne, List.getElem?_eq_none_iff]; omega
    rw [← g] at this
    unfold World.cell? at this
    split at this
    · rename_i c t fr hb
      have hb' := (Array.getElem?_eq_some_iff.1 hb).1
      refine ⟨?_, hb'⟩
      cases hsp : a.spot with
      | none => rfl
      | some _ => simp [hsp] at this
    · exact absurd rfl this
  obtain ⟨b, off, sp⟩ := a
  obtain ⟨rfl, hb⟩ := hs
  refine ⟨b, off, F, rfl, by omega, hl, hc, hb, fun i hi => ?_⟩
  obtain ⟨_, k1, k2⟩ := World.cells?_some (hF i hi).1
  refine ⟨k1, (hF i hi).2, fun j hj => ?_⟩
  have := k2 j hj
  rw [add_add] at this
  rw [← this]
  unfold Addr.add
  split
  · rename_i h; simp only [Nat.add_assoc, h, Nat.add_zero]
  · simp only [Nat.add_assoc]


theorem weightsAll_mem {e : TypeId} : ∀ (l : List (DataW H)), (DataW.weightsAll P e l).all (· ≤ reachBytes) = true → ∀ d ∈ l, (d.weights P e).all (· ≤ reachBytes) = true
  | [], _, d, hd => by cases hd
  | a :: r, h, d, hd => by
    unfold DataW.weightsAll at h
    rw [List.all_append, Bool.and_eq_true] at h
    rcases List.mem_cons.1 hd with rfl | hd
    · exact h.1
    · exact weightsAll_mem r h.2 d hd
theorem weightsEach_get : ∀ (ts : List TypeId) (ds : List (DataW H)), (DataW.weightsEach P ts ds).all (· ≤ reachBytes) = true → ∀ (i : Nat) (t : TypeId) (d : DataW H), ts[i]? = some t → ds[i]? = some d → (d.weights P t).all (· ≤ reachBytes) = true
  | [], _, _, i, t, d, h, _ => by simp at h
  | _ :: _, [], _, i, t, d, _, h => by simp at h
  | a :: ts, b :: ds, h, 0, t, d, h1, h2 => by
    unfold DataW.weightsEach at h
    rw [List.all_append, Bool.and_eq_true] at h
    simp at h1 h2
    subst h1 h2
    exact h.1
  | a :: ts, b :: ds, h, i + 1, t, d, h1, h2 => by
    unfold DataW.weightsEach at h
    rw [List.all_append, Bool.and_eq_true] at h
    exact weightsEach_get ts ds h.2 i t d (by simpa using h1) (by simpa using h2)
/-- Cells that read as data, none of it too heavy. -/
def RdZ (enc : TypeId × Value → H) (P : Program) (w : World) (t : TypeId) (cs : List Value) : Prop :=
  ∃ n x, DataW.trod enc P w 0 (fun _ => true) true n t cs = some x ∧ (x.1.weights P t).all (· ≤ reachBytes) = true
theorem RdZ.rd {t : TypeId} {cs : List Value} (h : RdZ enc P w t cs) : Rd enc P w t cs := by
  obtain ⟨n, x, h1, _⟩ := h
  exact ⟨n, x, h1⟩
theorem rdz_slice {t e : TypeId} {cs : List Value} (ht : P.underlying t = some (.slice e)) (h : RdZ enc P w t cs) :
    cs = [.slice none 0 0] ∨ ∃ (a : Addr) (len cap : Nat), cs = [.slice (some a) len cap] ∧ len ≤ cap ∧ cap ≤ maxLen ∧ len * P.bytesOf e ≤ reachBytes ∧
      ∀ i, i < cap → ∃ cs', w.cells? 0 (a.add (i * P.cellsOf e)) (P.cellsOf e) = some cs' ∧ RdZ enc P w e cs' := by
  obtain ⟨n, x, h, hw⟩ := h
  rcases open_slice ht h with ⟨h0, _⟩ | ⟨a, len, cap, m, n', D, Pl, hc, hb, hl, hm, hmm, hx, hel⟩
  · exact Or.inl h0
  right
  have hmc : m = cap := by rw [hmm]; simp
  subst hmc
  rw [hx] at hw
  simp only [DataW.weights, ht, List.all_cons, List.all_append, Bool.and_eq_true, decide_eq_true_eq, List.length_map, List.length_range] at hw
  refine ⟨a, len, m, hc, hl, hm, Nat.le_trans (Nat.mul_le_mul_right _ (by omega)) hw.1, fun i hi => ?_⟩
  obtain ⟨cs', h1, h2⟩ := hel i hi
  refine ⟨cs', h1, n', _, h2, ?_⟩
  by_cases hil : i < len
  · exact weightsAll_mem _ hw.2.1 _ (List.mem_map.2 ⟨i, List.mem_range.2 hil, rfl⟩)
  · exact weightsAll_mem _ hw.2.2 _ (List.mem_map.2 ⟨i - len, List.mem_range.2 (by omega), by rw [show len + (i - len) = i by omega]⟩)
theorem rdz_struct {t : TypeId} {fs : Array Field} {cs : List Value} (ht : P.underlying t = some (.struct fs)) (h : RdZ enc P w t cs) :
    cs.length = P.cellsOf t ∧ ∀ (i : Nat) (f : Field), fs[i]? = some f → RdZ enc P w f.type ((cs.drop f.offset).take (P.cellsOf f.type)) := by
  obtain ⟨n, x, h, hw⟩ := h
  obtain ⟨xs, k, hk, hxy, hl, hxl, hf⟩ := DataW.trod_struct ht h
  refine ⟨hl, fun i f hi => ?_⟩
  have hi' : i < xs.length := by
    have := (Array.getElem?_eq_some_iff.1 hi).1
    omega
  refine ⟨k, _, (hf i f hi).trans (List.getElem?_eq_getElem hi'), ?_⟩
  have hx1 : x.1 = .agg (xs.map (·.1)) := by rw [hxy]
  rw [hx1] at hw
  simp only [DataW.weights, ht] at hw
  refine weightsEach_get _ _ hw i f.type _ ?_ ?_
  · rw [List.getElem?_map, Array.getElem?_toList, hi]; rfl
  · rw [List.getElem?_map, List.getElem?_eq_getElem hi']; rfl
theorem arg_lst_z {α : Type} [Inhabited α] {t e : TypeId} {sz : Nat} {en : α → List Value} {good : α → Prop} {v : Value} (ht : P.underlying t = some (.slice e)) (hC : P.cellsOf e = sz) (hsz : 0 < sz)
    (hrd : ∀ cs, RdZ enc P w e cs → ∃ x, cs = en x ∧ good x) (hv : ∃ r b0, Value.okWide P w r b0 t v) (h : RdZ enc P w t v.cells.toList) : ∃ ao cap l, v = .slice ao (List.length l) cap ∧ Lst sz en w v l ∧ ∀ x ∈ l, good x := by
  obtain ⟨r, b0, hv⟩ := hv
  obtain ⟨a0, len0, cap0, rfl⟩ := okWide_slice ht hv
  rcases rdz_slice ht h with h | ⟨a, len, cap, h, hl, hc, _, hel⟩
  · simp [Value.cells] at h
    obtain ⟨rfl, rfl, rfl⟩ := h
    exact ⟨none, 0, [], rfl, Lst.nil _, by simp⟩
  simp [Value.cells] at h
  obtain ⟨rfl, rfl, rfl⟩ := h
  rcases cells_slice_p (p := RdZ enc P w e) (by rw [hC]; omega) hl hc (Or.inr ⟨a, rfl, hel⟩) with h0 | ⟨b, off, F, h1, h2, h3, h4, h5, h6⟩
  · subst h0
    exact ⟨some a, cap0, [], rfl, ⟨some a, cap0, rfl, by simp, hc, Or.inl rfl⟩, by simp⟩
  · cases h1
    rw [hC] at h6
    obtain ⟨q, hq⟩ := choose_lt' (α := α) (n := len0) (p := fun i x => F i = en x ∧ good x) (fun i hi => hrd _ (h6 i (by omega)).2.1)
    have hn : ((List.range len0).map q).length = len0 := by simp
    refine ⟨_, cap0, (List.range len0).map q, by rw [hn], ⟨_, cap0, by rw [hn], by rw [hn]; exact hl, hc, Or.inr ⟨b, off, rfl, h5, fun i x hi j hj => ?_⟩⟩, fun x hx => ?_⟩
    · have hlt : i < len0 := by have := (List.getElem?_eq_some_iff.1 hi).1; simpa using this
      have hx : q i = x := by simpa [hlt] using hi
      rw [(h6 i (by omega)).2.2 j hj, (hq i hlt).1, hx]
    · obtain ⟨i, hi, rfl⟩ := List.mem_map.1 hx
      exact (hq i (List.mem_range.1 hi)).2
end
end Go.Proofs.YtljlbkichcjlfaaGreatDoor.Kit

namespace Go.Proofs.YtljlbkichcjlfaaGreatDoor.Trc
open Go.ChangeShapes Go.WideShapes Go.ChangeAt Go.RowKit Go.Deep Go.Proofs.YtljlbkichcjlfaaGreatDoor.Kit Go.Proofs.YtljlbkichcjlfaaGreatDoor.Mut Go.Proofs.YtljlbkichcjlfaaGreatDoor.Ints
set_option linter.unusedSectionVars false
variable [Inhabited Lim]

instance : Inhabited Ev := ⟨zE⟩
theorem rd_int1 {H : Type} {enc : TypeId × Value → H} {W : World} {cs : List Value} (h : Rd enc Tryz.prog W 3 cs) : ∃ n : Int, cs = enI n ∧ True := by
  obtain ⟨n, rfl, _⟩ := rd_int Tryz.underlying3 h
  exact ⟨n, rfl, trivial⟩
set_option maxRecDepth 100000 in
theorem rd_rw {H : Type} {enc : TypeId × Value → H} {W : World} {cs : List Value} (h : Rd enc Tryz.prog W 49 cs) : ∃ x : Rw, cs = enRw x ∧ (x.key.size ≤ maxLen ∧ x.val.size ≤ maxLen) := by
  obtain ⟨hl, hf⟩ := rd_struct Tryz.underlying49 h
  rw [show Tryz.prog.cellsOf 49 = 5 by kernel_rfl] at hl
  match cs, hl with
  | [c0, c1, c2, c3, c4], _ =>
    have h0 : Rd enc Tryz.prog W 9 (List.take (Tryz.prog.cellsOf 9) (List.drop 0 [c0, c1, c2, c3, c4])) := hf 0 _ rfl
    have h1 : Rd enc Tryz.prog W 9 (List.take (Tryz.prog.cellsOf 9) (List.drop 1 [c0, c1, c2, c3, c4])) := hf 1 _ rfl
    have h2 : Rd enc Tryz.prog W 29 (List.take (Tryz.prog.cellsOf 29) (List.drop 2 [c0, c1, c2, c3, c4])) := hf 2 _ rfl
    simp only [show Tryz.prog.cellsOf 9 = 1 by kernel_rfl, show Tryz.prog.cellsOf 29 = 3 by kernel_rfl, List.drop_succ_cons, List.drop_zero, List.take_succ_cons, List.take_zero] at h0 h1 h2
    obtain ⟨key, e0, k0⟩ := rd_string Tryz.underlying9 h0
    obtain ⟨val, e1, k1⟩ := rd_string Tryz.underlying9 h1
    obtain ⟨s, e2, _⟩ := rd_stp h2
    unfold enS at e2
    cases e0; cases e1; cases e2
    exact ⟨⟨key, val, s⟩, rfl, k0, k1⟩
theorem rd_rows {H : Type} {enc : TypeId × Value → H} {W : World} {cs : List Value} (h : Rd enc Tryz.prog W 33 cs) (hN : W.heap.size ≤ (default : Lim).n) : ∃ v R, cs = [v] ∧ MRow W v R ∧ ∀ x ∈ R, Sizes x.1 := by
  obtain ⟨ao, cap, l, rfl, h2, h3⟩ := rd_lst (α := Ro) (en := enM) (good := fun x => Over W x ∧ Sizes x.1) Tryz.underlying33 (show Tryz.prog.cellsOf 32 = 10 by kernel_rfl) (by decide) (fun cs hr => rd_mut hr hN) h
  exact ⟨_, l, rfl, ⟨h2, fun x hx => (h3 x hx).1⟩, fun x hx => (h3 x hx).2⟩
set_option maxRecDepth 100000 in
theorem rd_con {H : Type} {enc : TypeId × Value → H} {W : World} {cs : List Value} (h : Rd enc Tryz.prog W 35 cs) (hN : W.heap.size ≤ (default : Lim).n) :
    ∃ a b d c, cs = [a, b, d] ∧ Lies W a b d c ∧ ∀ m ∈ c.all, m.key.size ≤ maxLen ∧ m.fin.size ≤ maxLen ∧ m.val.size ≤ maxLen := by
  obtain ⟨v0, v1, v2, rfl, r0, r1, r2⟩ := rd_struct3 Tryz.underlying35 (by kernel_rfl) (by kernel_rfl) h
  obtain ⟨a, A, e0, hA, zA⟩ := rd_rows r0 hN
  obtain ⟨b, B, e1, hB, zB⟩ := rd_rows r1 hN
  obtain ⟨d, D, e2, hD, zD⟩ := rd_rows r2 hN
  cases e0; cases e1; cases e2
  refine ⟨v0, v1, v2, ⟨A.map (·.1), B.map (·.1), D.map (·.1)⟩, rfl, ⟨⟨A, rfl, hA⟩, ⟨B, rfl, hB⟩, ⟨D, rfl, hD⟩⟩, fun m hm => ?_⟩
  have key : ∀ (R : List Ro), (∀ x ∈ R, Sizes x.1) → m ∈ R.map (·.1) → m.key.size ≤ maxLen ∧ m.fin.size ≤ maxLen ∧ m.val.size ≤ maxLen := fun R hR h => by
    obtain ⟨x, hx, rfl⟩ := List.mem_map.1 h
    exact ⟨(hR x hx).key, (hR x hx).fin, (hR x hx).val⟩
  unfold Con.all at hm
  rcases List.mem_append.1 hm with h | h
  · exact key A zA h
  · rcases List.mem_append.1 h with h | h
    · exact key B zB h
    · exact key D zD h

set_option maxRecDepth 100000 in
set_option maxHeartbeats 4000000 in
theorem rd_ev {H : Type} {enc : TypeId × Value → H} {W : World} {cs : List Value} (hz : RdZ enc Tryz.prog W 39 cs) (hN : W.heap.size ≤ (default : Lim).n) : ∃ e : Ev, cs = enE e ∧ ∃ Q NN R X c, EvAt W e Q NN R X c ∧ EvZ e NN R c := by
  obtain ⟨-, hfz⟩ := rdz_struct Tryz.underlying39 hz
  obtain ⟨hl, hf⟩ := rd_struct Tryz.underlying39 hz.rd
  rw [show Tryz.prog.cellsOf 39 = 33 by kernel_rfl] at hl
  match cs, hl with
  | (c0 :: c1 :: c2 :: c3 :: c4 :: c5 :: c6 :: c7 :: c8 :: c9 :: c10 :: c11 :: c12 :: c13 :: c14 :: c15 :: c16 :: c17 :: c18 :: c19 :: c20 :: c21 :: c22 :: c23 :: c24 :: c25 :: c26 :: c27 :: c28 :: c29 :: c30 :: c31 :: c32 :: []), _ =>
    have h0 : Rd enc Tryz.prog W 23 (List.take (Tryz.prog.cellsOf 23) (List.drop 0 (c0 :: c1 :: c2 :: c3 :: c4 :: c5 :: c6 :: c7 :: c8 :: c9 :: c10 :: c11 :: c12 :: c13 :: c14 :: c15 :: c16 :: c17 :: c18 :: c19 :: c20 :: c21 :: c22 :: c23 :: c24 :: c25 :: c26 :: c27 :: c28 :: c29 :: c30 :: c31 :: c32 :: []))) := hf 0 _ rfl
    have h1 : Rd enc Tryz.prog W 3 (List.take (Tryz.prog.cellsOf 3) (List.drop 1 (c0 :: c1 :: c2 :: c3 :: c4 :: c5 :: c6 :: c7 :: c8 :: c9 :: c10 :: c11 :: c12 :: c13 :: c14 :: c15 :: c16 :: c17 :: c18 :: c19 :: c20 :: c21 :: c22 :: c23 :: c24 :: c25 :: c26 :: c27 :: c28 :: c29 :: c30 :: c31 :: c32 :: []))) := hf 1 _ rfl
    have h2 : Rd enc Tryz.prog W 3 (List.take (Tryz.prog.cellsOf 3) (List.drop 2 (c0 :: c1 :: c2 :: c3 :: c4 :: c5 :: c6 :: c7 :: c8 :: c9 :: c10 :: c11 :: c12 :: c13 :: c14 :: c15 :: c16 :: c17 :: c18 :: c19 :: c20 :: c21 :: c22 :: c23 :: c24 :: c25 :: c26 :: c27 :: c28 :: c29 :: c30 :: c31 :: c32 :: []))) := hf 2 _ rfl
    have h3 : Rd enc Tryz.prog W 3 (List.take (Tryz.prog.cellsOf 3) (List.drop 3 (c0 :: c1 :: c2 :: c3 :: c4 :: c5 :: c6 :: c7 :: c8 :: c9 :: c10 :: c11 :: c12 :: c13 :: c14 :: c15 :: c16 :: c17 :: c18 :: c19 :: c20 :: c21 :: c22 :: c23 :: c24 :: c25 :: c26 :: c27 :: c28 :: c29 :: c30 :: c31 :: c32 :: []))) := hf 3 _ rfl
    have h4 : Rd enc Tryz.prog W 32 (List.take (Tryz.prog.cellsOf 32) (List.drop 4 (c0 :: c1 :: c2 :: c3 :: c4 :: c5 :: c6 :: c7 :: c8 :: c9 :: c10 :: c11 :: c12 :: c13 :: c14 :: c15 :: c16 :: c17 :: c18 :: c19 :: c20 :: c21 :: c22 :: c23 :: c24 :: c25 :: c26 :: c27 :: c28 :: c29 :: c30 :: c31 :: c32 :: []))) := hf 4 _ rfl
    have h5 : Rd enc Tryz.prog W 35 (List.take (Tryz.prog.cellsOf 35) (List.drop 14 (c0 :: c1 :: c2 :: c3 :: c4 :: c5 :: c6 :: c7 :: c8 :: c9 :: c10 :: c11 :: c12 :: c13 :: c14 :: c15 :: c16 :: c17 :: c18 :: c19 :: c20 :: c21 :: c22 :: c23 :: c24 :: c25 :: c26 :: c27 :: c28 :: c29 :: c30 :: c31 :: c32 :: []))) := hf 5 _ rfl
    have h6 : Rd enc Tryz.prog W 29 (List.take (Tryz.prog.cellsOf 29) (List.drop 17 (c0 :: c1 :: c2 :: c3 :: c4 :: c5 :: c6 :: c7 :: c8 :: c9 :: c10 :: c11 :: c12 :: c13 :: c14 :: c15 :: c16 :: c17 :: c18 :: c19 :: c20 :: c21 :: c22 :: c23 :: c24 :: c25 :: c26 :: c27 :: c28 :: c29 :: c30 :: c31 :: c32 :: []))) := hf 6 _ rfl
    have h7 : Rd enc Tryz.prog W 29 (List.take (Tryz.prog.cellsOf 29) (List.drop 20 (c0 :: c1 :: c2 :: c3 :: c4 :: c5 :: c6 :: c7 :: c8 :: c9 :: c10 :: c11 :: c12 :: c13 :: c14 :: c15 :: c16 :: c17 :: c18 :: c19 :: c20 :: c21 :: c22 :: c23 :: c24 :: c25 :: c26 :: c27 :: c28 :: c29 :: c30 :: c31 :: c32 :: []))) := hf 7 _ rfl
    have h8 : Rd enc Tryz.prog W 4 (List.take (Tryz.prog.cellsOf 4) (List.drop 23 (c0 :: c1 :: c2 :: c3 :: c4 :: c5 :: c6 :: c7 :: c8 :: c9 :: c10 :: c11 :: c12 :: c13 :: c14 :: c15 :: c16 :: c17 :: c18 :: c19 :: c20 :: c21 :: c22 :: c23 :: c24 :: c25 :: c26 :: c27 :: c28 :: c29 :: c30 :: c31 :: c32 :: []))) := hf 8 _ rfl
    have h9 : Rd enc Tryz.prog W 36 (List.take (Tryz.prog.cellsOf 36) (List.drop 24 (c0 :: c1 :: c2 :: c3 :: c4 :: c5 :: c6 :: c7 :: c8 :: c9 :: c10 :: c11 :: c12 :: c13 :: c14 :: c15 :: c16 :: c17 :: c18 :: c19 :: c20 :: c21 :: c22 :: c23 :: c24 :: c25 :: c26 :: c27 :: c28 :: c29 :: c30 :: c31 :: c32 :: []))) := hf 9 _ rfl
    have h10 : Rd enc Tryz.prog W 24 (List.take (Tryz.prog.cellsOf 24) (List.drop 25 (c0 :: c1 :: c2 :: c3 :: c4 :: c5 :: c6 :: c7 :: c8 :: c9 :: c10 :: c11 :: c12 :: c13 :: c14 :: c15 :: c16 :: c17 :: c18 :: c19 :: c20 :: c21 :: c22 :: c23 :: c24 :: c25 :: c26 :: c27 :: c28 :: c29 :: c30 :: c31 :: c32 :: []))) := hf 10 _ rfl
    have h11 : Rd enc Tryz.prog W 24 (List.take (Tryz.prog.cellsOf 24) (List.drop 26 (c0 :: c1 :: c2 :: c3 :: c4 :: c5 :: c6 :: c7 :: c8 :: c9 :: c10 :: c11 :: c12 :: c13 :: c14 :: c15 :: c16 :: c17 :: c18 :: c19 :: c20 :: c21 :: c22 :: c23 :: c24 :: c25 :: c26 :: c27 :: c28 :: c29 :: c30 :: c31 :: c32 :: []))) := hf 11 _ rfl
    have h12 : Rd enc Tryz.prog W 3 (List.take (Tryz.prog.cellsOf 3) (List.drop 27 (c0 :: c1 :: c2 :: c3 :: c4 :: c5 :: c6 :: c7 :: c8 :: c9 :: c10 :: c11 :: c12 :: c13 :: c14 :: c15 :: c16 :: c17 :: c18 :: c19 :: c20 :: c21 :: c22 :: c23 :: c24 :: c25 :: c26 :: c27 :: c28 :: c29 :: c30 :: c31 :: c32 :: []))) := hf 12 _ rfl
    have h13 : Rd enc Tryz.prog W 26 (List.take (Tryz.prog.cellsOf 26) (List.drop 28 (c0 :: c1 :: c2 :: c3 :: c4 :: c5 :: c6 :: c7 :: c8 :: c9 :: c10 :: c11 :: c12 :: c13 :: c14 :: c15 :: c16 :: c17 :: c18 :: c19 :: c20 :: c21 :: c22 :: c23 :: c24 :: c25 :: c26 :: c27 :: c28 :: c29 :: c30 :: c31 :: c32 :: []))) := hf 13 _ rfl
    have h14 : Rd enc Tryz.prog W 9 (List.take (Tryz.prog.cellsOf 9) (List.drop 29 (c0 :: c1 :: c2 :: c3 :: c4 :: c5 :: c6 :: c7 :: c8 :: c9 :: c10 :: c11 :: c12 :: c13 :: c14 :: c15 :: c16 :: c17 :: c18 :: c19 :: c20 :: c21 :: c22 :: c23 :: c24 :: c25 :: c26 :: c27 :: c28 :: c29 :: c30 :: c31 :: c32 :: []))) := hf 14 _ rfl
    have h15 : Rd enc Tryz.prog W 9 (List.take (Tryz.prog.cellsOf 9) (List.drop 30 (c0 :: c1 :: c2 :: c3 :: c4 :: c5 :: c6 :: c7 :: c8 :: c9 :: c10 :: c11 :: c12 :: c13 :: c14 :: c15 :: c16 :: c17 :: c18 :: c19 :: c20 :: c21 :: c22 :: c23 :: c24 :: c25 :: c26 :: c27 :: c28 :: c29 :: c30 :: c31 :: c32 :: []))) := hf 15 _ rfl
    have h16 : Rd enc Tryz.prog W 37 (List.take (Tryz.prog.cellsOf 37) (List.drop 31 (c0 :: c1 :: c2 :: c3 :: c4 :: c5 :: c6 :: c7 :: c8 :: c9 :: c10 :: c11 :: c12 :: c13 :: c14 :: c15 :: c16 :: c17 :: c18 :: c19 :: c20 :: c21 :: c22 :: c23 :: c24 :: c25 :: c26 :: c27 :: c28 :: c29 :: c30 :: c31 :: c32 :: []))) := hf 16 _ rfl
    have h17 : Rd enc Tryz.prog W 30 (List.take (Tryz.prog.cellsOf 30) (List.drop 32 (c0 :: c1 :: c2 :: c3 :: c4 :: c5 :: c6 :: c7 :: c8 :: c9 :: c10 :: c11 :: c12 :: c13 :: c14 :: c15 :: c16 :: c17 :: c18 :: c19 :: c20 :: c21 :: c22 :: c23 :: c24 :: c25 :: c26 :: c27 :: c28 :: c29 :: c30 :: c31 :: c32 :: []))) := hf 17 _ rfl
    have hz11 : RdZ enc Tryz.prog W 24 (List.take (Tryz.prog.cellsOf 24) (List.drop 26 (c0 :: c1 :: c2 :: c3 :: c4 :: c5 :: c6 :: c7 :: c8 :: c9 :: c10 :: c11 :: c12 :: c13 :: c14 :: c15 :: c16 :: c17 :: c18 :: c19 :: c20 :: c21 :: c22 :: c23 :: c24 :: c25 :: c26 :: c27 :: c28 :: c29 :: c30 :: c31 :: c32 :: []))) := hfz 11 _ rfl
    clear hf hfz hz
    simp only [show Tryz.prog.cellsOf 23 = 1 by kernel_rfl, show Tryz.prog.cellsOf 3 = 1 by kernel_rfl, show Tryz.prog.cellsOf 32 = 10 by kernel_rfl, show Tryz.prog.cellsOf 35 = 3 by kernel_rfl, show Tryz.prog.cellsOf 29 = 3 by kernel_rfl, show Tryz.prog.cellsOf 4 = 1 by kernel_rfl, show Tryz.prog.cellsOf 36 = 1 by kernel_rfl, show Tryz.prog.cellsOf 24 = 1 by kernel_rfl, show Tryz.prog.cellsOf 26 = 1 by kernel_rfl, show Tryz.prog.cellsOf 9 = 1 by kernel_rfl, show Tryz.prog.cellsOf 37 = 1 by kernel_rfl, show Tryz.prog.cellsOf 30 = 1 by kernel_rfl,
      List.drop_succ_cons, List.drop_zero, List.take_succ_cons, List.take_zero] at h0 h1 h2 h3 h4 h5 h6 h7 h8 h9 h10 h11 h12 h13 h14 h15 h16 h17 hz11
    obtain ⟨kind, e0, _⟩ := rd_i64 Tryz.underlying23 h0
    obtain ⟨node, e1, _⟩ := rd_i64 Tryz.underlying3 h1
    obtain ⟨rng, e2, _⟩ := rd_i64 Tryz.underlying3 h2
    obtain ⟨op, e3, _⟩ := rd_i64 Tryz.underlying3 h3
    obtain ⟨m, e4, hm, zm⟩ := rd_mut h4 hN
    obtain ⟨a, b, d, c, e5, hcon, zcon⟩ := rd_con h5 hN
    obtain ⟨s, e6, _⟩ := rd_stp h6
    obtain ⟨bs, e7, _⟩ := rd_stp h7
    obtain ⟨quar, e8⟩ := rd_bool Tryz.underlying4 h8
    obtain ⟨why, e9, _⟩ := rd_i64 Tryz.underlying36 h9
    obtain ⟨qo, qc, Q, e10, hQ, _⟩ := rd_lst (α := Int) (sz := 1) (en := enI) (good := fun _ => True) Tryz.underlying24 (by kernel_rfl) (by decide) (fun cs h => rd_int1 h) h10
    obtain ⟨no, nc, NN, e11, hNN, _⟩ := rd_lst (α := Int) (sz := 1) (en := enI) (good := fun _ => True) Tryz.underlying24 (by kernel_rfl) (by decide) (fun cs h => rd_int1 h) h11
    obtain ⟨n12, e12, _⟩ := rd_i64 Tryz.underlying3 h12
    obtain ⟨tb, e13, _⟩ := rd_i64 Tryz.underlying26 h13
    obtain ⟨key, e14, _⟩ := rd_string Tryz.underlying9 h14
    obtain ⟨fin, e15, _⟩ := rd_string Tryz.underlying9 h15
    obtain ⟨ro, rc, R, e16, hR, zR⟩ := rd_lst (α := Rw) (sz := 5) (en := enRw) (good := fun x => x.key.size ≤ maxLen ∧ x.val.size ≤ maxLen) Tryz.underlying37 (by kernel_rfl) (by decide) (fun cs h => rd_rw h) h16
    obtain ⟨xo, xc, X, e17, hX, _⟩ := rd_lst (α := Stp) (sz := 3) (en := enS) (good := fun _ => True) Tryz.underlying30 (by kernel_rfl) (by decide) (fun cs h => rd_stp h) h17
    have hnl : NN.length ≤ 17592186043904 := by
      rw [e11] at hz11
      rcases rdz_slice Tryz.underlying24 hz11 with h | ⟨a', len, cap, h, _, _, hb, _⟩
      · simp at h
        rw [h.2.1]
        simp
      · simp at h
        rw [show Tryz.prog.bytesOf 3 = 8 by kernel_rfl] at hb
        unfold reachBytes at hb
        omega
    unfold enM at e4
    unfold enS at e6 e7
    clear h0 h1 h2 h3 h4 h5 h6 h7 h8 h9 h10 h11 h12 h13 h14 h15 h16 h17 hz11
    cases e0; cases e1; cases e2; cases e3; cases e4; cases e5; cases e6; cases e7; cases e8; cases e9; cases e10; cases e11; cases e12; cases e13; cases e14; cases e15; cases e16; cases e17
    exact ⟨⟨kind, node, rng, op, m, _, _, _, s, bs, quar, why, .slice qo Q.length qc, .slice no NN.length nc, n12, tb, key, fin, .slice ro R.length rc, .slice xo X.length xc⟩, rfl, Q, NN, R, X, c, ⟨hm, hQ, hNN, hR, hX, hcon⟩, ⟨⟨zm.key, zm.fin, zm.val⟩, zR, hnl, zcon⟩⟩
/-- Rows of events as the first argument. -/
theorem arg_evs {H : Type} {enc : TypeId × Value → H} {W : World} {v v1 v2 : Value} {t1 t2 : TypeId} (h : Arg enc Tryz.prog W 22 v) (hz : Sized enc Tryz.prog W [22, t1, t2] [v, v1, v2]) (hN : W.heap.size ≤ (default : Lim).n := by exact Nat.le_refl _) :
    ∃ ao cap L, v = .slice ao (List.length L) cap ∧ Lst 33 enE W v L ∧ ∀ e ∈ L, ∃ Q NN R X c, EvAt W e Q NN R X c ∧ EvZ e NN R c := by
  obtain ⟨ds, gs, p, us, hA, hw⟩ := hz
  match ds, hA with
  | d0 :: ds, hA =>
    obtain ⟨p0, q0, ⟨n, h1⟩, -, -⟩ := hA
    have hd : (d0.weights Tryz.prog 22).all (· ≤ reachBytes) = true := weightsEach_get _ _ hw 0 _ _ rfl rfl
    exact arg_lst_z (α := Ev) (sz := 33) (en := enE) (good := fun e => ∃ Q NN R X c, EvAt W e Q NN R X c ∧ EvZ e NN R c) Tryz.underlying22 (by kernel_rfl) (by decide) (fun cs h => rd_ev h hN) h.1 ⟨n, _, h1, hd⟩
end Go.Proofs.YtljlbkichcjlfaaGreatDoor.Trc
