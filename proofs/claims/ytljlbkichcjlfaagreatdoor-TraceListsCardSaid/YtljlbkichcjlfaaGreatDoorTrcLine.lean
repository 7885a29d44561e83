/- Layer 30 (trace): Line, kind by kind. PRINTED by wip/gentrcline.py. -/
import Derived.Test.YtljlbkichcjlfaaGreatDoorTrcMutB
import Derived.Test.YtljlbkichcjlfaaGreatDoorPkV
set_option linter.unusedSimpArgs false
set_option linter.unusedVariables false
namespace Go.Proofs.YtljlbkichcjlfaaGreatDoor.Trc
open Go.RowKit Go.Proofs.YtljlbkichcjlfaaGreatDoor.RegInv Go.Proofs.YtljlbkichcjlfaaGreatDoor.Mut Go.Proofs.YtljlbkichcjlfaaGreatDoor.Ints
set_option linter.unusedSectionVars false
variable [Inhabited Lim]

/-- An event. -/
structure Ev where
  kind : Int
  node : Int
  rng : Int
  op : Int
  m : Ro
  ca : Value
  cb : Value
  cd : Value
  s : Stp
  b : Stp
  quar : Bool
  why : Int
  qv : Value
  nv : Value
  no : Int
  table : Int
  key : ByteArray
  fin : ByteArray
  rv : Value
  cv : Value
def enE (e : Ev) : List Value := [.int .i64 e.kind, .int .i64 e.node, .int .i64 e.rng, .int .i64 e.op, .int .i64 e.m.1.table, .int .i64 e.m.1.kind, .string e.m.1.key, .string e.m.1.fin, .string e.m.1.val, .int .i64 e.m.1.expiry, .int .i64 e.m.1.at_.p, .int .i64 e.m.1.at_.l, .int .i64 e.m.1.at_.w, e.m.2, e.ca, e.cb, e.cd, .int .i64 e.s.p, .int .i64 e.s.l, .int .i64 e.s.w, .int .i64 e.b.p, .int .i64 e.b.l, .int .i64 e.b.w, .bool e.quar, .int .i64 e.why, e.qv, e.nv, .int .i64 e.no, .int .i64 e.table, .string e.key, .string e.fin, e.rv, e.cv]
def vE (e : Ev) : Value := .agg ⟨enE e⟩
theorem enE_len (e : Ev) : (enE e).length = 33 := rfl
/-- Behind a line's word: the node. -/
def line0 (e : Ev) : ByteArray := nameF e.kind ++ (spF ++ textF e.node)
def rowsFrom : List Rw → ByteArray → ByteArray
  | [], acc => acc
  | r :: t, acc => rowsFrom t (acc ++ (spF ++ r.key ++ ⟨#[61]⟩ ++ quoteF r.val))
def reply0 (e : Ev) (Q : List Int) : ByteArray :=
  if Q.length = 0 then line0 e ++ (spF ++ textF e.op ++ spF ++ textF e.why) else line0 e ++ (spF ++ textF e.op ++ spF ++ textF e.why) ++ (spF ++ nodesF Q)
/-- An event as a line. -/
def lineF (e : Ev) (Q : List Int) (R : List Rw) : ByteArray :=
  if e.kind = 1 then line0 e ++ spF ++ textF e.rng ++ spF ++ mutF e.m.1
  else if e.kind = 2 then line0 e ++ spF ++ textF e.rng ++ spF ++ stampF e.s
  else if e.kind = 3 then line0 e ++ spF ++ textF e.rng ++ spF ++ stampF e.s
  else if e.kind = 4 then line0 e ++ spF ++ textF e.rng ++ spF ++ mutF e.m.1
  else if e.kind = 5 then rowsFrom R (reply0 e Q)
  else if e.kind = 6 then line0 e
  else if e.kind = 7 then line0 e ++ spF ++ textF e.rng
  else if e.kind = 8 then line0 e ++ spF ++ textF e.rng
  else if e.kind = 9 then line0 e ++ spF ++ textF e.rng
  else if e.kind = 10 then line0 e ++ spF ++ textF e.rng ++ spF ++ textF e.op
  else if e.kind = 11 then line0 e ++ spF ++ textF e.op
  else ⟨#[]⟩

set_option maxRecDepth 100000 in
set_option maxHeartbeats 1000000 in
theorem line_6 (e : Ev) (Q : List Int) (R : List Rw) (w : World) (hT : Tabs w) (hk : e.kind = 6) (hm : Small e.m.1) : Calls Tryz.prog 8 #[vE e] w fun r w' => r = .returned (.string (lineF e Q R)) ∧ Below w.heap.size w w' := by
  have hL : lineF e Q R = line0 e := by unfold lineF; rw [hk]; rfl
  rw [hL]
  unfold line0
  rw [hk]
  have HT := Lib.hid hT
  have HMM := Lib.hid (fun W (h : Tabs W) => mut_any e.m W h hm)
  have HSS := Lib.hid (fun W => stamp_any e.s W)
  have HNM := Lib.hid (fun W => name_any 6 W)
  have hzm := mutF_size e.m.1 hm
  clear hL hT hm
  obtain ⟨kind, node, rng, op, ⟨⟨mt, mk, mkey, mfin, mval, mexp, ⟨map, mal, maw⟩, movr⟩, mv⟩, ca, cb, cd, ⟨sp, sl, sw⟩, ⟨bp, bl, bw⟩, quar, why, qv, nv, no, table, key, fin, rv, cv⟩ := e
  simp only [] at hk
  subst hk
  unfold vE enE
  unfold vM at HMM
  unfold vS at HSS
  simp only [] at HMM HSS hzm ⊢
  have HTN := Lib.hid (fun W => text_any node W)
  have HTR := Lib.hid (fun W => text_any rng W)
  have HTO := Lib.hid (fun W => text_any op W)
  have z1 := textF_size node
  have z2 := textF_size rng
  have z3 := textF_size op
  have z4 := stampF_size ⟨sp, sl, sw⟩
  have z5 := nameF_size 6
  have z6 : spF.size = 1 := rfl
  have hne : nameF 6 ≠ ⟨#[]⟩ := by intro h; have h2 := congrArg ByteArray.size h; revert h2; decide
  obtain ⟨nm, hnm⟩ : ∃ b, b = nameF 6 := ⟨_, rfl⟩
  rw [← hnm] at HNM z5 hne ⊢
  obtain ⟨tn, htn⟩ : ∃ b, b = textF node := ⟨_, rfl⟩
  rw [← htn] at HTN z1 ⊢
  obtain ⟨tr, htr⟩ : ∃ b, b = textF rng := ⟨_, rfl⟩
  rw [← htr] at HTR z2
  obtain ⟨tq, hto⟩ : ∃ b, b = textF op := ⟨_, rfl⟩
  rw [← hto] at HTO z3
  obtain ⟨ss, hss⟩ : ∃ b, b = stampF ⟨sp, sl, sw⟩ := ⟨_, rfl⟩
  rw [← hss] at HSS z4
  obtain ⟨mm, hmm⟩ : ∃ b, b = mutF ⟨mt, mk, mkey, mfin, mval, mexp, ⟨map, mal, maw⟩, movr⟩ := ⟨_, rfl⟩
  rw [← hmm] at HMM hzm
  try rw [← htr]
  try rw [← hto]
  try rw [← hss]
  try rw [← hmm]
  have HNE := Lib.hid hne
  clear hnm htn htr hto hss hmm hne
  have k0 : (spF ++ tn).size ≤ 21 := by rw [ByteArray.size_append]; omega
  have k1 : (nm ++ (spF ++ tn)).size ≤ 31 := by rw [ByteArray.size_append]; omega
  have k2 : (nm ++ (spF ++ tn) ++ spF).size ≤ 32 := by rw [ByteArray.size_append]; omega
  have k3 : (nm ++ (spF ++ tn) ++ spF ++ tr).size ≤ 52 := by rw [ByteArray.size_append]; omega
  have k4 : (nm ++ (spF ++ tn) ++ spF ++ tr ++ spF).size ≤ 53 := by rw [ByteArray.size_append]; omega
  obtain ⟨W0, hW0⟩ : ∃ W0, W0 = w.alloc (.cells #[.int .i64 6, .int .i64 node, .int .i64 rng, .int .i64 op, .int .i64 mt, .int .i64 mk, .string mkey, .string mfin, .string mval, .int .i64 mexp, .int .i64 map, .int .i64 mal, .int .i64 maw, mv, ca, cb, cd, .int .i64 sp, .int .i64 sl, .int .i64 sw, .int .i64 bp, .int .i64 bl, .int .i64 bw, .bool quar, .int .i64 why, qv, nv, .int .i64 no, .int .i64 table, .string key, .string fin, rv, cv] 39) := ⟨_, rfl⟩
  have HC := Lib.hid (show CellsAt W0 w.heap.size [.int .i64 6, .int .i64 node, .int .i64 rng, .int .i64 op, .int .i64 mt, .int .i64 mk, .string mkey, .string mfin, .string mval, .int .i64 mexp, .int .i64 map, .int .i64 mal, .int .i64 maw, mv, ca, cb, cd, .int .i64 sp, .int .i64 sl, .int .i64 sw, .int .i64 bp, .int .i64 bl, .int .i64 bw, .bool quar, .int .i64 why, qv, nv, .int .i64 no, .int .i64 table, .string key, .string fin, rv, cv] from by rw [hW0]; exact CellsAt.new w [.int .i64 6, .int .i64 node, .int .i64 rng, .int .i64 op, .int .i64 mt, .int .i64 mk, .string mkey, .string mfin, .string mval, .int .i64 mexp, .int .i64 map, .int .i64 mal, .int .i64 maw, mv, ca, cb, cd, .int .i64 sp, .int .i64 sl, .int .i64 sw, .int .i64 bp, .int .i64 bl, .int .i64 bw, .bool quar, .int .i64 why, qv, nv, .int .i64 no, .int .i64 table, .string key, .string fin, rv, cv] 39)
  have HB0 := Lib.hid (show Below w.heap.size w W0 by rw [hW0]; exact (Below.refl _ w).alloc (Nat.le_refl _) _)
  have HW := Lib.hid hW0
  clear hW0
  have heq : nm.toList.isEmpty = false := by rw [← decide_eq_emptyBytes]; exact decide_eq_false HNE.out
  go_enter Tryz.func8, Tryz.ntmps8
  go_upto_region 1 with fail
  rw [← HW.out]
  have s0 := HC.out.get 0 _ rfl
  go_wp2_with fail
  refine (HNM.out W0).mono ?_
  rintro e w1 ⟨rfl, hb1⟩
  have HC1 := Lib.hid (HC.out.below hb1)
  have HB1 := Lib.hid (below_then HB0.out (Nat.le_refl _) hb1)
  clear hb1 s0
  have s1 := HC1.out.get 1 _ rfl
  go_wp2_with fail
  refine (HTN.out w1).mono ?_
  rintro e w2 ⟨rfl, hb2⟩
  have HC2 := Lib.hid (HC1.out.below hb2)
  have HB2 := Lib.hid (below_then HB1.out (Nat.le_refl _) hb2)
  clear hb2 s1
  have s0 := HC2.out.get 0 _ rfl
  go_wp2_with fail
  go_ret
  exact ⟨rfl, HB2.out⟩

set_option maxRecDepth 100000 in
set_option maxHeartbeats 1000000 in
theorem line_7 (e : Ev) (Q : List Int) (R : List Rw) (w : World) (hT : Tabs w) (hk : e.kind = 7) (hm : Small e.m.1) : Calls Tryz.prog 8 #[vE e] w fun r w' => r = .returned (.string (lineF e Q R)) ∧ Below w.heap.size w w' := by
  have hL : lineF e Q R = line0 e ++ spF ++ textF e.rng := by unfold lineF; rw [hk]; rfl
  rw [hL]
  unfold line0
  rw [hk]
  have HT := Lib.hid hT
  have HMM := Lib.hid (fun W (h : Tabs W) => mut_any e.m W h hm)
  have HSS := Lib.hid (fun W => stamp_any e.s W)
  have HNM := Lib.hid (fun W => name_any 7 W)
  have hzm := mutF_size e.m.1 hm
  clear hL hT hm
  obtain ⟨kind, node, rng, op, ⟨⟨mt, mk, mkey, mfin, mval, mexp, ⟨map, mal, maw⟩, movr⟩, mv⟩, ca, cb, cd, ⟨sp, sl, sw⟩, ⟨bp, bl, bw⟩, quar, why, qv, nv, no, table, key, fin, rv, cv⟩ := e
  simp only [] at hk
  subst hk
  unfold vE enE
  unfold vM at HMM
  unfold vS at HSS
  simp only [] at HMM HSS hzm ⊢
  have HTN := Lib.hid (fun W => text_any node W)
  have HTR := Lib.hid (fun W => text_any rng W)
  have HTO := Lib.hid (fun W => text_any op W)
  have z1 := textF_size node
  have z2 := textF_size rng
  have z3 := textF_size op
  have z4 := stampF_size ⟨sp, sl, sw⟩
  have z5 := nameF_size 7
  have z6 : spF.size = 1 := rfl
  have hne : nameF 7 ≠ ⟨#[]⟩ := by intro h; have h2 := congrArg ByteArray.size h; revert h2; decide
  obtain ⟨nm, hnm⟩ : ∃ b, b = nameF 7 := ⟨_, rfl⟩
  rw [← hnm] at HNM z5 hne ⊢
  obtain ⟨tn, htn⟩ : ∃ b, b = textF node := ⟨_, rfl⟩
  rw [← htn] at HTN z1 ⊢
  obtain ⟨tr, htr⟩ : ∃ b, b = textF rng := ⟨_, rfl⟩
  rw [← htr] at HTR z2
  obtain ⟨tq, hto⟩ : ∃ b, b = textF op := ⟨_, rfl⟩
  rw [← hto] at HTO z3
  obtain ⟨ss, hss⟩ : ∃ b, b = stampF ⟨sp, sl, sw⟩ := ⟨_, rfl⟩
  rw [← hss] at HSS z4
  obtain ⟨mm, hmm⟩ : ∃ b, b = mutF ⟨mt, mk, mkey, mfin, mval, mexp, ⟨map, mal, maw⟩, movr⟩ := ⟨_, rfl⟩
  rw [← hmm] at HMM hzm
  try rw [← htr]
  try rw [← hto]
  try rw [← hss]
  try rw [← hmm]
  have HNE := Lib.hid hne
  clear hnm htn htr hto hss hmm hne
  have k0 : (spF ++ tn).size ≤ 21 := by rw [ByteArray.size_append]; omega
  have k1 : (nm ++ (spF ++ tn)).size ≤ 31 := by rw [ByteArray.size_append]; omega
  have k2 : (nm ++ (spF ++ tn) ++ spF).size ≤ 32 := by rw [ByteArray.size_append]; omega
  have k3 : (nm ++ (spF ++ tn) ++ spF ++ tr).size ≤ 52 := by rw [ByteArray.size_append]; omega
  have k4 : (nm ++ (spF ++ tn) ++ spF ++ tr ++ spF).size ≤ 53 := by rw [ByteArray.size_append]; omega
  obtain ⟨W0, hW0⟩ : ∃ W0, W0 = w.alloc (.cells #[.int .i64 7, .int .i64 node, .int .i64 rng, .int .i64 op, .int .i64 mt, .int .i64 mk, .string mkey, .string mfin, .string mval, .int .i64 mexp, .int .i64 map, .int .i64 mal, .int .i64 maw, mv, ca, cb, cd, .int .i64 sp, .int .i64 sl, .int .i64 sw, .int .i64 bp, .int .i64 bl, .int .i64 bw, .bool quar, .int .i64 why, qv, nv, .int .i64 no, .int .i64 table, .string key, .string fin, rv, cv] 39) := ⟨_, rfl⟩
  have HC := Lib.hid (show CellsAt W0 w.heap.size [.int .i64 7, .int .i64 node, .int .i64 rng, .int .i64 op, .int .i64 mt, .int .i64 mk, .string mkey, .string mfin, .string mval, .int .i64 mexp, .int .i64 map, .int .i64 mal, .int .i64 maw, mv, ca, cb, cd, .int .i64 sp, .int .i64 sl, .int .i64 sw, .int .i64 bp, .int .i64 bl, .int .i64 bw, .bool quar, .int .i64 why, qv, nv, .int .i64 no, .int .i64 table, .string key, .string fin, rv, cv] from by rw [hW0]; exact CellsAt.new w [.int .i64 7, .int .i64 node, .int .i64 rng, .int .i64 op, .int .i64 mt, .int .i64 mk, .string mkey, .string mfin, .string mval, .int .i64 mexp, .int .i64 map, .int .i64 mal, .int .i64 maw, mv, ca, cb, cd, .int .i64 sp, .int .i64 sl, .int .i64 sw, .int .i64 bp, .int .i64 bl, .int .i64 bw, .bool quar, .int .i64 why, qv, nv, .int .i64 no, .int .i64 table, .string key, .string fin, rv, cv] 39)
  have HB0 := Lib.hid (show Below w.heap.size w W0 by rw [hW0]; exact (Below.refl _ w).alloc (Nat.le_refl _) _)
  have HW := Lib.hid hW0
  clear hW0
  have heq : nm.toList.isEmpty = false := by rw [← decide_eq_emptyBytes]; exact decide_eq_false HNE.out
  go_enter Tryz.func8, Tryz.ntmps8
  go_upto_region 1 with fail
  rw [← HW.out]
  have s0 := HC.out.get 0 _ rfl
  go_wp2_with fail
  refine (HNM.out W0).mono ?_
  rintro e w1 ⟨rfl, hb1⟩
  have HC1 := Lib.hid (HC.out.below hb1)
  have HB1 := Lib.hid (below_then HB0.out (Nat.le_refl _) hb1)
  clear hb1 s0
  have s1 := HC1.out.get 1 _ rfl
  go_wp2_with fail
  refine (HTN.out w1).mono ?_
  rintro e w2 ⟨rfl, hb2⟩
  have HC2 := Lib.hid (HC1.out.below hb2)
  have HB2 := Lib.hid (below_then HB1.out (Nat.le_refl _) hb2)
  clear hb2 s1
  have s0 := HC2.out.get 0 _ rfl
  have s2 := HC2.out.get 2 _ rfl
  go_wp2_with fail
  refine (HTR.out w2).mono ?_
  rintro e w3 ⟨rfl, hb3⟩
  have HBF := Lib.hid (below_then HB2.out (Nat.le_refl _) hb3)
  clear hb3
  go_wp2_with fail
  go_ret
  exact ⟨rfl, HBF.out⟩

set_option maxRecDepth 100000 in
set_option maxHeartbeats 1000000 in
theorem line_8 (e : Ev) (Q : List Int) (R : List Rw) (w : World) (hT : Tabs w) (hk : e.kind = 8) (hm : Small e.m.1) : Calls Tryz.prog 8 #[vE e] w fun r w' => r = .returned (.string (lineF e Q R)) ∧ Below w.heap.size w w' := by
  have hL : lineF e Q R = line0 e ++ spF ++ textF e.rng := by unfold lineF; rw [hk]; rfl
  rw [hL]
  unfold line0
  rw [hk]
  have HT := Lib.hid hT
  have HMM := Lib.hid (fun W (h : Tabs W) => mut_any e.m W h hm)
  have HSS := Lib.hid (fun W => stamp_any e.s W)
  have HNM := Lib.hid (fun W => name_any 8 W)
  have hzm := mutF_size e.m.1 hm
  clear hL hT hm
  obtain ⟨kind, node, rng, op, ⟨⟨mt, mk, mkey, mfin, mval, mexp, ⟨map, mal, maw⟩, movr⟩, mv⟩, ca, cb, cd, ⟨sp, sl, sw⟩, ⟨bp, bl, bw⟩, quar, why, qv, nv, no, table, key, fin, rv, cv⟩ := e
  simp only [] at hk
  subst hk
  unfold vE enE
  unfold vM at HMM
  unfold vS at HSS
  simp only [] at HMM HSS hzm ⊢
  have HTN := Lib.hid (fun W => text_any node W)
  have HTR := Lib.hid (fun W => text_any rng W)
  have HTO := Lib.hid (fun W => text_any op W)
  have z1 := textF_size node
  have z2 := textF_size rng
  have z3 := textF_size op
  have z4 := stampF_size ⟨sp, sl, sw⟩
  have z5 := nameF_size 8
  have z6 : spF.size = 1 := rfl
  have hne : nameF 8 ≠ ⟨#[]⟩ := by intro h; have h2 := congrArg ByteArray.size h; revert h2; decide
  obtain ⟨nm, hnm⟩ : ∃ b, b = nameF 8 := ⟨_, rfl⟩
  rw [← hnm] at HNM z5 hne ⊢
  obtain ⟨tn, htn⟩ : ∃ b, b = textF node := ⟨_, rfl⟩
  rw [← htn] at HTN z1 ⊢
  obtain ⟨tr, htr⟩ : ∃ b, b = textF rng := ⟨_, rfl⟩
  rw [← htr] at HTR z2
  obtain ⟨tq, hto⟩ : ∃ b, b = textF op := ⟨_, rfl⟩
  rw [← hto] at HTO z3
  obtain ⟨ss, hss⟩ : ∃ b, b = stampF ⟨sp, sl, sw⟩ := ⟨_, rfl⟩
  rw [← hss] at HSS z4
  obtain ⟨mm, hmm⟩ : ∃ b, b = mutF ⟨mt, mk, mkey, mfin, mval, mexp, ⟨map, mal, maw⟩, movr⟩ := ⟨_, rfl⟩
  rw [← hmm] at HMM hzm
  try rw [← htr]
  try rw [← hto]
  try rw [← hss]
  try rw [← hmm]
  have HNE := Lib.hid hne
  clear hnm htn htr hto hss hmm hne
  have k0 : (spF ++ tn).size ≤ 21 := by rw [ByteArray.size_append]; omega
  have k1 : (nm ++ (spF ++ tn)).size ≤ 31 := by rw [ByteArray.size_append]; omega
  have k2 : (nm ++ (spF ++ tn) ++ spF).size ≤ 32 := by rw [ByteArray.size_append]; omega
  have k3 : (nm ++ (spF ++ tn) ++ spF ++ tr).size ≤ 52 := by rw [ByteArray.size_append]; omega
  have k4 : (nm ++ (spF ++ tn) ++ spF ++ tr ++ spF).size ≤ 53 := by rw [ByteArray.size_append]; omega
  obtain ⟨W0, hW0⟩ : ∃ W0, W0 = w.alloc (.cells #[.int .i64 8, .int .i64 node, .int .i64 rng, .int .i64 op, .int .i64 mt, .int .i64 mk, .string mkey, .string mfin, .string mval, .int .i64 mexp, .int .i64 map, .int .i64 mal, .int .i64 maw, mv, ca, cb, cd, .int .i64 sp, .int .i64 sl, .int .i64 sw, .int .i64 bp, .int .i64 bl, .int .i64 bw, .bool quar, .int .i64 why, qv, nv, .int .i64 no, .int .i64 table, .string key, .string fin, rv, cv] 39) := ⟨_, rfl⟩
  have HC := Lib.hid (show CellsAt W0 w.heap.size [.int .i64 8, .int .i64 node, .int .i64 rng, .int .i64 op, .int .i64 mt, .int .i64 mk, .string mkey, .string mfin, .string mval, .int .i64 mexp, .int .i64 map, .int .i64 mal, .int .i64 maw, mv, ca, cb, cd, .int .i64 sp, .int .i64 sl, .int .i64 sw, .int .i64 bp, .int .i64 bl, .int .i64 bw, .bool quar, .int .i64 why, qv, nv, .int .i64 no, .int .i64 table, .string key, .string fin, rv, cv] from by rw [hW0]; exact CellsAt.new w [.int .i64 8, .int .i64 node, .int .i64 rng, .int .i64 op, .int .i64 mt, .int .i64 mk, .string mkey, .string mfin, .string mval, .int .i64 mexp, .int .i64 map, .int .i64 mal, .int .i64 maw, mv, ca, cb, cd, .int .i64 sp, .int .i64 sl, .int .i64 sw, .int .i64 bp, .int .i64 bl, .int .i64 bw, .bool quar, .int .i64 why, qv, nv, .int .i64 no, .int .i64 table, .string key, .string fin, rv, cv] 39)
  have HB0 := Lib.hid (show Below w.heap.size w W0 by rw [hW0]; exact (Below.refl _ w).alloc (Nat.le_refl _) _)
  have HW := Lib.hid hW0
  clear hW0
  have heq : nm.toList.isEmpty = false := by rw [← decide_eq_emptyBytes]; exact decide_eq_false HNE.out
  go_enter Tryz.func8, Tryz.ntmps8
  go_upto_region 1 with fail
  rw [← HW.out]
  have s0 := HC.out.get 0 _ rfl
  go_wp2_with fail
  refine (HNM.out W0).mono ?_
  rintro e w1 ⟨rfl, hb1⟩
  have HC1 := Lib.hid (HC.out.below hb1)
  have HB1 := Lib.hid (below_then HB0.out (Nat.le_refl _) hb1)
  clear hb1 s0
  have s1 := HC1.out.get 1 _ rfl
  go_wp2_with fail
  refine (HTN.out w1).mono ?_
  rintro e w2 ⟨rfl, hb2⟩
  have HC2 := Lib.hid (HC1.out.below hb2)
  have HB2 := Lib.hid (below_then HB1.out (Nat.le_refl _) hb2)
  clear hb2 s1
  have s0 := HC2.out.get 0 _ rfl
  have s2 := HC2.out.get 2 _ rfl
  go_wp2_with fail
  refine (HTR.out w2).mono ?_
  rintro e w3 ⟨rfl, hb3⟩
  have HBF := Lib.hid (below_then HB2.out (Nat.le_refl _) hb3)
  clear hb3
  go_wp2_with fail
  go_ret
  exact ⟨rfl, HBF.out⟩

set_option maxRecDepth 100000 in
set_option maxHeartbeats 1000000 in
theorem line_9 (e : Ev) (Q : List Int) (R : List Rw) (w : World) (hT : Tabs w) (hk : e.kind = 9) (hm : Small e.m.1) : Calls Tryz.prog 8 #[vE e] w fun r w' => r = .returned (.string (lineF e Q R)) ∧ Below w.heap.size w w' := by
  have hL : lineF e Q R = line0 e ++ spF ++ textF e.rng := by unfold lineF; rw [hk]; rfl
  rw [hL]
  unfold line0
  rw [hk]
  have HT := Lib.hid hT
  have HMM := Lib.hid (fun W (h : Tabs W) => mut_any e.m W h hm)
  have HSS := Lib.hid (fun W => stamp_any e.s W)
  have HNM := Lib.hid (fun W => name_any 9 W)
  have hzm := mutF_size e.m.1 hm
  clear hL hT hm
  obtain ⟨kind, node, rng, op, ⟨⟨mt, mk, mkey, mfin, mval, mexp, ⟨map, mal, maw⟩, movr⟩, mv⟩, ca, cb, cd, ⟨sp, sl, sw⟩, ⟨bp, bl, bw⟩, quar, why, qv, nv, no, table, key, fin, rv, cv⟩ := e
  simp only [] at hk
  subst hk
  unfold vE enE
  unfold vM at HMM
  unfold vS at HSS
  simp only [] at HMM HSS hzm ⊢
  have HTN := Lib.hid (fun W => text_any node W)
  have HTR := Lib.hid (fun W => text_any rng W)
  have HTO := Lib.hid (fun W => text_any op W)
  have z1 := textF_size node
  have z2 := textF_size rng
  have z3 := textF_size op
  have z4 := stampF_size ⟨sp, sl, sw⟩
  have z5 := nameF_size 9
  have z6 : spF.size = 1 := rfl
  have hne : nameF 9 ≠ ⟨#[]⟩ := by intro h; have h2 := congrArg ByteArray.size h; revert h2; decide
  obtain ⟨nm, hnm⟩ : ∃ b, b = nameF 9 := ⟨_, rfl⟩
  rw [← hnm] at HNM z5 hne ⊢
  obtain ⟨tn, htn⟩ : ∃ b, b = textF node := ⟨_, rfl⟩
  rw [← htn] at HTN z1 ⊢
  obtain ⟨tr, htr⟩ : ∃ b, b = textF rng := ⟨_, rfl⟩
  rw [← htr] at HTR z2
  obtain ⟨tq, hto⟩ : ∃ b, b = textF op := ⟨_, rfl⟩
  rw [← hto] at HTO z3
  obtain ⟨ss, hss⟩ : ∃ b, b = stampF ⟨sp, sl, sw⟩ := ⟨_, rfl⟩
  rw [← hss] at HSS z4
  obtain ⟨mm, hmm⟩ : ∃ b, b = mutF ⟨mt, mk, mkey, mfin, mval, mexp, ⟨map, mal, maw⟩, movr⟩ := ⟨_, rfl⟩
  rw [← hmm] at HMM hzm
  try rw [← htr]
  try rw [← hto]
  try rw [← hss]
  try rw [← hmm]
  have HNE := Lib.hid hne
  clear hnm htn htr hto hss hmm hne
  have k0 : (spF ++ tn).size ≤ 21 := by rw [ByteArray.size_append]; omega
  have k1 : (nm ++ (spF ++ tn)).size ≤ 31 := by rw [ByteArray.size_append]; omega
  have k2 : (nm ++ (spF ++ tn) ++ spF).size ≤ 32 := by rw [ByteArray.size_append]; omega
  have k3 : (nm ++ (spF ++ tn) ++ spF ++ tr).size ≤ 52 := by rw [ByteArray.size_append]; omega
  have k4 : (nm ++ (spF ++ tn) ++ spF ++ tr ++ spF).size ≤ 53 := by rw [ByteArray.size_append]; omega
  obtain ⟨W0, hW0⟩ : ∃ W0, W0 = w.alloc (.cells #[.int .i64 9, .int .i64 node, .int .i64 rng, .int .i64 op, .int .i64 mt, .int .i64 mk, .string mkey, .string mfin, .string mval, .int .i64 mexp, .int .i64 map, .int .i64 mal, .int .i64 maw, mv, ca, cb, cd, .int .i64 sp, .int .i64 sl, .int .i64 sw, .int .i64 bp, .int .i64 bl, .int .i64 bw, .bool quar, .int .i64 why, qv, nv, .int .i64 no, .int .i64 table, .string key, .string fin, rv, cv] 39) := ⟨_, rfl⟩
  have HC := Lib.hid (show CellsAt W0 w.heap.size [.int .i64 9, .int .i64 node, .int .i64 rng, .int .i64 op, .int .i64 mt, .int .i64 mk, .string mkey, .string mfin, .string mval, .int .i64 mexp, .int .i64 map, .int .i64 mal, .int .i64 maw, mv, ca, cb, cd, .int .i64 sp, .int .i64 sl, .int .i64 sw, .int .i64 bp, .int .i64 bl, .int .i64 bw, .bool quar, .int .i64 why, qv, nv, .int .i64 no, .int .i64 table, .string key, .string fin, rv, cv] from by rw [hW0]; exact CellsAt.new w [.int .i64 9, .int .i64 node, .int .i64 rng, .int .i64 op, .int .i64 mt, .int .i64 mk, .string mkey, .string mfin, .string mval, .int .i64 mexp, .int .i64 map, .int .i64 mal, .int .i64 maw, mv, ca, cb, cd, .int .i64 sp, .int .i64 sl, .int .i64 sw, .int .i64 bp, .int .i64 bl, .int .i64 bw, .bool quar, .int .i64 why, qv, nv, .int .i64 no, .int .i64 table, .string key, .string fin, rv, cv] 39)
  have HB0 := Lib.hid (show Below w.heap.size w W0 by rw [hW0]; exact (Below.refl _ w).alloc (Nat.le_refl _) _)
  have HW := Lib.hid hW0
  clear hW0
  have heq : nm.toList.isEmpty = false := by rw [← decide_eq_emptyBytes]; exact decide_eq_false HNE.out
  go_enter Tryz.func8, Tryz.ntmps8
  go_upto_region 1 with fail
  rw [← HW.out]
  have s0 := HC.out.get 0 _ rfl
  go_wp2_with fail
  refine (HNM.out W0).mono ?_
  rintro e w1 ⟨rfl, hb1⟩
  have HC1 := Lib.hid (HC.out.below hb1)
  have HB1 := Lib.hid (below_then HB0.out (Nat.le_refl _) hb1)
  clear hb1 s0
  have s1 := HC1.out.get 1 _ rfl
  go_wp2_with fail
  refine (HTN.out w1).mono ?_
  rintro e w2 ⟨rfl, hb2⟩
  have HC2 := Lib.hid (HC1.out.below hb2)
  have HB2 := Lib.hid (below_then HB1.out (Nat.le_refl _) hb2)
  clear hb2 s1
  have s0 := HC2.out.get 0 _ rfl
  have s2 := HC2.out.get 2 _ rfl
  go_wp2_with fail
  refine (HTR.out w2).mono ?_
  rintro e w3 ⟨rfl, hb3⟩
  have HBF := Lib.hid (below_then HB2.out (Nat.le_refl _) hb3)
  clear hb3
  go_wp2_with fail
  go_ret
  exact ⟨rfl, HBF.out⟩

set_option maxRecDepth 100000 in
set_option maxHeartbeats 1000000 in
theorem line_11 (e : Ev) (Q : List Int) (R : List Rw) (w : World) (hT : Tabs w) (hk : e.kind = 11) (hm : Small e.m.1) : Calls Tryz.prog 8 #[vE e] w fun r w' => r = .returned (.string (lineF e Q R)) ∧ Below w.heap.size w w' := by
  have hL : lineF e Q R = line0 e ++ spF ++ textF e.op := by unfold lineF; rw [hk]; rfl
  rw [hL]
  unfold line0
  rw [hk]
  have HT := Lib.hid hT
  have HMM := Lib.hid (fun W (h : Tabs W) => mut_any e.m W h hm)
  have HSS := Lib.hid (fun W => stamp_any e.s W)
  have HNM := Lib.hid (fun W => name_any 11 W)
  have hzm := mutF_size e.m.1 hm
  clear hL hT hm
  obtain ⟨kind, node, rng, op, ⟨⟨mt, mk, mkey, mfin, mval, mexp, ⟨map, mal, maw⟩, movr⟩, mv⟩, ca, cb, cd, ⟨sp, sl, sw⟩, ⟨bp, bl, bw⟩, quar, why, qv, nv, no, table, key, fin, rv, cv⟩ := e
  simp only [] at hk
  subst hk
  unfold vE enE
  unfold vM at HMM
  unfold vS at HSS
  simp only [] at HMM HSS hzm ⊢
  have HTN := Lib.hid (fun W => text_any node W)
  have HTR := Lib.hid (fun W => text_any rng W)
  have HTO := Lib.hid (fun W => text_any op W)
  have z1 := textF_size node
  have z2 := textF_size rng
  have z3 := textF_size op
  have z4 := stampF_size ⟨sp, sl, sw⟩
  have z5 := nameF_size 11
  have z6 : spF.size = 1 := rfl
  have hne : nameF 11 ≠ ⟨#[]⟩ := by intro h; have h2 := congrArg ByteArray.size h; revert h2; decide
  obtain ⟨nm, hnm⟩ : ∃ b, b = nameF 11 := ⟨_, rfl⟩
  rw [← hnm] at HNM z5 hne ⊢
  obtain ⟨tn, htn⟩ : ∃ b, b = textF node := ⟨_, rfl⟩
  rw [← htn] at HTN z1 ⊢
  obtain ⟨tr, htr⟩ : ∃ b, b = textF rng := ⟨_, rfl⟩
  rw [← htr] at HTR z2
  obtain ⟨tq, hto⟩ : ∃ b, b = textF op := ⟨_, rfl⟩
  rw [← hto] at HTO z3
  obtain ⟨ss, hss⟩ : ∃ b, b = stampF ⟨sp, sl, sw⟩ := ⟨_, rfl⟩
  rw [← hss] at HSS z4
  obtain ⟨mm, hmm⟩ : ∃ b, b = mutF ⟨mt, mk, mkey, mfin, mval, mexp, ⟨map, mal, maw⟩, movr⟩ := ⟨_, rfl⟩
  rw [← hmm] at HMM hzm
  try rw [← htr]
  try rw [← hto]
  try rw [← hss]
  try rw [← hmm]
  have HNE := Lib.hid hne
  clear hnm htn htr hto hss hmm hne
  have k0 : (spF ++ tn).size ≤ 21 := by rw [ByteArray.size_append]; omega
  have k1 : (nm ++ (spF ++ tn)).size ≤ 31 := by rw [ByteArray.size_append]; omega
  have k2 : (nm ++ (spF ++ tn) ++ spF).size ≤ 32 := by rw [ByteArray.size_append]; omega
  have k3 : (nm ++ (spF ++ tn) ++ spF ++ tr).size ≤ 52 := by rw [ByteArray.size_append]; omega
  have k4 : (nm ++ (spF ++ tn) ++ spF ++ tr ++ spF).size ≤ 53 := by rw [ByteArray.size_append]; omega
  obtain ⟨W0, hW0⟩ : ∃ W0, W0 = w.alloc (.cells #[.int .i64 11, .int .i64 node, .int .i64 rng, .int .i64 op, .int .i64 mt, .int .i64 mk, .string mkey, .string mfin, .string mval, .int .i64 mexp, .int .i64 map, .int .i64 mal, .int .i64 maw, mv, ca, cb, cd, .int .i64 sp, .int .i64 sl, .int .i64 sw, .int .i64 bp, .int .i64 bl, .int .i64 bw, .bool quar, .int .i64 why, qv, nv, .int .i64 no, .int .i64 table, .string key, .string fin, rv, cv] 39) := ⟨_, rfl⟩
  have HC := Lib.hid (show CellsAt W0 w.heap.size [.int .i64 11, .int .i64 node, .int .i64 rng, .int .i64 op, .int .i64 mt, .int .i64 mk, .string mkey, .string mfin, .string mval, .int .i64 mexp, .int .i64 map, .int .i64 mal, .int .i64 maw, mv, ca, cb, cd, .int .i64 sp, .int .i64 sl, .int .i64 sw, .int .i64 bp, .int .i64 bl, .int .i64 bw, .bool quar, .int .i64 why, qv, nv, .int .i64 no, .int .i64 table, .string key, .string fin, rv, cv] from by rw [hW0]; exact CellsAt.new w [.int .i64 11, .int .i64 node, .int .i64 rng, .int .i64 op, .int .i64 mt, .int .i64 mk, .string mkey, .string mfin, .string mval, .int .i64 mexp, .int .i64 map, .int .i64 mal, .int .i64 maw, mv, ca, cb, cd, .int .i64 sp, .int .i64 sl, .int .i64 sw, .int .i64 bp, .int .i64 bl, .int .i64 bw, .bool quar, .int .i64 why, qv, nv, .int .i64 no, .int .i64 table, .string key, .string fin, rv, cv] 39)
  have HB0 := Lib.hid (show Below w.heap.size w W0 by rw [hW0]; exact (Below.refl _ w).alloc (Nat.le_refl _) _)
  have HW := Lib.hid hW0
  clear hW0
  have heq : nm.toList.isEmpty = false := by rw [← decide_eq_emptyBytes]; exact decide_eq_false HNE.out
  go_enter Tryz.func8, Tryz.ntmps8
  go_upto_region 1 with fail
  rw [← HW.out]
  have s0 := HC.out.get 0 _ rfl
  go_wp2_with fail
  refine (HNM.out W0).mono ?_
  rintro e w1 ⟨rfl, hb1⟩
  have HC1 := Lib.hid (HC.out.below hb1)
  have HB1 := Lib.hid (below_then HB0.out (Nat.le_refl _) hb1)
  clear hb1 s0
  have s1 := HC1.out.get 1 _ rfl
  go_wp2_with fail
  refine (HTN.out w1).mono ?_
  rintro e w2 ⟨rfl, hb2⟩
  have HC2 := Lib.hid (HC1.out.below hb2)
  have HB2 := Lib.hid (below_then HB1.out (Nat.le_refl _) hb2)
  clear hb2 s1
  have s0 := HC2.out.get 0 _ rfl
  have s3 := HC2.out.get 3 _ rfl
  go_wp2_with fail
  refine (HTO.out w2).mono ?_
  rintro e w3 ⟨rfl, hb3⟩
  have HBF := Lib.hid (below_then HB2.out (Nat.le_refl _) hb3)
  clear hb3
  go_wp2_with fail
  go_ret
  exact ⟨rfl, HBF.out⟩

set_option maxRecDepth 100000 in
set_option maxHeartbeats 1000000 in
theorem line_1 (e : Ev) (Q : List Int) (R : List Rw) (w : World) (hT : Tabs w) (hk : e.kind = 1) (hm : Small e.m.1) : Calls Tryz.prog 8 #[vE e] w fun r w' => r = .returned (.string (lineF e Q R)) ∧ Below w.heap.size w w' := by
  have hL : lineF e Q R = line0 e ++ spF ++ textF e.rng ++ spF ++ mutF e.m.1 := by unfold lineF; rw [hk]; rfl
  rw [hL]
  unfold line0
  rw [hk]
  have HT := Lib.hid hT
  have HMM := Lib.hid (fun W (h : Tabs W) => mut_any e.m W h hm)
  have HSS := Lib.hid (fun W => stamp_any e.s W)
  have HNM := Lib.hid (fun W => name_any 1 W)
  have hzm := mutF_size e.m.1 hm
  clear hL hT hm
  obtain ⟨kind, node, rng, op, ⟨⟨mt, mk, mkey, mfin, mval, mexp, ⟨map, mal, maw⟩, movr⟩, mv⟩, ca, cb, cd, ⟨sp, sl, sw⟩, ⟨bp, bl, bw⟩, quar, why, qv, nv, no, table, key, fin, rv, cv⟩ := e
  simp only [] at hk
  subst hk
  unfold vE enE
  unfold vM at HMM
  unfold vS at HSS
  simp only [] at HMM HSS hzm ⊢
  have HTN := Lib.hid (fun W => text_any node W)
  have HTR := Lib.hid (fun W => text_any rng W)
  have HTO := Lib.hid (fun W => text_any op W)
  have z1 := textF_size node
  have z2 := textF_size rng
  have z3 := textF_size op
  have z4 := stampF_size ⟨sp, sl, sw⟩
  have z5 := nameF_size 1
  have z6 : spF.size = 1 := rfl
  have hne : nameF 1 ≠ ⟨#[]⟩ := by intro h; have h2 := congrArg ByteArray.size h; revert h2; decide
  obtain ⟨nm, hnm⟩ : ∃ b, b = nameF 1 := ⟨_, rfl⟩
  rw [← hnm] at HNM z5 hne ⊢
  obtain ⟨tn, htn⟩ : ∃ b, b = textF node := ⟨_, rfl⟩
  rw [← htn] at HTN z1 ⊢
  obtain ⟨tr, htr⟩ : ∃ b, b = textF rng := ⟨_, rfl⟩
  rw [← htr] at HTR z2
  obtain ⟨tq, hto⟩ : ∃ b, b = textF op := ⟨_, rfl⟩
  rw [← hto] at HTO z3
  obtain ⟨ss, hss⟩ : ∃ b, b = stampF ⟨sp, sl, sw⟩ := ⟨_, rfl⟩
  rw [← hss] at HSS z4
  obtain ⟨mm, hmm⟩ : ∃ b, b = mutF ⟨mt, mk, mkey, mfin, mval, mexp, ⟨map, mal, maw⟩, movr⟩ := ⟨_, rfl⟩
  rw [← hmm] at HMM hzm
  try rw [← htr]
  try rw [← hto]
  try rw [← hss]
  try rw [← hmm]
  have HNE := Lib.hid hne
  clear hnm htn htr hto hss hmm hne
  have k0 : (spF ++ tn).size ≤ 21 := by rw [ByteArray.size_append]; omega
  have k1 : (nm ++ (spF ++ tn)).size ≤ 31 := by rw [ByteArray.size_append]; omega
  have k2 : (nm ++ (spF ++ tn) ++ spF).size ≤ 32 := by rw [ByteArray.size_append]; omega
  have k3 : (nm ++ (spF ++ tn) ++ spF ++ tr).size ≤ 52 := by rw [ByteArray.size_append]; omega
  have k4 : (nm ++ (spF ++ tn) ++ spF ++ tr ++ spF).size ≤ 53 := by rw [ByteArray.size_append]; omega
  obtain ⟨W0, hW0⟩ : ∃ W0, W0 = w.alloc (.cells #[.int .i64 1, .int .i64 node, .int .i64 rng, .int .i64 op, .int .i64 mt, .int .i64 mk, .string mkey, .string mfin, .string mval, .int .i64 mexp, .int .i64 map, .int .i64 mal, .int .i64 maw, mv, ca, cb, cd, .int .i64 sp, .int .i64 sl, .int .i64 sw, .int .i64 bp, .int .i64 bl, .int .i64 bw, .bool quar, .int .i64 why, qv, nv, .int .i64 no, .int .i64 table, .string key, .string fin, rv, cv] 39) := ⟨_, rfl⟩
  have HC := Lib.hid (show CellsAt W0 w.heap.size [.int .i64 1, .int .i64 node, .int .i64 rng, .int .i64 op, .int .i64 mt, .int .i64 mk, .string mkey, .string mfin, .string mval, .int .i64 mexp, .int .i64 map, .int .i64 mal, .int .i64 maw, mv, ca, cb, cd, .int .i64 sp, .int .i64 sl, .int .i64 sw, .int .i64 bp, .int .i64 bl, .int .i64 bw, .bool quar, .int .i64 why, qv, nv, .int .i64 no, .int .i64 table, .string key, .string fin, rv, cv] from by rw [hW0]; exact CellsAt.new w [.int .i64 1, .int .i64 node, .int .i64 rng, .int .i64 op, .int .i64 mt, .int .i64 mk, .string mkey, .string mfin, .string mval, .int .i64 mexp, .int .i64 map, .int .i64 mal, .int .i64 maw, mv, ca, cb, cd, .int .i64 sp, .int .i64 sl, .int .i64 sw, .int .i64 bp, .int .i64 bl, .int .i64 bw, .bool quar, .int .i64 why, qv, nv, .int .i64 no, .int .i64 table, .string key, .string fin, rv, cv] 39)
  have HB0 := Lib.hid (show Below w.heap.size w W0 by rw [hW0]; exact (Below.refl _ w).alloc (Nat.le_refl _) _)
  have HW := Lib.hid hW0
  clear hW0
  have heq : nm.toList.isEmpty = false := by rw [← decide_eq_emptyBytes]; exact decide_eq_false HNE.out
  go_enter Tryz.func8, Tryz.ntmps8
  go_upto_region 1 with fail
  rw [← HW.out]
  have s0 := HC.out.get 0 _ rfl
  go_wp2_with fail
  refine (HNM.out W0).mono ?_
  rintro e w1 ⟨rfl, hb1⟩
  have HC1 := Lib.hid (HC.out.below hb1)
  have HB1 := Lib.hid (below_then HB0.out (Nat.le_refl _) hb1)
  clear hb1 s0
  have s1 := HC1.out.get 1 _ rfl
  go_wp2_with fail
  refine (HTN.out w1).mono ?_
  rintro e w2 ⟨rfl, hb2⟩
  have HC2 := Lib.hid (HC1.out.below hb2)
  have HB2 := Lib.hid (below_then HB1.out (Nat.le_refl _) hb2)
  clear hb2 s1
  have s0 := HC2.out.get 0 _ rfl
  go_upto_region 8 with fail
  refine wp_region_told [] 11 [false, false, false, false, false, false, false, false, false, false, false, false, false, false, false, false, false, false, false, false, false, false, true, true, true, true, true, true, true, true, true, true, true, false, false, false, false, false, false, false, false, false, false, false, false, false, false, false, false, false, false, false, false, false, false, false, false, false, false, false, false, false, false, false, false, false, false, false, false, false, false, false, false, false, false, false, false, false, false, false, false, false, false, false, false, false, false, false, false, false, false, false, false, false, false, false, false, false, false, false, false, false, false, false, false, false, false, false, false, false, false, false, false, false, false, false, false, false, false, false]
    [sLit (.string (nm ++ (spF ++ tn))),
    sLit (.string ((nm ++ (spF ++ tn)) ++ spF)),
    sLit (.pointer (some ⟨w.heap.size, 2, none⟩)),
    sLit (.int .i64 rng),
    sLit (.string tr),
    sLit (.string (((nm ++ (spF ++ tn)) ++ spF) ++ tr)),
    sLit (.string ((((nm ++ (spF ++ tn)) ++ spF) ++ tr) ++ spF)),
    sLit (.pointer (some ⟨w.heap.size, 4, none⟩)),
    sLit (.agg #[.int .i64 mt, .int .i64 mk, .string mkey, .string mfin, .string mval, .int .i64 mexp, .int .i64 map, .int .i64 mal, .int .i64 maw, mv]),
    sLit (.string mm),
    sLit (.string (((((nm ++ (spF ++ tn)) ++ spF) ++ tr) ++ spF) ++ mm))] (by kernel_rfl) (by kernel_rfl) (by kernel_rfl) (fun F hF => ?_)
  simp only [over, overL, Nat.reduceAdd] at hF
  obtain rfl := funext hF
  clear hF
  refine ⟨⟨?_, ?_, ?_, ?_, ?_, ?_, ?_, ?_, ?_, ?_, ?_, trivial⟩, ?_⟩
  · intro V W hb hd K hK _
    clear hd
    go_wp2_with fail
    refine hK _ _ ?_ ?_ ?_ ?_
    · rfl
    · exact Below.refl _ _
    · exact rfl
    · trivial
  · intro V W hb hd K hK _
    have h0 : (V 22) = .string (nm ++ (spF ++ tn)) := hd 0 (by kernel_rfl)
    clear hd
    go_wp2_with fail
    refine hK _ _ ?_ ?_ ?_ ?_
    · rfl
    · exact Below.refl _ _
    · exact rfl
    · trivial
  · intro V W hb hd K hK _
    clear hd
    go_wp2_with fail
    refine hK _ _ ?_ ?_ ?_ ?_
    · rfl
    · exact Below.refl _ _
    · exact rfl
    · trivial
  · intro V W hb hd K hK _
    have h2 : (V 24) = .pointer (some ⟨w.heap.size, 2, none⟩) := hd 2 (by kernel_rfl)
    clear hd
    have s2 := (HC2.out.below hb).get 2 _ rfl
    go_wp2_with fail
    refine hK _ _ ?_ ?_ ?_ ?_
    · rfl
    · exact Below.refl _ _
    · exact rfl
    · trivial
  · intro V W hb hd K hK _
    have h3 : (V 25) = .int .i64 rng := hd 3 (by kernel_rfl)
    clear hd
    go_wp2_with fail
    refine (HTR.out W).mono ?_
    rintro e w1 ⟨rfl, hb1⟩
    go_wp2_with fail
    refine hK _ _ ?_ ?_ ?_ ?_
    · rfl
    · exact hb1
    · exact rfl
    · trivial
  · intro V W hb hd K hK _
    have h1 : (V 23) = .string ((nm ++ (spF ++ tn)) ++ spF) := hd 1 (by kernel_rfl)
    have h4 : (V 26) = .string tr := hd 4 (by kernel_rfl)
    clear hd
    go_wp2_with fail
    refine hK _ _ ?_ ?_ ?_ ?_
    · rfl
    · exact Below.refl _ _
    · exact rfl
    · trivial
  · intro V W hb hd K hK _
    have h5 : (V 27) = .string (((nm ++ (spF ++ tn)) ++ spF) ++ tr) := hd 5 (by kernel_rfl)
    clear hd
    go_wp2_with fail
    refine hK _ _ ?_ ?_ ?_ ?_
    · rfl
    · exact Below.refl _ _
    · exact rfl
    · trivial
  · intro V W hb hd K hK _
    clear hd
    go_wp2_with fail
    refine hK _ _ ?_ ?_ ?_ ?_
    · rfl
    · exact Below.refl _ _
    · exact rfl
    · trivial
  · intro V W hb hd K hK _
    have h7 : (V 29) = .pointer (some ⟨w.heap.size, 4, none⟩) := hd 7 (by kernel_rfl)
    clear hd
    have s4 := (HC2.out.below hb).get 4 _ rfl
    have s5 := (HC2.out.below hb).get 5 _ rfl
    have s6 := (HC2.out.below hb).get 6 _ rfl
    have s7 := (HC2.out.below hb).get 7 _ rfl
    have s8 := (HC2.out.below hb).get 8 _ rfl
    have s9 := (HC2.out.below hb).get 9 _ rfl
    have s10 := (HC2.out.below hb).get 10 _ rfl
    have s11 := (HC2.out.below hb).get 11 _ rfl
    have s12 := (HC2.out.below hb).get 12 _ rfl
    have s13 := (HC2.out.below hb).get 13 _ rfl
    go_wp2_with fail
    refine hK _ _ ?_ ?_ ?_ ?_
    · rfl
    · exact Below.refl _ _
    · exact rfl
    · trivial
  · intro V W hb hd K hK _
    have h8 : (V 30) = .agg #[.int .i64 mt, .int .i64 mk, .string mkey, .string mfin, .string mval, .int .i64 mexp, .int .i64 map, .int .i64 mal, .int .i64 maw, mv] := hd 8 (by kernel_rfl)
    clear hd
    go_wp2_with fail
    refine (HMM.out W (HT.out.below (HB2.out.trans (hb.mono HB2.out.size)))).mono ?_
    rintro e w1 ⟨rfl, hb1⟩
    go_wp2_with fail
    refine hK _ _ ?_ ?_ ?_ ?_
    · rfl
    · exact hb1
    · exact rfl
    · trivial
  · intro V W hb hd K hK _
    have h6 : (V 28) = .string ((((nm ++ (spF ++ tn)) ++ spF) ++ tr) ++ spF) := hd 6 (by kernel_rfl)
    have h9 : (V 31) = .string mm := hd 9 (by kernel_rfl)
    clear hd
    go_wp2_with fail
    refine hK _ _ ?_ ?_ ?_ ?_
    · rfl
    · exact Below.refl _ _
    · exact rfl
    · trivial
  · intro V W hb hd hap
    have h10 : (V 32) = .string (((((nm ++ (spF ++ tn)) ++ spF) ++ tr) ++ spF) ++ mm) := hd 10 (by decide)
    clear hd hap
    simp only [List.drop_succ_cons, List.drop_zero]
    have HBF := Lib.hid (HB2.out.trans (hb.mono HB2.out.size))
    clear hb
    go_wp2_with fail
    go_ret
    exact ⟨rfl, HBF.out⟩

set_option maxRecDepth 100000 in
set_option maxHeartbeats 1000000 in
theorem line_4 (e : Ev) (Q : List Int) (R : List Rw) (w : World) (hT : Tabs w) (hk : e.kind = 4) (hm : Small e.m.1) : Calls Tryz.prog 8 #[vE e] w fun r w' => r = .returned (.string (lineF e Q R)) ∧ Below w.heap.size w w' := by
  have hL : lineF e Q R = line0 e ++ spF ++ textF e.rng ++ spF ++ mutF e.m.1 := by unfold lineF; rw [hk]; rfl
  rw [hL]
  unfold line0
  rw [hk]
  have HT := Lib.hid hT
  have HMM := Lib.hid (fun W (h : Tabs W) => mut_any e.m W h hm)
  have HSS := Lib.hid (fun W => stamp_any e.s W)
  have HNM := Lib.hid (fun W => name_any 4 W)
  have hzm := mutF_size e.m.1 hm
  clear hL hT hm
  obtain ⟨kind, node, rng, op, ⟨⟨mt, mk, mkey, mfin, mval, mexp, ⟨map, mal, maw⟩, movr⟩, mv⟩, ca, cb, cd, ⟨sp, sl, sw⟩, ⟨bp, bl, bw⟩, quar, why, qv, nv, no, table, key, fin, rv, cv⟩ := e
  simp only [] at hk
  subst hk
  unfold vE enE
  unfold vM at HMM
  unfold vS at HSS
  simp only [] at HMM HSS hzm ⊢
  have HTN := Lib.hid (fun W => text_any node W)
  have HTR := Lib.hid (fun W => text_any rng W)
  have HTO := Lib.hid (fun W => text_any op W)
  have z1 := textF_size node
  have z2 := textF_size rng
  have z3 := textF_size op
  have z4 := stampF_size ⟨sp, sl, sw⟩
  have z5 := nameF_size 4
  have z6 : spF.size = 1 := rfl
  have hne : nameF 4 ≠ ⟨#[]⟩ := by intro h; have h2 := congrArg ByteArray.size h; revert h2; decide
  obtain ⟨nm, hnm⟩ : ∃ b, b = nameF 4 := ⟨_, rfl⟩
  rw [← hnm] at HNM z5 hne ⊢
  obtain ⟨tn, htn⟩ : ∃ b, b = textF node := ⟨_, rfl⟩
  rw [← htn] at HTN z1 ⊢
  obtain ⟨tr, htr⟩ : ∃ b, b = textF rng := ⟨_, rfl⟩
  rw [← htr] at HTR z2
  obtain ⟨tq, hto⟩ : ∃ b, b = textF op := ⟨_, rfl⟩
  rw [← hto] at HTO z3
  obtain ⟨ss, hss⟩ : ∃ b, b = stampF ⟨sp, sl, sw⟩ := ⟨_, rfl⟩
  rw [← hss] at HSS z4
  obtain ⟨mm, hmm⟩ : ∃ b, b = mutF ⟨mt, mk, mkey, mfin, mval, mexp, ⟨map, mal, maw⟩, movr⟩ := ⟨_, rfl⟩
  rw [← hmm] at HMM hzm
  try rw [← htr]
  try rw [← hto]
  try rw [← hss]
  try rw [← hmm]
  have HNE := Lib.hid hne
  clear hnm htn htr hto hss hmm hne
  have k0 : (spF ++ tn).size ≤ 21 := by rw [ByteArray.size_append]; omega
  have k1 : (nm ++ (spF ++ tn)).size ≤ 31 := by rw [ByteArray.size_append]; omega
  have k2 : (nm ++ (spF ++ tn) ++ spF).size ≤ 32 := by rw [ByteArray.size_append]; omega
  have k3 : (nm ++ (spF ++ tn) ++ spF ++ tr).size ≤ 52 := by rw [ByteArray.size_append]; omega
  have k4 : (nm ++ (spF ++ tn) ++ spF ++ tr ++ spF).size ≤ 53 := by rw [ByteArray.size_append]; omega
  obtain ⟨W0, hW0⟩ : ∃ W0, W0 = w.alloc (.cells #[.int .i64 4, .int .i64 node, .int .i64 rng, .int .i64 op, .int .i64 mt, .int .i64 mk, .string mkey, .string mfin, .string mval, .int .i64 mexp, .int .i64 map, .int .i64 mal, .int .i64 maw, mv, ca, cb, cd, .int .i64 sp, .int .i64 sl, .int .i64 sw, .int .i64 bp, .int .i64 bl, .int .i64 bw, .bool quar, .int .i64 why, qv, nv, .int .i64 no, .int .i64 table, .string key, .string fin, rv, cv] 39) := ⟨_, rfl⟩
  have HC := Lib.hid (show CellsAt W0 w.heap.size [.int .i64 4, .int .i64 node, .int .i64 rng, .int .i64 op, .int .i64 mt, .int .i64 mk, .string mkey, .string mfin, .string mval, .int .i64 mexp, .int .i64 map, .int .i64 mal, .int .i64 maw, mv, ca, cb, cd, .int .i64 sp, .int .i64 sl, .int .i64 sw, .int .i64 bp, .int .i64 bl, .int .i64 bw, .bool quar, .int .i64 why, qv, nv, .int .i64 no, .int .i64 table, .string key, .string fin, rv, cv] from by rw [hW0]; exact CellsAt.new w [.int .i64 4, .int .i64 node, .int .i64 rng, .int .i64 op, .int .i64 mt, .int .i64 mk, .string mkey, .string mfin, .string mval, .int .i64 mexp, .int .i64 map, .int .i64 mal, .int .i64 maw, mv, ca, cb, cd, .int .i64 sp, .int .i64 sl, .int .i64 sw, .int .i64 bp, .int .i64 bl, .int .i64 bw, .bool quar, .int .i64 why, qv, nv, .int .i64 no, .int .i64 table, .string key, .string fin, rv, cv] 39)
  have HB0 := Lib.hid (show Below w.heap.size w W0 by rw [hW0]; exact (Below.refl _ w).alloc (Nat.le_refl _) _)
  have HW := Lib.hid hW0
  clear hW0
  have heq : nm.toList.isEmpty = false := by rw [← decide_eq_emptyBytes]; exact decide_eq_false HNE.out
  go_enter Tryz.func8, Tryz.ntmps8
  go_upto_region 1 with fail
  rw [← HW.out]
  have s0 := HC.out.get 0 _ rfl
  go_wp2_with fail
  refine (HNM.out W0).mono ?_
  rintro e w1 ⟨rfl, hb1⟩
  have HC1 := Lib.hid (HC.out.below hb1)
  have HB1 := Lib.hid (below_then HB0.out (Nat.le_refl _) hb1)
  clear hb1 s0
  have s1 := HC1.out.get 1 _ rfl
  go_wp2_with fail
  refine (HTN.out w1).mono ?_
  rintro e w2 ⟨rfl, hb2⟩
  have HC2 := Lib.hid (HC1.out.below hb2)
  have HB2 := Lib.hid (below_then HB1.out (Nat.le_refl _) hb2)
  clear hb2 s1
  have s0 := HC2.out.get 0 _ rfl
  go_upto_region 8 with fail
  refine wp_region_told [] 11 [false, false, false, false, false, false, false, false, false, false, false, false, false, false, false, false, false, false, false, false, false, false, true, true, true, true, true, true, true, true, true, true, true, false, false, false, false, false, false, false, false, false, false, false, false, false, false, false, false, false, false, false, false, false, false, false, false, false, false, false, false, false, false, false, false, false, false, false, false, false, false, false, false, false, false, false, false, false, false, false, false, false, false, false, false, false, false, false, false, false, false, false, false, false, false, false, false, false, false, false, false, false, false, false, false, false, false, false, false, false, false, false, false, false, false, false, false, false, false, false]
    [sLit (.string (nm ++ (spF ++ tn))),
    sLit (.string ((nm ++ (spF ++ tn)) ++ spF)),
    sLit (.pointer (some ⟨w.heap.size, 2, none⟩)),
    sLit (.int .i64 rng),
    sLit (.string tr),
    sLit (.string (((nm ++ (spF ++ tn)) ++ spF) ++ tr)),
    sLit (.string ((((nm ++ (spF ++ tn)) ++ spF) ++ tr) ++ spF)),
    sLit (.pointer (some ⟨w.heap.size, 4, none⟩)),
    sLit (.agg #[.int .i64 mt, .int .i64 mk, .string mkey, .string mfin, .string mval, .int .i64 mexp, .int .i64 map, .int .i64 mal, .int .i64 maw, mv]),
    sLit (.string mm),
    sLit (.string (((((nm ++ (spF ++ tn)) ++ spF) ++ tr) ++ spF) ++ mm))] (by kernel_rfl) (by kernel_rfl) (by kernel_rfl) (fun F hF => ?_)
  simp only [over, overL, Nat.reduceAdd] at hF
  obtain rfl := funext hF
  clear hF
  refine ⟨⟨?_, ?_, ?_, ?_, ?_, ?_, ?_, ?_, ?_, ?_, ?_, trivial⟩, ?_⟩
  · intro V W hb hd K hK _
    clear hd
    go_wp2_with fail
    refine hK _ _ ?_ ?_ ?_ ?_
    · rfl
    · exact Below.refl _ _
    · exact rfl
    · trivial
  · intro V W hb hd K hK _
    have h0 : (V 22) = .string (nm ++ (spF ++ tn)) := hd 0 (by kernel_rfl)
    clear hd
    go_wp2_with fail
    refine hK _ _ ?_ ?_ ?_ ?_
    · rfl
    · exact Below.refl _ _
    · exact rfl
    · trivial
  · intro V W hb hd K hK _
    clear hd
    go_wp2_with fail
    refine hK _ _ ?_ ?_ ?_ ?_
    · rfl
    · exact Below.refl _ _
    · exact rfl
    · trivial
  · intro V W hb hd K hK _
    have h2 : (V 24) = .pointer (some ⟨w.heap.size, 2, none⟩) := hd 2 (by kernel_rfl)
    clear hd
    have s2 := (HC2.out.below hb).get 2 _ rfl
    go_wp2_with fail
    refine hK _ _ ?_ ?_ ?_ ?_
    · rfl
    · exact Below.refl _ _
    · exact rfl
    · trivial
  · intro V W hb hd K hK _
    have h3 : (V 25) = .int .i64 rng := hd 3 (by kernel_rfl)
    clear hd
    go_wp2_with fail
    refine (HTR.out W).mono ?_
    rintro e w1 ⟨rfl, hb1⟩
    go_wp2_with fail
    refine hK _ _ ?_ ?_ ?_ ?_
    · rfl
    · exact hb1
    · exact rfl
    · trivial
  · intro V W hb hd K hK _
    have h1 : (V 23) = .string ((nm ++ (spF ++ tn)) ++ spF) := hd 1 (by kernel_rfl)
    have h4 : (V 26) = .string tr := hd 4 (by kernel_rfl)
    clear hd
    go_wp2_with fail
    refine hK _ _ ?_ ?_ ?_ ?_
    · rfl
    · exact Below.refl _ _
    · exact rfl
    · trivial
  · intro V W hb hd K hK _
    have h5 : (V 27) = .string (((nm ++ (spF ++ tn)) ++ spF) ++ tr) := hd 5 (by kernel_rfl)
    clear hd
    go_wp2_with fail
    refine hK _ _ ?_ ?_ ?_ ?_
    · rfl
    · exact Below.refl _ _
    · exact rfl
    · trivial
  · intro V W hb hd K hK _
    clear hd
    go_wp2_with fail
    refine hK _ _ ?_ ?_ ?_ ?_
    · rfl
    · exact Below.refl _ _
    · exact rfl
    · trivial
  · intro V W hb hd K hK _
    have h7 : (V 29) = .pointer (some ⟨w.heap.size, 4, none⟩) := hd 7 (by kernel_rfl)
    clear hd
    have s4 := (HC2.out.below hb).get 4 _ rfl
    have s5 := (HC2.out.below hb).get 5 _ rfl
    have s6 := (HC2.out.below hb).get 6 _ rfl
    have s7 := (HC2.out.below hb).get 7 _ rfl
    have s8 := (HC2.out.below hb).get 8 _ rfl
    have s9 := (HC2.out.below hb).get 9 _ rfl
    have s10 := (HC2.out.below hb).get 10 _ rfl
    have s11 := (HC2.out.below hb).get 11 _ rfl
    have s12 := (HC2.out.below hb).get 12 _ rfl
    have s13 := (HC2.out.below hb).get 13 _ rfl
    go_wp2_with fail
    refine hK _ _ ?_ ?_ ?_ ?_
    · rfl
    · exact Below.refl _ _
    · exact rfl
    · trivial
  · intro V W hb hd K hK _
    have h8 : (V 30) = .agg #[.int .i64 mt, .int .i64 mk, .string mkey, .string mfin, .string mval, .int .i64 mexp, .int .i64 map, .int .i64 mal, .int .i64 maw, mv] := hd 8 (by kernel_rfl)
    clear hd
    go_wp2_with fail
    refine (HMM.out W (HT.out.below (HB2.out.trans (hb.mono HB2.out.size)))).mono ?_
    rintro e w1 ⟨rfl, hb1⟩
    go_wp2_with fail
    refine hK _ _ ?_ ?_ ?_ ?_
    · rfl
    · exact hb1
    · exact rfl
    · trivial
  · intro V W hb hd K hK _
    have h6 : (V 28) = .string ((((nm ++ (spF ++ tn)) ++ spF) ++ tr) ++ spF) := hd 6 (by kernel_rfl)
    have h9 : (V 31) = .string mm := hd 9 (by kernel_rfl)
    clear hd
    go_wp2_with fail
    refine hK _ _ ?_ ?_ ?_ ?_
    · rfl
    · exact Below.refl _ _
    · exact rfl
    · trivial
  · intro V W hb hd hap
    have h10 : (V 32) = .string (((((nm ++ (spF ++ tn)) ++ spF) ++ tr) ++ spF) ++ mm) := hd 10 (by decide)
    clear hd hap
    simp only [List.drop_succ_cons, List.drop_zero]
    have HBF := Lib.hid (HB2.out.trans (hb.mono HB2.out.size))
    clear hb
    go_wp2_with fail
    go_ret
    exact ⟨rfl, HBF.out⟩

set_option maxRecDepth 100000 in
set_option maxHeartbeats 1000000 in
theorem line_2 (e : Ev) (Q : List Int) (R : List Rw) (w : World) (hT : Tabs w) (hk : e.kind = 2) (hm : Small e.m.1) : Calls Tryz.prog 8 #[vE e] w fun r w' => r = .returned (.string (lineF e Q R)) ∧ Below w.heap.size w w' := by
  have hL : lineF e Q R = line0 e ++ spF ++ textF e.rng ++ spF ++ stampF e.s := by unfold lineF; rw [hk]; rfl
  rw [hL]
  unfold line0
  rw [hk]
  have HT := Lib.hid hT
  have HMM := Lib.hid (fun W (h : Tabs W) => mut_any e.m W h hm)
  have HSS := Lib.hid (fun W => stamp_any e.s W)
  have HNM := Lib.hid (fun W => name_any 2 W)
  have hzm := mutF_size e.m.1 hm
  clear hL hT hm
  obtain ⟨kind, node, rng, op, ⟨⟨mt, mk, mkey, mfin, mval, mexp, ⟨map, mal, maw⟩, movr⟩, mv⟩, ca, cb, cd, ⟨sp, sl, sw⟩, ⟨bp, bl, bw⟩, quar, why, qv, nv, no, table, key, fin, rv, cv⟩ := e
  simp only [] at hk
  subst hk
  unfold vE enE
  unfold vM at HMM
  unfold vS at HSS
  simp only [] at HMM HSS hzm ⊢
  have HTN := Lib.hid (fun W => text_any node W)
  have HTR := Lib.hid (fun W => text_any rng W)
  have HTO := Lib.hid (fun W => text_any op W)
  have z1 := textF_size node
  have z2 := textF_size rng
  have z3 := textF_size op
  have z4 := stampF_size ⟨sp, sl, sw⟩
  have z5 := nameF_size 2
  have z6 : spF.size = 1 := rfl
  have hne : nameF 2 ≠ ⟨#[]⟩ := by intro h; have h2 := congrArg ByteArray.size h; revert h2; decide
  obtain ⟨nm, hnm⟩ : ∃ b, b = nameF 2 := ⟨_, rfl⟩
  rw [← hnm] at HNM z5 hne ⊢
  obtain ⟨tn, htn⟩ : ∃ b, b = textF node := ⟨_, rfl⟩
  rw [← htn] at HTN z1 ⊢
  obtain ⟨tr, htr⟩ : ∃ b, b = textF rng := ⟨_, rfl⟩
  rw [← htr] at HTR z2
  obtain ⟨tq, hto⟩ : ∃ b, b = textF op := ⟨_, rfl⟩
  rw [← hto] at HTO z3
  obtain ⟨ss, hss⟩ : ∃ b, b = stampF ⟨sp, sl, sw⟩ := ⟨_, rfl⟩
  rw [← hss] at HSS z4
  obtain ⟨mm, hmm⟩ : ∃ b, b = mutF ⟨mt, mk, mkey, mfin, mval, mexp, ⟨map, mal, maw⟩, movr⟩ := ⟨_, rfl⟩
  rw [← hmm] at HMM hzm
  try rw [← htr]
  try rw [← hto]
  try rw [← hss]
  try rw [← hmm]
  have HNE := Lib.hid hne
  clear hnm htn htr hto hss hmm hne
  have k0 : (spF ++ tn).size ≤ 21 := by rw [ByteArray.size_append]; omega
  have k1 : (nm ++ (spF ++ tn)).size ≤ 31 := by rw [ByteArray.size_append]; omega
  have k2 : (nm ++ (spF ++ tn) ++ spF).size ≤ 32 := by rw [ByteArray.size_append]; omega
  have k3 : (nm ++ (spF ++ tn) ++ spF ++ tr).size ≤ 52 := by rw [ByteArray.size_append]; omega
  have k4 : (nm ++ (spF ++ tn) ++ spF ++ tr ++ spF).size ≤ 53 := by rw [ByteArray.size_append]; omega
  obtain ⟨W0, hW0⟩ : ∃ W0, W0 = w.alloc (.cells #[.int .i64 2, .int .i64 node, .int .i64 rng, .int .i64 op, .int .i64 mt, .int .i64 mk, .string mkey, .string mfin, .string mval, .int .i64 mexp, .int .i64 map, .int .i64 mal, .int .i64 maw, mv, ca, cb, cd, .int .i64 sp, .int .i64 sl, .int .i64 sw, .int .i64 bp, .int .i64 bl, .int .i64 bw, .bool quar, .int .i64 why, qv, nv, .int .i64 no, .int .i64 table, .string key, .string fin, rv, cv] 39) := ⟨_, rfl⟩
  have HC := Lib.hid (show CellsAt W0 w.heap.size [.int .i64 2, .int .i64 node, .int .i64 rng, .int .i64 op, .int .i64 mt, .int .i64 mk, .string mkey, .string mfin, .string mval, .int .i64 mexp, .int .i64 map, .int .i64 mal, .int .i64 maw, mv, ca, cb, cd, .int .i64 sp, .int .i64 sl, .int .i64 sw, .int .i64 bp, .int .i64 bl, .int .i64 bw, .bool quar, .int .i64 why, qv, nv, .int .i64 no, .int .i64 table, .string key, .string fin, rv, cv] from by rw [hW0]; exact CellsAt.new w [.int .i64 2, .int .i64 node, .int .i64 rng, .int .i64 op, .int .i64 mt, .int .i64 mk, .string mkey, .string mfin, .string mval, .int .i64 mexp, .int .i64 map, .int .i64 mal, .int .i64 maw, mv, ca, cb, cd, .int .i64 sp, .int .i64 sl, .int .i64 sw, .int .i64 bp, .int .i64 bl, .int .i64 bw, .bool quar, .int .i64 why, qv, nv, .int .i64 no, .int .i64 table, .string key, .string fin, rv, cv] 39)
  have HB0 := Lib.hid (show Below w.heap.size w W0 by rw [hW0]; exact (Below.refl _ w).alloc (Nat.le_refl _) _)
  have HW := Lib.hid hW0
  clear hW0
  have heq : nm.toList.isEmpty = false := by rw [← decide_eq_emptyBytes]; exact decide_eq_false HNE.out
  go_enter Tryz.func8, Tryz.ntmps8
  go_upto_region 1 with fail
  rw [← HW.out]
  have s0 := HC.out.get 0 _ rfl
  go_wp2_with fail
  refine (HNM.out W0).mono ?_
  rintro e w1 ⟨rfl, hb1⟩
  have HC1 := Lib.hid (HC.out.below hb1)
  have HB1 := Lib.hid (below_then HB0.out (Nat.le_refl _) hb1)
  clear hb1 s0
  have s1 := HC1.out.get 1 _ rfl
  go_wp2_with fail
  refine (HTN.out w1).mono ?_
  rintro e w2 ⟨rfl, hb2⟩
  have HC2 := Lib.hid (HC1.out.below hb2)
  have HB2 := Lib.hid (below_then HB1.out (Nat.le_refl _) hb2)
  clear hb2 s1
  have s0 := HC2.out.get 0 _ rfl
  go_upto_region 11 with fail
  refine wp_region_told [] 11 [false, false, false, false, false, false, false, false, false, false, false, false, false, false, false, false, false, false, false, false, false, false, false, false, false, false, false, false, false, false, false, false, false, false, false, false, true, true, true, true, true, true, true, true, true, true, true, false, false, false, false, false, false, false, false, false, false, false, false, false, false, false, false, false, false, false, false, false, false, false, false, false, false, false, false, false, false, false, false, false, false, false, false, false, false, false, false, false, false, false, false, false, false, false, false, false, false, false, false, false, false, false, false, false, false, false, false, false, false, false, false, false, false, false, false, false, false, false, false, false]
    [sLit (.string (nm ++ (spF ++ tn))),
    sLit (.string ((nm ++ (spF ++ tn)) ++ spF)),
    sLit (.pointer (some ⟨w.heap.size, 2, none⟩)),
    sLit (.int .i64 rng),
    sLit (.string tr),
    sLit (.string (((nm ++ (spF ++ tn)) ++ spF) ++ tr)),
    sLit (.string ((((nm ++ (spF ++ tn)) ++ spF) ++ tr) ++ spF)),
    sLit (.pointer (some ⟨w.heap.size, 17, none⟩)),
    sLit (.agg #[.int .i64 sp, .int .i64 sl, .int .i64 sw]),
    sLit (.string ss),
    sLit (.string (((((nm ++ (spF ++ tn)) ++ spF) ++ tr) ++ spF) ++ ss))] (by kernel_rfl) (by kernel_rfl) (by kernel_rfl) (fun F hF => ?_)
  simp only [over, overL, Nat.reduceAdd] at hF
  obtain rfl := funext hF
  clear hF
  refine ⟨⟨?_, ?_, ?_, ?_, ?_, ?_, ?_, ?_, ?_, ?_, ?_, trivial⟩, ?_⟩
  · intro V W hb hd K hK _
    clear hd
    go_wp2_with fail
    refine hK _ _ ?_ ?_ ?_ ?_
    · rfl
    · exact Below.refl _ _
    · exact rfl
    · trivial
  · intro V W hb hd K hK _
    have h0 : (V 36) = .string (nm ++ (spF ++ tn)) := hd 0 (by kernel_rfl)
    clear hd
    go_wp2_with fail
    refine hK _ _ ?_ ?_ ?_ ?_
    · rfl
    · exact Below.refl _ _
    · exact rfl
    · trivial
  · intro V W hb hd K hK _
    clear hd
    go_wp2_with fail
    refine hK _ _ ?_ ?_ ?_ ?_
    · rfl
    · exact Below.refl _ _
    · exact rfl
    · trivial
  · intro V W hb hd K hK _
    have h2 : (V 38) = .pointer (some ⟨w.heap.size, 2, none⟩) := hd 2 (by kernel_rfl)
    clear hd
    have s2 := (HC2.out.below hb).get 2 _ rfl
    go_wp2_with fail
    refine hK _ _ ?_ ?_ ?_ ?_
    · rfl
    · exact Below.refl _ _
    · exact rfl
    · trivial
  · intro V W hb hd K hK _
    have h3 : (V 39) = .int .i64 rng := hd 3 (by kernel_rfl)
    clear hd
    go_wp2_with fail
    refine (HTR.out W).mono ?_
    rintro e w1 ⟨rfl, hb1⟩
    go_wp2_with fail
    refine hK _ _ ?_ ?_ ?_ ?_
    · rfl
    · exact hb1
    · exact rfl
    · trivial
  · intro V W hb hd K hK _
    have h1 : (V 37) = .string ((nm ++ (spF ++ tn)) ++ spF) := hd 1 (by kernel_rfl)
    have h4 : (V 40) = .string tr := hd 4 (by kernel_rfl)
    clear hd
    go_wp2_with fail
    refine hK _ _ ?_ ?_ ?_ ?_
    · rfl
    · exact Below.refl _ _
    · exact rfl
    · trivial
  · intro V W hb hd K hK _
    have h5 : (V 41) = .string (((nm ++ (spF ++ tn)) ++ spF) ++ tr) := hd 5 (by kernel_rfl)
    clear hd
    go_wp2_with fail
    refine hK _ _ ?_ ?_ ?_ ?_
    · rfl
    · exact Below.refl _ _
    · exact rfl
    · trivial
  · intro V W hb hd K hK _
    clear hd
    go_wp2_with fail
    refine hK _ _ ?_ ?_ ?_ ?_
    · rfl
    · exact Below.refl _ _
    · exact rfl
    · trivial
  · intro V W hb hd K hK _
    have h7 : (V 43) = .pointer (some ⟨w.heap.size, 17, none⟩) := hd 7 (by kernel_rfl)
    clear hd
    have s17 := (HC2.out.below hb).get 17 _ rfl
    have s18 := (HC2.out.below hb).get 18 _ rfl
    have s19 := (HC2.out.below hb).get 19 _ rfl
    go_wp2_with fail
    refine hK _ _ ?_ ?_ ?_ ?_
    · rfl
    · exact Below.refl _ _
    · exact rfl
    · trivial
  · intro V W hb hd K hK _
    have h8 : (V 44) = .agg #[.int .i64 sp, .int .i64 sl, .int .i64 sw] := hd 8 (by kernel_rfl)
    clear hd
    go_wp2_with fail
    refine (HSS.out W).mono ?_
    rintro e w1 ⟨rfl, hb1⟩
    go_wp2_with fail
    refine hK _ _ ?_ ?_ ?_ ?_
    · rfl
    · exact hb1
    · exact rfl
    · trivial
  · intro V W hb hd K hK _
    have h6 : (V 42) = .string ((((nm ++ (spF ++ tn)) ++ spF) ++ tr) ++ spF) := hd 6 (by kernel_rfl)
    have h9 : (V 45) = .string ss := hd 9 (by kernel_rfl)
    clear hd
    go_wp2_with fail
    refine hK _ _ ?_ ?_ ?_ ?_
    · rfl
    · exact Below.refl _ _
    · exact rfl
    · trivial
  · intro V W hb hd hap
    have h10 : (V 46) = .string (((((nm ++ (spF ++ tn)) ++ spF) ++ tr) ++ spF) ++ ss) := hd 10 (by decide)
    clear hd hap
    simp only [List.drop_succ_cons, List.drop_zero]
    have HBF := Lib.hid (HB2.out.trans (hb.mono HB2.out.size))
    clear hb
    go_wp2_with fail
    go_ret
    exact ⟨rfl, HBF.out⟩

set_option maxRecDepth 100000 in
set_option maxHeartbeats 1000000 in
theorem line_3 (e : Ev) (Q : List Int) (R : List Rw) (w : World) (hT : Tabs w) (hk : e.kind = 3) (hm : Small e.m.1) : Calls Tryz.prog 8 #[vE e] w fun r w' => r = .returned (.string (lineF e Q R)) ∧ Below w.heap.size w w' := by
  have hL : lineF e Q R = line0 e ++ spF ++ textF e.rng ++ spF ++ stampF e.s := by unfold lineF; rw [hk]; rfl
  rw [hL]
  unfold line0
  rw [hk]
  have HT := Lib.hid hT
  have HMM := Lib.hid (fun W (h : Tabs W) => mut_any e.m W h hm)
  have HSS := Lib.hid (fun W => stamp_any e.s W)
  have HNM := Lib.hid (fun W => name_any 3 W)
  have hzm := mutF_size e.m.1 hm
  clear hL hT hm
  obtain ⟨kind, node, rng, op, ⟨⟨mt, mk, mkey, mfin, mval, mexp, ⟨map, mal, maw⟩, movr⟩, mv⟩, ca, cb, cd, ⟨sp, sl, sw⟩, ⟨bp, bl, bw⟩, quar, why, qv, nv, no, table, key, fin, rv, cv⟩ := e
  simp only [] at hk
  subst hk
  unfold vE enE
  unfold vM at HMM
  unfold vS at HSS
  simp only [] at HMM HSS hzm ⊢
  have HTN := Lib.hid (fun W => text_any node W)
  have HTR := Lib.hid (fun W => text_any rng W)
  have HTO := Lib.hid (fun W => text_any op W)
  have z1 := textF_size node
  have z2 := textF_size rng
  have z3 := textF_size op
  have z4 := stampF_size ⟨sp, sl, sw⟩
  have z5 := nameF_size 3
  have z6 : spF.size = 1 := rfl
  have hne : nameF 3 ≠ ⟨#[]⟩ := by intro h; have h2 := congrArg ByteArray.size h; revert h2; decide
  obtain ⟨nm, hnm⟩ : ∃ b, b = nameF 3 := ⟨_, rfl⟩
  rw [← hnm] at HNM z5 hne ⊢
  obtain ⟨tn, htn⟩ : ∃ b, b = textF node := ⟨_, rfl⟩
  rw [← htn] at HTN z1 ⊢
  obtain ⟨tr, htr⟩ : ∃ b, b = textF rng := ⟨_, rfl⟩
  rw [← htr] at HTR z2
  obtain ⟨tq, hto⟩ : ∃ b, b = textF op := ⟨_, rfl⟩
  rw [← hto] at HTO z3
  obtain ⟨ss, hss⟩ : ∃ b, b = stampF ⟨sp, sl, sw⟩ := ⟨_, rfl⟩
  rw [← hss] at HSS z4
  obtain ⟨mm, hmm⟩ : ∃ b, b = mutF ⟨mt, mk, mkey, mfin, mval, mexp, ⟨map, mal, maw⟩, movr⟩ := ⟨_, rfl⟩
  rw [← hmm] at HMM hzm
  try rw [← htr]
  try rw [← hto]
  try rw [← hss]
  try rw [← hmm]
  have HNE := Lib.hid hne
  clear hnm htn htr hto hss hmm hne
  have k0 : (spF ++ tn).size ≤ 21 := by rw [ByteArray.size_append]; omega
  have k1 : (nm ++ (spF ++ tn)).size ≤ 31 := by rw [ByteArray.size_append]; omega
  have k2 : (nm ++ (spF ++ tn) ++ spF).size ≤ 32 := by rw [ByteArray.size_append]; omega
  have k3 : (nm ++ (spF ++ tn) ++ spF ++ tr).size ≤ 52 := by rw [ByteArray.size_append]; omega
  have k4 : (nm ++ (spF ++ tn) ++ spF ++ tr ++ spF).size ≤ 53 := by rw [ByteArray.size_append]; omega
  obtain ⟨W0, hW0⟩ : ∃ W0, W0 = w.alloc (.cells #[.int .i64 3, .int .i64 node, .int .i64 rng, .int .i64 op, .int .i64 mt, .int .i64 mk, .string mkey, .string mfin, .string mval, .int .i64 mexp, .int .i64 map, .int .i64 mal, .int .i64 maw, mv, ca, cb, cd, .int .i64 sp, .int .i64 sl, .int .i64 sw, .int .i64 bp, .int .i64 bl, .int .i64 bw, .bool quar, .int .i64 why, qv, nv, .int .i64 no, .int .i64 table, .string key, .string fin, rv, cv] 39) := ⟨_, rfl⟩
  have HC := Lib.hid (show CellsAt W0 w.heap.size [.int .i64 3, .int .i64 node, .int .i64 rng, .int .i64 op, .int .i64 mt, .int .i64 mk, .string mkey, .string mfin, .string mval, .int .i64 mexp, .int .i64 map, .int .i64 mal, .int .i64 maw, mv, ca, cb, cd, .int .i64 sp, .int .i64 sl, .int .i64 sw, .int .i64 bp, .int .i64 bl, .int .i64 bw, .bool quar, .int .i64 why, qv, nv, .int .i64 no, .int .i64 table, .string key, .string fin, rv, cv] from by rw [hW0]; exact CellsAt.new w [.int .i64 3, .int .i64 node, .int .i64 rng, .int .i64 op, .int .i64 mt, .int .i64 mk, .string mkey, .string mfin, .string mval, .int .i64 mexp, .int .i64 map, .int .i64 mal, .int .i64 maw, mv, ca, cb, cd, .int .i64 sp, .int .i64 sl, .int .i64 sw, .int .i64 bp, .int .i64 bl, .int .i64 bw, .bool quar, .int .i64 why, qv, nv, .int .i64 no, .int .i64 table, .string key, .string fin, rv, cv] 39)
  have HB0 := Lib.hid (show Below w.heap.size w W0 by rw [hW0]; exact (Below.refl _ w).alloc (Nat.le_refl _) _)
  have HW := Lib.hid hW0
  clear hW0
  have heq : nm.toList.isEmpty = false := by rw [← decide_eq_emptyBytes]; exact decide_eq_false HNE.out
  go_enter Tryz.func8, Tryz.ntmps8
  go_upto_region 1 with fail
  rw [← HW.out]
  have s0 := HC.out.get 0 _ rfl
  go_wp2_with fail
  refine (HNM.out W0).mono ?_
  rintro e w1 ⟨rfl, hb1⟩
  have HC1 := Lib.hid (HC.out.below hb1)
  have HB1 := Lib.hid (below_then HB0.out (Nat.le_refl _) hb1)
  clear hb1 s0
  have s1 := HC1.out.get 1 _ rfl
  go_wp2_with fail
  refine (HTN.out w1).mono ?_
  rintro e w2 ⟨rfl, hb2⟩
  have HC2 := Lib.hid (HC1.out.below hb2)
  have HB2 := Lib.hid (below_then HB1.out (Nat.le_refl _) hb2)
  clear hb2 s1
  have s0 := HC2.out.get 0 _ rfl
  go_upto_region 11 with fail
  refine wp_region_told [] 11 [false, false, false, false, false, false, false, false, false, false, false, false, false, false, false, false, false, false, false, false, false, false, false, false, false, false, false, false, false, false, false, false, false, false, false, false, true, true, true, true, true, true, true, true, true, true, true, false, false, false, false, false, false, false, false, false, false, false, false, false, false, false, false, false, false, false, false, false, false, false, false, false, false, false, false, false, false, false, false, false, false, false, false, false, false, false, false, false, false, false, false, false, false, false, false, false, false, false, false, false, false, false, false, false, false, false, false, false, false, false, false, false, false, false, false, false, false, false, false, false]
    [sLit (.string (nm ++ (spF ++ tn))),
    sLit (.string ((nm ++ (spF ++ tn)) ++ spF)),
    sLit (.pointer (some ⟨w.heap.size, 2, none⟩)),
    sLit (.int .i64 rng),
    sLit (.string tr),
    sLit (.string (((nm ++ (spF ++ tn)) ++ spF) ++ tr)),
    sLit (.string ((((nm ++ (spF ++ tn)) ++ spF) ++ tr) ++ spF)),
    sLit (.pointer (some ⟨w.heap.size, 17, none⟩)),
    sLit (.agg #[.int .i64 sp, .int .i64 sl, .int .i64 sw]),
    sLit (.string ss),
    sLit (.string (((((nm ++ (spF ++ tn)) ++ spF) ++ tr) ++ spF) ++ ss))] (by kernel_rfl) (by kernel_rfl) (by kernel_rfl) (fun F hF => ?_)
  simp only [over, overL, Nat.reduceAdd] at hF
  obtain rfl := funext hF
  clear hF
  refine ⟨⟨?_, ?_, ?_, ?_, ?_, ?_, ?_, ?_, ?_, ?_, ?_, trivial⟩, ?_⟩
  · intro V W hb hd K hK _
    clear hd
    go_wp2_with fail
    refine hK _ _ ?_ ?_ ?_ ?_
    · rfl
    · exact Below.refl _ _
    · exact rfl
    · trivial
  · intro V W hb hd K hK _
    have h0 : (V 36) = .string (nm ++ (spF ++ tn)) := hd 0 (by kernel_rfl)
    clear hd
    go_wp2_with fail
    refine hK _ _ ?_ ?_ ?_ ?_
    · rfl
    · exact Below.refl _ _
    · exact rfl
    · trivial
  · intro V W hb hd K hK _
    clear hd
    go_wp2_with fail
    refine hK _ _ ?_ ?_ ?_ ?_
    · rfl
    · exact Below.refl _ _
    · exact rfl
    · trivial
  · intro V W hb hd K hK _
    have h2 : (V 38) = .pointer (some ⟨w.heap.size, 2, none⟩) := hd 2 (by kernel_rfl)
    clear hd
    have s2 := (HC2.out.below hb).get 2 _ rfl
    go_wp2_with fail
    refine hK _ _ ?_ ?_ ?_ ?_
    · rfl
    · exact Below.refl _ _
    · exact rfl
    · trivial
  · intro V W hb hd K hK _
    have h3 : (V 39) = .int .i64 rng := hd 3 (by kernel_rfl)
    clear hd
    go_wp2_with fail
    refine (HTR.out W).mono ?_
    rintro e w1 ⟨rfl, hb1⟩
    go_wp2_with fail
    refine hK _ _ ?_ ?_ ?_ ?_
    · rfl
    · exact hb1
    · exact rfl
    · trivial
  · intro V W hb hd K hK _
    have h1 : (V 37) = .string ((nm ++ (spF ++ tn)) ++ spF) := hd 1 (by kernel_rfl)
    have h4 : (V 40) = .string tr := hd 4 (by kernel_rfl)
    clear hd
    go_wp2_with fail
    refine hK _ _ ?_ ?_ ?_ ?_
    · rfl
    · exact Below.refl _ _
    · exact rfl
    · trivial
  · intro V W hb hd K hK _
    have h5 : (V 41) = .string (((nm ++ (spF ++ tn)) ++ spF) ++ tr) := hd 5 (by kernel_rfl)
    clear hd
    go_wp2_with fail
    refine hK _ _ ?_ ?_ ?_ ?_
    · rfl
    · exact Below.refl _ _
    · exact rfl
    · trivial
  · intro V W hb hd K hK _
    clear hd
    go_wp2_with fail
    refine hK _ _ ?_ ?_ ?_ ?_
    · rfl
    · exact Below.refl _ _
    · exact rfl
    · trivial
  · intro V W hb hd K hK _
    have h7 : (V 43) = .pointer (some ⟨w.heap.size, 17, none⟩) := hd 7 (by kernel_rfl)
    clear hd
    have s17 := (HC2.out.below hb).get 17 _ rfl
    have s18 := (HC2.out.below hb).get 18 _ rfl
    have s19 := (HC2.out.below hb).get 19 _ rfl
    go_wp2_with fail
    refine hK _ _ ?_ ?_ ?_ ?_
    · rfl
    · exact Below.refl _ _
    · exact rfl
    · trivial
  · intro V W hb hd K hK _
    have h8 : (V 44) = .agg #[.int .i64 sp, .int .i64 sl, .int .i64 sw] := hd 8 (by kernel_rfl)
    clear hd
    go_wp2_with fail
    refine (HSS.out W).mono ?_
    rintro e w1 ⟨rfl, hb1⟩
    go_wp2_with fail
    refine hK _ _ ?_ ?_ ?_ ?_
    · rfl
    · exact hb1
    · exact rfl
    · trivial
  · intro V W hb hd K hK _
    have h6 : (V 42) = .string ((((nm ++ (spF ++ tn)) ++ spF) ++ tr) ++ spF) := hd 6 (by kernel_rfl)
    have h9 : (V 45) = .string ss := hd 9 (by kernel_rfl)
    clear hd
    go_wp2_with fail
    refine hK _ _ ?_ ?_ ?_ ?_
    · rfl
    · exact Below.refl _ _
    · exact rfl
    · trivial
  · intro V W hb hd hap
    have h10 : (V 46) = .string (((((nm ++ (spF ++ tn)) ++ spF) ++ tr) ++ spF) ++ ss) := hd 10 (by decide)
    clear hd hap
    simp only [List.drop_succ_cons, List.drop_zero]
    have HBF := Lib.hid (HB2.out.trans (hb.mono HB2.out.size))
    clear hb
    go_wp2_with fail
    go_ret
    exact ⟨rfl, HBF.out⟩

set_option maxRecDepth 100000 in
set_option maxHeartbeats 1000000 in
theorem line_10 (e : Ev) (Q : List Int) (R : List Rw) (w : World) (hT : Tabs w) (hk : e.kind = 10) (hm : Small e.m.1) : Calls Tryz.prog 8 #[vE e] w fun r w' => r = .returned (.string (lineF e Q R)) ∧ Below w.heap.size w w' := by
  have hL : lineF e Q R = line0 e ++ spF ++ textF e.rng ++ spF ++ textF e.op := by unfold lineF; rw [hk]; rfl
  rw [hL]
  unfold line0
  rw [hk]
  have HT := Lib.hid hT
  have HMM := Lib.hid (fun W (h : Tabs W) => mut_any e.m W h hm)
  have HSS := Lib.hid (fun W => stamp_any e.s W)
  have HNM := Lib.hid (fun W => name_any 10 W)
  have hzm := mutF_size e.m.1 hm
  clear hL hT hm
  obtain ⟨kind, node, rng, op, ⟨⟨mt, mk, mkey, mfin, mval, mexp, ⟨map, mal, maw⟩, movr⟩, mv⟩, ca, cb, cd, ⟨sp, sl, sw⟩, ⟨bp, bl, bw⟩, quar, why, qv, nv, no, table, key, fin, rv, cv⟩ := e
  simp only [] at hk
  subst hk
  unfold vE enE
  unfold vM at HMM
  unfold vS at HSS
  simp only [] at HMM HSS hzm ⊢
  have HTN := Lib.hid (fun W => text_any node W)
  have HTR := Lib.hid (fun W => text_any rng W)
  have HTO := Lib.hid (fun W => text_any op W)
  have z1 := textF_size node
  have z2 := textF_size rng
  have z3 := textF_size op
  have z4 := stampF_size ⟨sp, sl, sw⟩
  have z5 := nameF_size 10
  have z6 : spF.size = 1 := rfl
  have hne : nameF 10 ≠ ⟨#[]⟩ := by intro h; have h2 := congrArg ByteArray.size h; revert h2; decide
  obtain ⟨nm, hnm⟩ : ∃ b, b = nameF 10 := ⟨_, rfl⟩
  rw [← hnm] at HNM z5 hne ⊢
  obtain ⟨tn, htn⟩ : ∃ b, b = textF node := ⟨_, rfl⟩
  rw [← htn] at HTN z1 ⊢
  obtain ⟨tr, htr⟩ : ∃ b, b = textF rng := ⟨_, rfl⟩
  rw [← htr] at HTR z2
  obtain ⟨tq, hto⟩ : ∃ b, b = textF op := ⟨_, rfl⟩
  rw [← hto] at HTO z3
  obtain ⟨ss, hss⟩ : ∃ b, b = stampF ⟨sp, sl, sw⟩ := ⟨_, rfl⟩
  rw [← hss] at HSS z4
  obtain ⟨mm, hmm⟩ : ∃ b, b = mutF ⟨mt, mk, mkey, mfin, mval, mexp, ⟨map, mal, maw⟩, movr⟩ := ⟨_, rfl⟩
  rw [← hmm] at HMM hzm
  try rw [← htr]
  try rw [← hto]
  try rw [← hss]
  try rw [← hmm]
  have HNE := Lib.hid hne
  clear hnm htn htr hto hss hmm hne
  have k0 : (spF ++ tn).size ≤ 21 := by rw [ByteArray.size_append]; omega
  have k1 : (nm ++ (spF ++ tn)).size ≤ 31 := by rw [ByteArray.size_append]; omega
  have k2 : (nm ++ (spF ++ tn) ++ spF).size ≤ 32 := by rw [ByteArray.size_append]; omega
  have k3 : (nm ++ (spF ++ tn) ++ spF ++ tr).size ≤ 52 := by rw [ByteArray.size_append]; omega
  have k4 : (nm ++ (spF ++ tn) ++ spF ++ tr ++ spF).size ≤ 53 := by rw [ByteArray.size_append]; omega
  obtain ⟨W0, hW0⟩ : ∃ W0, W0 = w.alloc (.cells #[.int .i64 10, .int .i64 node, .int .i64 rng, .int .i64 op, .int .i64 mt, .int .i64 mk, .string mkey, .string mfin, .string mval, .int .i64 mexp, .int .i64 map, .int .i64 mal, .int .i64 maw, mv, ca, cb, cd, .int .i64 sp, .int .i64 sl, .int .i64 sw, .int .i64 bp, .int .i64 bl, .int .i64 bw, .bool quar, .int .i64 why, qv, nv, .int .i64 no, .int .i64 table, .string key, .string fin, rv, cv] 39) := ⟨_, rfl⟩
  have HC := Lib.hid (show CellsAt W0 w.heap.size [.int .i64 10, .int .i64 node, .int .i64 rng, .int .i64 op, .int .i64 mt, .int .i64 mk, .string mkey, .string mfin, .string mval, .int .i64 mexp, .int .i64 map, .int .i64 mal, .int .i64 maw, mv, ca, cb, cd, .int .i64 sp, .int .i64 sl, .int .i64 sw, .int .i64 bp, .int .i64 bl, .int .i64 bw, .bool quar, .int .i64 why, qv, nv, .int .i64 no, .int .i64 table, .string key, .string fin, rv, cv] from by rw [hW0]; exact CellsAt.new w [.int .i64 10, .int .i64 node, .int .i64 rng, .int .i64 op, .int .i64 mt, .int .i64 mk, .string mkey, .string mfin, .string mval, .int .i64 mexp, .int .i64 map, .int .i64 mal, .int .i64 maw, mv, ca, cb, cd, .int .i64 sp, .int .i64 sl, .int .i64 sw, .int .i64 bp, .int .i64 bl, .int .i64 bw, .bool quar, .int .i64 why, qv, nv, .int .i64 no, .int .i64 table, .string key, .string fin, rv, cv] 39)
  have HB0 := Lib.hid (show Below w.heap.size w W0 by rw [hW0]; exact (Below.refl _ w).alloc (Nat.le_refl _) _)
  have HW := Lib.hid hW0
  clear hW0
  have heq : nm.toList.isEmpty = false := by rw [← decide_eq_emptyBytes]; exact decide_eq_false HNE.out
  go_enter Tryz.func8, Tryz.ntmps8
  go_upto_region 1 with fail
  rw [← HW.out]
  have s0 := HC.out.get 0 _ rfl
  go_wp2_with fail
  refine (HNM.out W0).mono ?_
  rintro e w1 ⟨rfl, hb1⟩
  have HC1 := Lib.hid (HC.out.below hb1)
  have HB1 := Lib.hid (below_then HB0.out (Nat.le_refl _) hb1)
  clear hb1 s0
  have s1 := HC1.out.get 1 _ rfl
  go_wp2_with fail
  refine (HTN.out w1).mono ?_
  rintro e w2 ⟨rfl, hb2⟩
  have HC2 := Lib.hid (HC1.out.below hb2)
  have HB2 := Lib.hid (below_then HB1.out (Nat.le_refl _) hb2)
  clear hb2 s1
  have s0 := HC2.out.get 0 _ rfl
  go_upto_region 17 with fail
  refine wp_region_told [] 11 [false, false, false, false, false, false, false, false, false, false, false, false, false, false, false, false, false, false, false, false, false, false, false, false, false, false, false, false, false, false, false, false, false, false, false, false, false, false, false, false, false, false, false, false, false, false, false, false, false, false, false, false, false, false, false, false, false, false, false, true, true, true, true, true, true, true, true, true, true, true, false, false, false, false, false, false, false, false, false, false, false, false, false, false, false, false, false, false, false, false, false, false, false, false, false, false, false, false, false, false, false, false, false, false, false, false, false, false, false, false, false, false, false, false, false, false, false, false, false, false]
    [sLit (.string (nm ++ (spF ++ tn))),
    sLit (.string ((nm ++ (spF ++ tn)) ++ spF)),
    sLit (.pointer (some ⟨w.heap.size, 2, none⟩)),
    sLit (.int .i64 rng),
    sLit (.string tr),
    sLit (.string (((nm ++ (spF ++ tn)) ++ spF) ++ tr)),
    sLit (.string ((((nm ++ (spF ++ tn)) ++ spF) ++ tr) ++ spF)),
    sLit (.pointer (some ⟨w.heap.size, 3, none⟩)),
    sLit (.int .i64 op),
    sLit (.string tq),
    sLit (.string (((((nm ++ (spF ++ tn)) ++ spF) ++ tr) ++ spF) ++ tq))] (by kernel_rfl) (by kernel_rfl) (by kernel_rfl) (fun F hF => ?_)
  simp only [over, overL, Nat.reduceAdd] at hF
  obtain rfl := funext hF
  clear hF
  refine ⟨⟨?_, ?_, ?_, ?_, ?_, ?_, ?_, ?_, ?_, ?_, ?_, trivial⟩, ?_⟩
  · intro V W hb hd K hK _
    clear hd
    go_wp2_with fail
    refine hK _ _ ?_ ?_ ?_ ?_
    · rfl
    · exact Below.refl _ _
    · exact rfl
    · trivial
  · intro V W hb hd K hK _
    have h0 : (V 59) = .string (nm ++ (spF ++ tn)) := hd 0 (by kernel_rfl)
    clear hd
    go_wp2_with fail
    refine hK _ _ ?_ ?_ ?_ ?_
    · rfl
    · exact Below.refl _ _
    · exact rfl
    · trivial
  · intro V W hb hd K hK _
    clear hd
    go_wp2_with fail
    refine hK _ _ ?_ ?_ ?_ ?_
    · rfl
    · exact Below.refl _ _
    · exact rfl
    · trivial
  · intro V W hb hd K hK _
    have h2 : (V 61) = .pointer (some ⟨w.heap.size, 2, none⟩) := hd 2 (by kernel_rfl)
    clear hd
    have s2 := (HC2.out.below hb).get 2 _ rfl
    go_wp2_with fail
    refine hK _ _ ?_ ?_ ?_ ?_
    · rfl
    · exact Below.refl _ _
    · exact rfl
    · trivial
  · intro V W hb hd K hK _
    have h3 : (V 62) = .int .i64 rng := hd 3 (by kernel_rfl)
    clear hd
    go_wp2_with fail
    refine (HTR.out W).mono ?_
    rintro e w1 ⟨rfl, hb1⟩
    go_wp2_with fail
    refine hK _ _ ?_ ?_ ?_ ?_
    · rfl
    · exact hb1
    · exact rfl
    · trivial
  · intro V W hb hd K hK _
    have h1 : (V 60) = .string ((nm ++ (spF ++ tn)) ++ spF) := hd 1 (by kernel_rfl)
    have h4 : (V 63) = .string tr := hd 4 (by kernel_rfl)
    clear hd
    go_wp2_with fail
    refine hK _ _ ?_ ?_ ?_ ?_
    · rfl
    · exact Below.refl _ _
    · exact rfl
    · trivial
  · intro V W hb hd K hK _
    have h5 : (V 64) = .string (((nm ++ (spF ++ tn)) ++ spF) ++ tr) := hd 5 (by kernel_rfl)
    clear hd
    go_wp2_with fail
    refine hK _ _ ?_ ?_ ?_ ?_
    · rfl
    · exact Below.refl _ _
    · exact rfl
    · trivial
  · intro V W hb hd K hK _
    clear hd
    go_wp2_with fail
    refine hK _ _ ?_ ?_ ?_ ?_
    · rfl
    · exact Below.refl _ _
    · exact rfl
    · trivial
  · intro V W hb hd K hK _
    have h7 : (V 66) = .pointer (some ⟨w.heap.size, 3, none⟩) := hd 7 (by kernel_rfl)
    clear hd
    have s3 := (HC2.out.below hb).get 3 _ rfl
    go_wp2_with fail
    refine hK _ _ ?_ ?_ ?_ ?_
    · rfl
    · exact Below.refl _ _
    · exact rfl
    · trivial
  · intro V W hb hd K hK _
    have h8 : (V 67) = .int .i64 op := hd 8 (by kernel_rfl)
    clear hd
    go_wp2_with fail
    refine (HTO.out W).mono ?_
    rintro e w1 ⟨rfl, hb1⟩
    go_wp2_with fail
    refine hK _ _ ?_ ?_ ?_ ?_
    · rfl
    · exact hb1
    · exact rfl
    · trivial
  · intro V W hb hd K hK _
    have h6 : (V 65) = .string ((((nm ++ (spF ++ tn)) ++ spF) ++ tr) ++ spF) := hd 6 (by kernel_rfl)
    have h9 : (V 68) = .string tq := hd 9 (by kernel_rfl)
    clear hd
    go_wp2_with fail
    refine hK _ _ ?_ ?_ ?_ ?_
    · rfl
    · exact Below.refl _ _
    · exact rfl
    · trivial
  · intro V W hb hd hap
    have h10 : (V 69) = .string (((((nm ++ (spF ++ tn)) ++ spF) ++ tr) ++ spF) ++ tq) := hd 10 (by decide)
    clear hd hap
    simp only [List.drop_succ_cons, List.drop_zero]
    have HBF := Lib.hid (HB2.out.trans (hb.mono HB2.out.size))
    clear hb
    go_wp2_with fail
    go_ret
    exact ⟨rfl, HBF.out⟩

set_option maxRecDepth 100000 in
set_option maxHeartbeats 1000000 in
theorem line_none (e : Ev) (Q : List Int) (R : List Rw) (w : World) (hk : ∀ i : Int, 1 ≤ i → i ≤ 11 → e.kind ≠ i) : Calls Tryz.prog 8 #[vE e] w fun r w' => r = .returned (.string (lineF e Q R)) ∧ Below w.heap.size w w' := by
  have hn : ∀ i : Int, 1 ≤ i → i ≤ 11 → ¬ e.kind = i := hk
  have hL : lineF e Q R = ⟨#[]⟩ := by
    unfold lineF
    rw [if_neg (hn 1 (by decide) (by decide)), if_neg (hn 2 (by decide) (by decide)), if_neg (hn 3 (by decide) (by decide)), if_neg (hn 4 (by decide) (by decide)), if_neg (hn 5 (by decide) (by decide)), if_neg (hn 6 (by decide) (by decide)), if_neg (hn 7 (by decide) (by decide)), if_neg (hn 8 (by decide) (by decide)), if_neg (hn 9 (by decide) (by decide)), if_neg (hn 10 (by decide) (by decide)), if_neg (hn 11 (by decide) (by decide))]
  have hN : nameF e.kind = ⟨#[]⟩ := by
    unfold nameF
    rw [if_neg (hn 1 (by decide) (by decide)), if_neg (hn 2 (by decide) (by decide)), if_neg (hn 3 (by decide) (by decide)), if_neg (hn 4 (by decide) (by decide)), if_neg (hn 5 (by decide) (by decide)), if_neg (hn 6 (by decide) (by decide)), if_neg (hn 7 (by decide) (by decide)), if_neg (hn 8 (by decide) (by decide)), if_neg (hn 9 (by decide) (by decide)), if_neg (hn 10 (by decide) (by decide)), if_neg (hn 11 (by decide) (by decide))]
    rfl
  have hnm := fun W => name_any e.kind W
  rw [hN] at hnm
  rw [hL]
  have HNM := Lib.hid hnm
  clear hL hN hnm hn hk
  obtain ⟨kind, node, rng, op, ⟨⟨mt, mk, mkey, mfin, mval, mexp, ⟨map, mal, maw⟩, movr⟩, mv⟩, ca, cb, cd, ⟨sp, sl, sw⟩, ⟨bp, bl, bw⟩, quar, why, qv, nv, no, table, key, fin, rv, cv⟩ := e
  unfold vE enE
  simp only [] at HNM ⊢
  obtain ⟨W0, hW0⟩ : ∃ W0, W0 = w.alloc (.cells #[.int .i64 kind, .int .i64 node, .int .i64 rng, .int .i64 op, .int .i64 mt, .int .i64 mk, .string mkey, .string mfin, .string mval, .int .i64 mexp, .int .i64 map, .int .i64 mal, .int .i64 maw, mv, ca, cb, cd, .int .i64 sp, .int .i64 sl, .int .i64 sw, .int .i64 bp, .int .i64 bl, .int .i64 bw, .bool quar, .int .i64 why, qv, nv, .int .i64 no, .int .i64 table, .string key, .string fin, rv, cv] 39) := ⟨_, rfl⟩
  have HC := Lib.hid (show CellsAt W0 w.heap.size [.int .i64 kind, .int .i64 node, .int .i64 rng, .int .i64 op, .int .i64 mt, .int .i64 mk, .string mkey, .string mfin, .string mval, .int .i64 mexp, .int .i64 map, .int .i64 mal, .int .i64 maw, mv, ca, cb, cd, .int .i64 sp, .int .i64 sl, .int .i64 sw, .int .i64 bp, .int .i64 bl, .int .i64 bw, .bool quar, .int .i64 why, qv, nv, .int .i64 no, .int .i64 table, .string key, .string fin, rv, cv] from by rw [hW0]; exact CellsAt.new w [.int .i64 kind, .int .i64 node, .int .i64 rng, .int .i64 op, .int .i64 mt, .int .i64 mk, .string mkey, .string mfin, .string mval, .int .i64 mexp, .int .i64 map, .int .i64 mal, .int .i64 maw, mv, ca, cb, cd, .int .i64 sp, .int .i64 sl, .int .i64 sw, .int .i64 bp, .int .i64 bl, .int .i64 bw, .bool quar, .int .i64 why, qv, nv, .int .i64 no, .int .i64 table, .string key, .string fin, rv, cv] 39)
  have HB0 := Lib.hid (show Below w.heap.size w W0 by rw [hW0]; exact (Below.refl _ w).alloc (Nat.le_refl _) _)
  have HW := Lib.hid hW0
  clear hW0
  go_enter Tryz.func8, Tryz.ntmps8
  go_upto_region 1 with fail
  rw [← HW.out]
  have s0 := HC.out.get 0 _ rfl
  go_wp2_with fail
  refine (HNM.out W0).mono ?_
  rintro e w1 ⟨rfl, hb1⟩
  have HB1 := Lib.hid (below_then HB0.out (Nat.le_refl _) hb1)
  clear hb1 s0
  go_wp2_with fail
  go_ret
  exact ⟨rfl, HB1.out⟩
end Go.Proofs.YtljlbkichcjlfaaGreatDoor.Trc
