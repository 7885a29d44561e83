/- Mutations in plain Lean (layers 4, 7, 8): stamps, mutations, their orders; contents; what a content says of all mutations that came. -/
import Derived.Test.YtmjelcjdfamikaaGreatDoorOrd
set_option linter.unusedSimpArgs false
set_option linter.unusedVariables false
namespace Go.Proofs.YtmjelcjdfamikaaGreatDoor.Mut
open Go.Proofs.YtmjelcjdfamikaaGreatDoor.Ord

structure Stp where
  p : Int
  l : Int
  w : Int
def stC (a b : Stp) : Int := orL [cmpI a.p b.p, cmpI a.l b.l, cmpI a.w b.w]
theorem stO : Tot stC := by
  have h := (Tot.int.lexed (Tot.int.lexed Tot.int)).pull (fun s : Stp => (s.p, s.l, s.w)) (fun a b e => by
    cases a; cases b; simp at e; obtain ⟨rfl, rfl, rfl⟩ := e; rfl)
  have e : (fun a b : Stp => Tot.lex cmpI (Tot.lex cmpI cmpI) (a.p, a.l, a.w) (b.p, b.l, b.w)) = stC := by
    funext a b
    unfold Tot.lex stC orL orL orL orL
    simp only []
    repeat' split
    all_goals first | rfl | omega
  rw [e] at h
  exact h

structure Mu where
  table : Int
  kind : Int
  key : ByteArray
  fin : ByteArray
  val : ByteArray
  expiry : Int
  at_ : Stp
  over : List Stp
/-- The order of mutations. -/
def muC (a b : Mu) : Int := orL [stC a.at_ b.at_, cmpI a.table b.table, cmpI a.kind b.kind, cmpS a.key b.key, cmpS a.fin b.fin, cmpS a.val b.val, cmpI a.expiry b.expiry, rowC stC a.over b.over]
theorem muO : Tot muC := by
  have h := (stO.lexed (Tot.int.lexed (Tot.int.lexed (Tot.str.lexed (Tot.str.lexed (Tot.str.lexed (Tot.int.lexed stO.row))))))).pull (fun s : Mu => (s.at_, s.table, s.kind, s.key, s.fin, s.val, s.expiry, s.over)) (fun a b e => by
    cases a; cases b; simp at e; obtain ⟨rfl, rfl, rfl, rfl, rfl, rfl, rfl, rfl⟩ := e; rfl)
  have e : (fun a b : Mu => Tot.lex stC (Tot.lex cmpI (Tot.lex cmpI (Tot.lex cmpS (Tot.lex cmpS (Tot.lex cmpS (Tot.lex cmpI (rowC stC))))))) (a.at_, a.table, a.kind, a.key, a.fin, a.val, a.expiry, a.over) (b.at_, b.table, b.kind, b.key, b.fin, b.val, b.expiry, b.over)) = muC := by
    funext a b
    unfold muC Tot.lex
    simp only [orL]
    repeat' split
    all_goals first | rfl | omega
  rw [e] at h
  exact h
theorem muC_at {a b : Mu} (h : muC a b ≤ 0) : stC a.at_ b.at_ ≤ 0 := by
  unfold muC orL at h
  split at h <;> omega
/-- The order of those of causal tables. -/
def sibC (a b : Mu) : Int := orL [cmpS a.key b.key, muC a b]
theorem sibO : Tot sibC := by
  have h := (Tot.str.lexed muO).pull (fun s : Mu => (s.key, s)) (fun a b e => (Prod.mk.inj e).2)
  have e : (fun a b : Mu => Tot.lex cmpS muC (a.key, a) (b.key, b)) = sibC := by
    funext a b
    unfold sibC Tot.lex
    simp only [orL]
    repeat' split
    all_goals first | rfl | omega
  rw [e] at h
  exact h

/-- Texts: is one up to another one? -/
def leS (a b : ByteArray) : Prop := cmpS a b ≤ 0
def covers (w : Mu) (key : ByteArray) : Prop := w.kind = 3 ∧ cmpS w.key key ≤ 0 ∧ cmpS key w.fin < 0
def within (big small : Mu) : Prop := cmpS big.key small.key ≤ 0 ∧ cmpS small.fin big.fin ≤ 0 ∧ ¬ stC big.at_ small.at_ < 0
def hits (w : Mu) (key : ByteArray) (s : Stp) : Prop := covers w key ∧ stC s w.at_ < 0
def isW (m : Mu) : Prop := ¬ m.table = 2 ∧ m.kind = 3
def isC (m : Mu) : Prop := ¬ m.table = 2 ∧ ¬ m.kind = 3
def isS (m : Mu) : Prop := m.table = 2

theorem within_trans {a b d : Mu} (h1 : within a b) (h2 : within b d) : within a d :=
  ⟨Tot.str.le_le h1.1 h2.1, Tot.str.le_le h2.2.1 h1.2.1, fun h => h2.2.2 (by
    have := stO.le_of.1 h1.2.2
    exact stO.le_lt this h)⟩
theorem hits_within {a b : Mu} {key : ByteArray} {s : Stp} (ha : a.kind = 3) (h1 : within a b) (h2 : hits b key s) : hits a key s :=
  ⟨⟨ha, Tot.str.le_le h1.1 h2.1.2.1, Tot.str.lt_le h2.1.2.2 h1.2.1⟩, stO.lt_le h2.2 (stO.le_of.1 h1.2.2)⟩
theorem hits_early {w : Mu} {key : ByteArray} {s t : Stp} (h : hits w key t) (hs : stC s t ≤ 0) : hits w key s := ⟨h.1, stO.le_lt hs h.2⟩

/-- What a mutation that may be is, if it is a wipe. -/
structure Fit (m : Mu) : Prop where
  table : m.table = 1 ∨ m.table = 2
  wipe : m.kind = 3 → m.table = 1 ∧ m.val = ByteArray.empty ∧ m.expiry = 0 ∧ m.over = []
theorem within_anti {a b : Mu} (ha : Fit a) (hb : Fit b) (wa : isW a) (wb : isW b) (h1 : within a b) (h2 : within b a) : a = b := by
  obtain ⟨a1, a2, a3, a4⟩ := ha.wipe wa.2
  obtain ⟨b1, b2, b3, b4⟩ := hb.wipe wb.2
  have e1 := Tot.str.anti h1.1 h2.1
  have e2 := Tot.str.anti h1.2.1 h2.2.1
  have e3 := stO.anti (stO.le_of.1 h1.2.2) (stO.le_of.1 h2.2.2)
  have k1 := wa.2
  have k2 := wb.2
  cases a; cases b
  simp only at *
  subst a1 a2 a3 a4 b1 b2 b3 b4 e1 e2 e3 k1 k2
  rfl

structure Con where
  cells : List Mu
  wipes : List Mu
  sibs : List Mu
def Con.all (c : Con) : List Mu := c.cells ++ (c.wipes ++ c.sibs)
def keyC (a b : Mu) : Int := cmpS a.key b.key

/-- The content says what is left of these mutations. -/
structure Reps (S : Mu → Prop) (c : Con) : Prop where
  fit : ∀ m, S m → Fit m
  cells : ∀ m ∈ c.cells, S m ∧ isC m
  wipes : ∀ m ∈ c.wipes, S m ∧ isW m
  sibs : ∀ m, m ∈ c.sibs ↔ S m ∧ isS m
  rc : Rises keyC c.cells
  rw_ : Rises muC c.wipes
  rs : Rises sibC c.sibs
  free : ∀ m ∈ c.cells, ∀ w ∈ c.wipes, ¬ hits w m.key m.at_
  alone : ∀ x ∈ c.wipes, ∀ y ∈ c.wipes, within x y → x = y
  domW : ∀ x, S x → isW x → ∃ y ∈ c.wipes, within y x
  domC : ∀ x, S x → isC x → (∃ y ∈ c.cells, y.key = x.key ∧ muC x y ≤ 0) ∨ ∃ w ∈ c.wipes, hits w x.key x.at_

theorem keys_one {l : List Mu} (h : Rises keyC l) {a b : Mu} (ha : a ∈ l) (hb : b ∈ l) (e : a.key = b.key) : a = b := by
  unfold Rises at h
  induction l with
  | nil => cases ha
  | cons x l ih =>
    obtain ⟨hx, hl⟩ := List.pairwise_cons.1 h
    rcases List.mem_cons.1 ha with rfl | ha' <;> rcases List.mem_cons.1 hb with rfl | hb'
    · rfl
    · have := hx b hb'; unfold keyC at this; rw [e] at this; exact absurd this (Tot.str.irrefl _)
    · have := hx a ha'; unfold keyC at this; rw [← e] at this; exact absurd this (Tot.str.irrefl _)
    · exact ih hl ha' hb'

theorem Reps.unique {S : Mu → Prop} {c d : Con} (hc : Reps S c) (hd : Reps S d) : c = d := by
  have wip : ∀ {c d : Con}, Reps S c → Reps S d → ∀ w ∈ c.wipes, w ∈ d.wipes := by
    intro c d hc hd w hw
    obtain ⟨sw, ww⟩ := hc.wipes w hw
    obtain ⟨y, hy, h1⟩ := hd.domW w sw ww
    obtain ⟨sy, wy⟩ := hd.wipes y hy
    obtain ⟨z, hz, h2⟩ := hc.domW y sy wy
    obtain rfl := hc.alone z hz w hw (within_trans h2 h1)
    rw [within_anti (hc.fit _ sw) (hc.fit _ sy) ww wy h2 h1]
    exact hy
  have ew : c.wipes = d.wipes := Rises.unique muO hc.rw_ hd.rw_ fun w => ⟨wip hc hd w, wip hd hc w⟩
  have cel : ∀ {c d : Con}, Reps S c → Reps S d → c.wipes = d.wipes → ∀ m ∈ c.cells, m ∈ d.cells := by
    intro c d hc hd ew m hm
    obtain ⟨sm, cm⟩ := hc.cells m hm
    rcases hd.domC m sm cm with ⟨y, hy, e1, h1⟩ | ⟨w, hw, h1⟩
    · obtain ⟨sy, cy⟩ := hd.cells y hy
      rcases hc.domC y sy cy with ⟨z, hz, e2, h2⟩ | ⟨w, hw, h2⟩
      · obtain rfl := keys_one hc.rc hz hm (e2.trans e1)
        rw [muO.anti h1 h2]; exact hy
      · rw [e1] at h2
        exact absurd (hits_early h2 (muC_at h1)) (hc.free m hm w hw)
    · exact absurd h1 (hc.free m hm w (by rw [ew]; exact hw))
  have ek : ∀ {c d : Con}, Reps S c → Reps S d → (∀ m, m ∈ c.cells ↔ m ∈ d.cells) → c.cells = d.cells := by
    intro c d hc hd e
    have key : ∀ {l m : List Mu}, Rises keyC l → Rises keyC m → (∀ x, x ∈ l ↔ x ∈ m) → l = m := by
      intro l
      induction l with
      | nil =>
        intro m _ _ e
        cases m with
        | nil => rfl
        | cons y m => exact absurd ((e y).2 (by simp)) (by simp)
      | cons x l ih =>
        intro m h1 h2 e
        cases m with
        | nil => exact absurd ((e x).1 (by simp)) (by simp)
        | cons y m =>
          obtain ⟨hx, h1'⟩ := List.pairwise_cons.1 h1
          obtain ⟨hy, h2'⟩ := List.pairwise_cons.1 h2
          have exy : x = y := by
            rcases List.mem_cons.1 ((e x).1 (by simp)) with g1 | g1
            · exact g1
            · rcases List.mem_cons.1 ((e y).2 (by simp)) with g2 | g2
              · exact g2.symm
              · exact absurd (hx y g2) (Tot.str.asymm (hy x g1))
          subst exy
          refine congrArg (x :: ·) (ih h1' h2' fun z => ?_)
          constructor
          · intro hz
            rcases List.mem_cons.1 ((e z).1 (List.mem_cons_of_mem _ hz)) with g | g
            · subst g; exact absurd (hx z hz) (Tot.str.irrefl _)
            · exact g
          · intro hz
            rcases List.mem_cons.1 ((e z).2 (List.mem_cons_of_mem _ hz)) with g | g
            · subst g; exact absurd (hy z hz) (Tot.str.irrefl _)
            · exact g
    exact key hc.rc hd.rc e
  have ec : c.cells = d.cells := ek hc hd fun m => ⟨cel hc hd ew m, cel hd hc ew.symm m⟩
  have es : c.sibs = d.sibs := Rises.unique sibO hc.rs hd.rs fun m => (hc.sibs m).trans (hd.sibs m).symm
  cases c; cases d
  simp only at ew ec es
  rw [ew, ec, es]

theorem Reps.same {S T : Mu → Prop} {c : Con} (h : Reps S c) (e : ∀ m, S m ↔ T m) : Reps T c := by
  have : S = T := funext fun m => propext (e m)
  rw [← this]; exact h
theorem Reps.none : Reps (fun _ => False) ⟨[], [], []⟩ where
  fit := fun _ h => h.elim
  cells := fun _ h => (by cases h)
  wipes := fun _ h => (by cases h)
  sibs := fun m => ⟨fun h => (by cases h), fun h => h.1.elim⟩
  rc := List.Pairwise.nil
  rw_ := List.Pairwise.nil
  rs := List.Pairwise.nil
  free := fun _ h => (by cases h)
  alone := fun _ h => (by cases h)
  domW := fun _ h => h.elim
  domC := fun _ h => h.elim

/-- What is left says all. -/
theorem Reps.of_all {S T : Mu → Prop} {b c : Con} (hb : Reps S b) (h : Reps (fun m => T m ∨ m ∈ b.all) c) : Reps (fun m => T m ∨ S m) c := by
  have hin : ∀ m, m ∈ b.all → S m := by
    intro m hm
    unfold Con.all at hm
    rcases List.mem_append.1 hm with h1 | h1
    · exact (hb.cells m h1).1
    rcases List.mem_append.1 h1 with h1 | h1
    · exact (hb.wipes m h1).1
    · exact ((hb.sibs m).1 h1).1
  have i1 : ∀ {m}, m ∈ b.cells → m ∈ b.all := fun h => List.mem_append_left _ h
  have i2 : ∀ {m}, m ∈ b.wipes → m ∈ b.all := fun h => List.mem_append_right _ (List.mem_append_left _ h)
  have i3 : ∀ {m}, m ∈ b.sibs → m ∈ b.all := fun h => List.mem_append_right _ (List.mem_append_right _ h)
  refine ⟨?_, ?_, ?_, ?_, h.rc, h.rw_, h.rs, h.free, h.alone, ?_, ?_⟩
  · rintro m (hm | hm)
    · exact h.fit m (Or.inl hm)
    · exact hb.fit m hm
  · intro m hm
    obtain ⟨h1, h2⟩ := h.cells m hm
    exact ⟨h1.imp id (hin m), h2⟩
  · intro m hm
    obtain ⟨h1, h2⟩ := h.wipes m hm
    exact ⟨h1.imp id (hin m), h2⟩
  · intro m
    rw [h.sibs m]
    constructor
    · rintro ⟨h1, h2⟩; exact ⟨h1.imp id (hin m), h2⟩
    · rintro ⟨h1 | h1, h2⟩
      · exact ⟨Or.inl h1, h2⟩
      · exact ⟨Or.inr (i3 ((hb.sibs m).2 ⟨h1, h2⟩)), h2⟩
  · rintro x (hx | hx) wx
    · exact h.domW x (Or.inl hx) wx
    · obtain ⟨y, hy, h1⟩ := hb.domW x hx wx
      obtain ⟨z, hz, h2⟩ := h.domW y (Or.inr (i2 hy)) (hb.wipes y hy).2
      exact ⟨z, hz, within_trans h2 h1⟩
  · rintro x (hx | hx) cx
    · exact h.domC x (Or.inl hx) cx
    · rcases hb.domC x hx cx with ⟨y, hy, e1, h1⟩ | ⟨w, hw, h1⟩
      · rcases h.domC y (Or.inr (i1 hy)) (hb.cells y hy).2 with ⟨z, hz, e2, h2⟩ | ⟨w, hw, h2⟩
        · exact Or.inl ⟨z, hz, e2.trans e1, muO.le_le h1 h2⟩
        · rw [e1] at h2
          exact Or.inr ⟨w, hw, hits_early h2 (muC_at h1)⟩
      · obtain ⟨z, hz, h2⟩ := h.domW w (Or.inr (i2 hw)) (hb.wipes w hw).2
        exact Or.inr ⟨z, hz, hits_within (h.wipes z hz).2.2 h2 h1⟩

/-! One mutation more. -/
theorem Reps.sib {S : Mu → Prop} {c : Con} (h : Reps S c) {m : Mu} (hf : Fit m) (hm : isS m) {l : List Mu} (hr : Rises sibC l) (hl : ∀ x, x ∈ l ↔ x ∈ c.sibs ∨ x = m) : Reps (fun x => S x ∨ x = m) ⟨c.cells, c.wipes, l⟩ := by
  refine ⟨?_, ?_, ?_, ?_, h.rc, h.rw_, hr, h.free, h.alone, ?_, ?_⟩
  · rintro x (hx | rfl)
    · exact h.fit x hx
    · exact hf
  · intro x hx; exact ⟨Or.inl (h.cells x hx).1, (h.cells x hx).2⟩
  · intro x hx; exact ⟨Or.inl (h.wipes x hx).1, (h.wipes x hx).2⟩
  · intro x
    rw [hl, h.sibs]
    constructor
    · rintro (⟨h1, h2⟩ | rfl)
      · exact ⟨Or.inl h1, h2⟩
      · exact ⟨Or.inr rfl, hm⟩
    · rintro ⟨h1 | rfl, h2⟩
      · exact Or.inl ⟨h1, h2⟩
      · exact Or.inr rfl
  · rintro x (hx | rfl) wx
    · exact h.domW x hx wx
    · exact absurd hm wx.1
  · rintro x (hx | rfl) cx
    · exact h.domC x hx cx
    · exact absurd hm cx.1

theorem Reps.cell_hit {S : Mu → Prop} {c : Con} (h : Reps S c) {m : Mu} (hf : Fit m) (hm : isC m) {w : Mu} (hw : w ∈ c.wipes) (hh : hits w m.key m.at_) : Reps (fun x => S x ∨ x = m) c := by
  refine ⟨?_, ?_, ?_, ?_, h.rc, h.rw_, h.rs, h.free, h.alone, ?_, ?_⟩
  · rintro x (hx | rfl)
    · exact h.fit x hx
    · exact hf
  · intro x hx; exact ⟨Or.inl (h.cells x hx).1, (h.cells x hx).2⟩
  · intro x hx; exact ⟨Or.inl (h.wipes x hx).1, (h.wipes x hx).2⟩
  · intro x
    rw [h.sibs]
    constructor
    · rintro ⟨h1, h2⟩; exact ⟨Or.inl h1, h2⟩
    · rintro ⟨h1 | rfl, h2⟩
      · exact ⟨h1, h2⟩
      · exact absurd h2 hm.1
  · rintro x (hx | rfl) wx
    · exact h.domW x hx wx
    · exact absurd wx.2 hm.2
  · rintro x (hx | rfl) cx
    · exact h.domC x hx cx
    · exact Or.inr ⟨w, hw, hh⟩

/-- A cell that no wipe reaches: the cells with it, in the place of a lesser one of its key; or as they are, if that one is no lesser. -/
theorem Reps.cell_new {S : Mu → Prop} {c : Con} (h : Reps S c) {m : Mu} (hf : Fit m) (hm : isC m) (hh : ∀ w ∈ c.wipes, ¬ hits w m.key m.at_) {l : List Mu} (hr : Rises keyC l)
    (hin : ∀ x ∈ l, x = m ∨ x ∈ c.cells) (hkeep : ∀ x ∈ c.cells, ¬ x.key = m.key → x ∈ l) (htop : ∃ y ∈ l, y.key = m.key ∧ muC m y ≤ 0 ∧ ∀ x ∈ c.cells, x.key = m.key → muC x y ≤ 0) : Reps (fun x => S x ∨ x = m) ⟨l, c.wipes, c.sibs⟩ := by
  obtain ⟨t, ht, e1, h1, h2⟩ := htop
  refine ⟨?_, ?_, ?_, ?_, hr, h.rw_, h.rs, ?_, h.alone, ?_, ?_⟩
  · rintro x (hx | rfl)
    · exact h.fit x hx
    · exact hf
  · intro x hx
    rcases hin x hx with rfl | hx
    · exact ⟨Or.inr rfl, hm⟩
    · exact ⟨Or.inl (h.cells x hx).1, (h.cells x hx).2⟩
  · intro x hx; exact ⟨Or.inl (h.wipes x hx).1, (h.wipes x hx).2⟩
  · intro x
    show x ∈ c.sibs ↔ _
    rw [h.sibs]
    constructor
    · rintro ⟨k1, k2⟩; exact ⟨Or.inl k1, k2⟩
    · rintro ⟨k1 | rfl, k2⟩
      · exact ⟨k1, k2⟩
      · exact absurd k2 hm.1
  · intro x hx w hw
    rcases hin x hx with rfl | hx
    · exact hh w hw
    · exact h.free x hx w hw
  · rintro x (hx | rfl) wx
    · exact h.domW x hx wx
    · exact absurd wx.2 hm.2
  · rintro x (hx | rfl) cx
    · rcases h.domC x hx cx with ⟨y, hy, e2, h3⟩ | h3
      · by_cases e : y.key = m.key
        · exact Or.inl ⟨t, ht, e1.trans (e.symm.trans e2), muO.le_le h3 (h2 y hy e)⟩
        · exact Or.inl ⟨y, hkeep y hy e, e2, h3⟩
      · exact Or.inr h3
    · exact Or.inl ⟨t, ht, e1, h1⟩

theorem Reps.wipe_in {S : Mu → Prop} {c : Con} (h : Reps S c) {m : Mu} (hf : Fit m) (hm : isW m) {x : Mu} (hx : x ∈ c.wipes) (hh : within x m) : Reps (fun x => S x ∨ x = m) c := by
  refine ⟨?_, ?_, ?_, ?_, h.rc, h.rw_, h.rs, h.free, h.alone, ?_, ?_⟩
  · rintro x (hx | rfl)
    · exact h.fit x hx
    · exact hf
  · intro x hx; exact ⟨Or.inl (h.cells x hx).1, (h.cells x hx).2⟩
  · intro x hx; exact ⟨Or.inl (h.wipes x hx).1, (h.wipes x hx).2⟩
  · intro x
    rw [h.sibs]
    constructor
    · rintro ⟨h1, h2⟩; exact ⟨Or.inl h1, h2⟩
    · rintro ⟨h1 | rfl, h2⟩
      · exact ⟨h1, h2⟩
      · exact absurd h2 hm.1
  · rintro y (hy | rfl) wy
    · exact h.domW y hy wy
    · exact ⟨x, hx, hh⟩
  · rintro y (hy | rfl) cy
    · exact h.domC y hy cy
    · exact absurd hm.2 cy.2

/-- A wipe that is in none: those within it go, and the cells that it reaches. -/
theorem Reps.wipe_new {S : Mu → Prop} {c : Con} (h : Reps S c) {m : Mu} (hf : Fit m) (hm : isW m) (hno : ∀ x ∈ c.wipes, ¬ within x m) {lw lc : List Mu} (hrw : Rises muC lw) (hrc : Rises keyC lc)
    (hw : ∀ x, x ∈ lw ↔ x = m ∨ (x ∈ c.wipes ∧ ¬ within m x)) (hc : ∀ x, x ∈ lc ↔ x ∈ c.cells ∧ ¬ hits m x.key x.at_) : Reps (fun x => S x ∨ x = m) ⟨lc, lw, c.sibs⟩ := by
  refine ⟨?_, ?_, ?_, ?_, hrc, hrw, h.rs, ?_, ?_, ?_, ?_⟩
  · rintro x (hx | rfl)
    · exact h.fit x hx
    · exact hf
  · intro x hx
    have := (hc x).1 hx
    exact ⟨Or.inl (h.cells x this.1).1, (h.cells x this.1).2⟩
  · intro x hx
    rcases (hw x).1 hx with rfl | ⟨hx, _⟩
    · exact ⟨Or.inr rfl, hm⟩
    · exact ⟨Or.inl (h.wipes x hx).1, (h.wipes x hx).2⟩
  · intro x
    show x ∈ c.sibs ↔ _
    rw [h.sibs]
    constructor
    · rintro ⟨h1, h2⟩; exact ⟨Or.inl h1, h2⟩
    · rintro ⟨h1 | rfl, h2⟩
      · exact ⟨h1, h2⟩
      · exact absurd h2 hm.1
  · intro x hx w hw'
    obtain ⟨h1, h2⟩ := (hc x).1 hx
    rcases (hw w).1 hw' with rfl | ⟨hw', _⟩
    · exact h2
    · exact h.free x h1 w hw'
  · intro x hx y hy hxy
    rcases (hw x).1 hx with rfl | ⟨hx', nx⟩ <;> rcases (hw y).1 hy with rfl | ⟨hy', ny⟩
    · rfl
    · exact absurd hxy ny
    · exact absurd hxy (hno x hx')
    · exact h.alone x hx' y hy' hxy
  · rintro x (hx | rfl) wx
    · obtain ⟨y, hy, h1⟩ := h.domW x hx wx
      by_cases e : within m y
      · exact ⟨m, (hw m).2 (Or.inl rfl), within_trans e h1⟩
      · exact ⟨y, (hw y).2 (Or.inr ⟨hy, e⟩), h1⟩
    · exact ⟨x, (hw x).2 (Or.inl rfl), by unfold within; rw [Tot.str.self, Tot.str.self, stO.self]; omega⟩
  · rintro x (hx | rfl) cx
    · rcases h.domC x hx cx with ⟨y, hy, e1, h1⟩ | ⟨w, hw', h1⟩
      · by_cases e : hits m y.key y.at_
        · rw [e1] at e
          exact Or.inr ⟨m, (hw m).2 (Or.inl rfl), hits_early e (muC_at h1)⟩
        · exact Or.inl ⟨y, (hc y).2 ⟨hy, e⟩, e1, h1⟩
      · by_cases e : within m w
        · exact Or.inr ⟨m, (hw m).2 (Or.inl rfl), hits_within hm.2 e h1⟩
        · exact Or.inr ⟨w, (hw w).2 (Or.inr ⟨hw', e⟩), h1⟩
    · exact absurd hm.2 cx.2
end Go.Proofs.YtmjelcjdfamikaaGreatDoor.Mut
