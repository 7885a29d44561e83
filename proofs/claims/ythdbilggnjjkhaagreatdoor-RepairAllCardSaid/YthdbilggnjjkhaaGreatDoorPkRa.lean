/- Plain law of a repair: who has reported, and who has installed (no program in here). · The two maps of a repair (layer 26): the nodes' reports, and who has installed. -/
import Derived.Lib.Hide
import Derived.Maps.OwnSet
import Derived.Maps.OwnOps
import Derived.Test.YthdbilggnjjkhaaGreatDoorRepRow
set_option linter.unusedSimpArgs false
set_option linter.unusedVariables false
namespace Go.Proofs.YthdbilggnjjkhaaGreatDoor.Rpr

theorem len_le {α : Type} [BEq α] [LawfulBEq α] : ∀ (K N : List α), K.Nodup → (∀ x ∈ K, x ∈ N) → K.length ≤ N.length
  | [], N, _, _ => Nat.zero_le _
  | a :: K, N, hd, hs => by
    have ha : a ∈ N := hs a (List.mem_cons_self ..)
    have hn : a ∉ K := (List.nodup_cons.1 hd).1
    have h := len_le K (N.erase a) (List.nodup_cons.1 hd).2 (fun x hx => (List.mem_erase_of_ne (fun e => hn (by rw [← e]; exact hx))).2 (hs x (List.mem_cons_of_mem _ hx)))
    rw [List.length_erase_of_mem ha] at h
    have := List.length_pos_of_mem ha
    rw [List.length_cons]; omega
/-- As many as there are, each once, are all. -/
theorem all_in {α : Type} [BEq α] [LawfulBEq α] {K N : List α} (hd : K.Nodup) (hs : ∀ x ∈ K, x ∈ N) (hl : N.length ≤ K.length) : ∀ x ∈ N, x ∈ K := by
  intro x hx
  cases hk : K.contains x with
  | true => exact List.contains_iff_mem.1 hk
  | false =>
    have hn : x ∉ K := fun h => by rw [List.contains_iff_mem.2 h] at hk; cases hk
    have h := len_le K (N.erase x) hd (fun y hy => (List.mem_erase_of_ne (fun e => hn (by rw [← e]; exact hy))).2 (hs y hy))
    rw [List.length_erase_of_mem hx] at h
    have := List.length_pos_of_mem hx
    omega

/-- A repair, as far as the law asks: its nodes, whose reports there are, who has installed, how far it is; who was handed to Report, and to Done. -/
structure Sess where
  nodes : List Int
  kr : List Int
  kd : List Int
  phase : Int
structure Sess.Ok (s : Sess) (rep ins : List Int) : Prop where
  kr : s.kr.Nodup ∧ (∀ x ∈ s.kr, x ∈ s.nodes) ∧ ∀ x ∈ s.kr, x ∈ rep
  kd : s.kd.Nodup ∧ (∀ x ∈ s.kd, x ∈ s.nodes) ∧ ∀ x ∈ s.kd, x ∈ ins
  low : s.phase = 0 ∨ s.phase = 1 ∨ s.phase = 2 ∨ s.phase = 3
  one : s.phase = 1 ∨ s.phase = 2 → s.nodes.length ≤ s.kr.length
  two : s.phase = 2 → s.nodes.length ≤ s.kd.length
theorem Sess.Ok.reported {s : Sess} {rep ins : List Int} (h : s.Ok rep ins) (hp : s.phase = 1 ∨ s.phase = 2) : ∀ x ∈ s.nodes, x ∈ rep :=
  fun x hx => h.kr.2.2 x (all_in h.kr.1 h.kr.2.1 (h.one hp) x hx)
theorem Sess.Ok.installed {s : Sess} {rep ins : List Int} (h : s.Ok rep ins) (hp : s.phase = 2) : ∀ x ∈ s.nodes, x ∈ ins :=
  fun x hx => h.kd.2.2 x (all_in h.kd.1 h.kd.2.1 (h.two hp) x hx)
def Sess.new (N : List Int) : Sess := ⟨N, [], [], 0⟩
theorem Sess.new_ok (N : List Int) : (Sess.new N).Ok [] [] where
  kr := ⟨List.nodup_nil, fun _ h => absurd h List.not_mem_nil, fun _ h => absurd h List.not_mem_nil⟩
  kd := ⟨List.nodup_nil, fun _ h => absurd h List.not_mem_nil, fun _ h => absurd h List.not_mem_nil⟩
  low := Or.inl rfl
  one := fun h => by rcases h with h | h <;> cases h
  two := fun h => by cases h
/-- A report of a node: ok says whether there is a base at all. -/
def Sess.report (s : Sess) (n : Int) (ok : Bool) : Sess :=
  if s.phase = 0 ∧ n ∉ s.kr ∧ n ∈ s.nodes then
    { s with kr := n :: s.kr, phase := if s.kr.length + 1 < s.nodes.length then 0 else if ok then 1 else 3 }
  else s
theorem Sess.Ok.report {s : Sess} {rep ins : List Int} (h : s.Ok rep ins) (n : Int) (ok : Bool) : (s.report n ok).Ok (rep ++ [n]) ins := by
  unfold Sess.report
  split
  · next hc =>
    obtain ⟨h0, h1, h2⟩ := hc
    refine ⟨⟨List.nodup_cons.2 ⟨h1, h.kr.1⟩, fun x hx => ?_, fun x hx => ?_⟩, h.kd, ?_, ?_, ?_⟩
    · rcases List.mem_cons.1 hx with rfl | hx
      · exact h2
      · exact h.kr.2.1 x hx
    · rcases List.mem_cons.1 hx with rfl | hx
      · exact List.mem_append_right _ (List.mem_singleton.2 rfl)
      · exact List.mem_append_left _ (h.kr.2.2 x hx)
    · show (if _ then _ else _) = _ ∨ _
      split
      · exact Or.inl rfl
      · cases ok
        · exact Or.inr (Or.inr (Or.inr rfl))
        · exact Or.inr (Or.inl rfl)
    · show (if _ then _ else _) = _ ∨ _ → _
      split
      · intro hp; rcases hp with hp | hp <;> cases hp
      · intro _
        show s.nodes.length ≤ (n :: s.kr).length
        rw [List.length_cons]; omega
    · show (if _ then _ else _) = _ → _
      split
      · intro hp; cases hp
      · cases ok <;> (intro hp; cases hp)
  · exact ⟨⟨h.kr.1, h.kr.2.1, fun x hx => List.mem_append_left _ (h.kr.2.2 x hx)⟩, h.kd, h.low, h.one, h.two⟩
/-- A node has installed (asked while it installs). -/
def Sess.done (s : Sess) (n : Int) : Sess :=
  if s.phase = 1 ∧ n ∈ s.nodes then
    let kd := if n ∈ s.kd then s.kd else n :: s.kd
    { s with kd := kd, phase := if kd.length < s.nodes.length then 1 else 2 }
  else s
theorem Sess.Ok.done {s : Sess} {rep ins : List Int} (h : s.Ok rep ins) (n : Int) : (s.done n).Ok rep (ins ++ [n]) := by
  unfold Sess.done
  split
  · next hc =>
    obtain ⟨h0, h1⟩ := hc
    have hk : ∀ x ∈ (if n ∈ s.kd then s.kd else n :: s.kd), x = n ∨ x ∈ s.kd := by
      intro x hx
      split at hx
      · exact Or.inr hx
      · exact List.mem_cons.1 hx
    refine ⟨⟨h.kr.1, h.kr.2.1, h.kr.2.2⟩, ⟨?_, fun x hx => ?_, fun x hx => ?_⟩, ?_, fun _ => h.one (Or.inl h0), ?_⟩
    · show (if n ∈ s.kd then s.kd else n :: s.kd).Nodup
      split
      · exact h.kd.1
      · next hn => exact List.nodup_cons.2 ⟨hn, h.kd.1⟩
    · rcases hk x hx with rfl | hx
      · exact h1
      · exact h.kd.2.1 x hx
    · rcases hk x hx with rfl | hx
      · exact List.mem_append_right _ (List.mem_singleton.2 rfl)
      · exact List.mem_append_left _ (h.kd.2.2 x hx)
    · show (if (if n ∈ s.kd then s.kd else n :: s.kd).length < s.nodes.length then (1 : Int) else 2) = 0 ∨ (if (if n ∈ s.kd then s.kd else n :: s.kd).length < s.nodes.length then (1 : Int) else 2) = 1 ∨ (if (if n ∈ s.kd then s.kd else n :: s.kd).length < s.nodes.length then (1 : Int) else 2) = 2 ∨ (if (if n ∈ s.kd then s.kd else n :: s.kd).length < s.nodes.length then (1 : Int) else 2) = 3
      by_cases hlt : (if n ∈ s.kd then s.kd else n :: s.kd).length < s.nodes.length
      · rw [if_pos hlt]; exact Or.inr (Or.inl rfl)
      · rw [if_neg hlt]; exact Or.inr (Or.inr (Or.inl rfl))
    · show (if (if n ∈ s.kd then s.kd else n :: s.kd).length < s.nodes.length then (1 : Int) else 2) = 2 → s.nodes.length ≤ (if n ∈ s.kd then s.kd else n :: s.kd).length
      intro hp
      by_cases hlt : (if n ∈ s.kd then s.kd else n :: s.kd).length < s.nodes.length
      · rw [if_pos hlt] at hp; cases hp
      · omega
  · exact ⟨h.kr, ⟨h.kd.1, h.kd.2.1, fun x hx => List.mem_append_left _ (h.kd.2.2 x hx)⟩, h.low, h.one, h.two⟩
end Go.Proofs.YthdbilggnjjkhaaGreatDoor.Rpr

namespace Go.Proofs.YthdbilggnjjkhaaGreatDoor.Rpr
open Go.RowKit Go.Maps Go.Proofs.YthdbilggnjjkhaaGreatDoor.Mut

section
variable {H : Type}
/-- What keys a map has. -/
structure IMap (D : DataW H) (K : List Int) : Prop where
  tidy : Tidy D
  size : Maps.size D = K.length
  has : ∀ n : Int, Maps.has D (.int .i64 n) = decide (n ∈ K)
theorem isKey (n : Int) : WideAt.IsKeyLit (.int .i64 n) := trivial
theorem lit_ne {a b : Int} (h : a ≠ b) : Lit.int .i64 a ≠ Lit.int .i64 b := fun e => h (by injection e)
theorem IMap.nil : IMap (.map [] : DataW H) [] := ⟨tidy_empty, rfl, fun n => by simp [Maps.has_eq]⟩
theorem IMap.put {D : DataW H} {K : List Int} (h : IMap D K) (n : Int) (d : DataW H) : IMap (D.put (.int .i64 n) d) (if n ∈ K then K else n :: K) where
  tidy := h.tidy.put (isKey n) d
  size := by rw [size_put h.tidy, h.has, h.size]; by_cases hn : n ∈ K <;> simp [hn]
  has := fun m => by
    by_cases hm : m = n
    · subst hm
      rw [has_put_same h.tidy.isMap (isKey m)]
      by_cases hn : m ∈ K <;> simp [hn]
    · rw [has_put_other (lit_ne hm), h.has]
      by_cases hn : n ∈ K <;> simp [hn, hm]
theorem tight {w : World} {P : Program} {k : TypeId} {R : Value → Option (DataW H × List MemPlace)} {b n : Nat} {D : DataW H} (h : w.ownsMap P k R b n D) : w.ownsMap P k R b (Maps.size D) D := by
  obtain ⟨es, clock, hb, F, hs, hD⟩ := h
  refine ⟨es, clock, hb, F, ?_, hD⟩
  rw [hD]
  show _ ≤ ((es.toList.map (Go.WideElems.rg P k R)).foldr DataW.insert []).length
  rw [length_sorted]; simp
end
theorem law : Keyed Tryz.prog 3 := int_keyed Tryz.underlying3
theorem wf64 {x : Int} (h1 : -9223372036854775808 ≤ x) (h2 : x ≤ 9223372036854775807) : (Lit.int .i64 x).wf = true := by
  simp [Lit.wf, IntKind.min, IntKind.max, IntKind.bits, IntKind.signed]; omega
theorem key {x : Int} (h1 : -9223372036854775808 ≤ x) (h2 : x ≤ 9223372036854775807) : keyOf Tryz.prog 3 (.int .i64 x) = some (.int .i64 x) := keyOf_int_mk Tryz.underlying3 (wf64 h1 h2)

/-- A value reads as itself. -/
def holdR (v : Value) : Option (DataW Value × List MemPlace) := some (.held v, [])
def zRep : Value := .agg #[.slice none 0 0, .slice none 0 0, .slice none 0 0, .int .i64 0, .int .i64 0, .int .i64 0, .bool false]
/-- The reports that there are, by their nodes. -/
def RMap (w : World) (b : Nat) (E : List (Int × Rp)) : Prop := ∃ D : DataW Value, w.ownsMap Tryz.prog 3 holdR b E.length D ∧ IMap D (E.map (·.1)) ∧ ∀ p ∈ E, D.atKey (.int .i64 p.1) (.held zRep) = .held (vR p.2)
theorem RMap.kept {w w' : World} {b : Nat} {E : List (Int × Rp)} (h : RMap w b E) {row : Option Nat} (hg : w.grownBy w' row) (hne : some b ≠ row) : RMap w' b E := by
  obtain ⟨D, h1, h2⟩ := h
  exact ⟨D, h1.kept hg hne, h2⟩
theorem RMap.same {w w' : World} {b : Nat} {E : List (Int × Rp)} (h : RMap w b E) (hg : w'.heap[b]? = w.heap[b]?) : RMap w' b E := by
  obtain ⟨D, ⟨es, clock, hb, F, hs, hD⟩, h2⟩ := h
  exact ⟨D, ⟨es, clock, hg.trans hb, F, hs, hD⟩, h2⟩
theorem RMap.lt {w : World} {b : Nat} {E : List (Int × Rp)} (h : RMap w b E) : b < w.heap.size := by
  obtain ⟨D, h1, h2⟩ := h
  exact h1.lt
theorem RMap.new (w : World) : RMap (w.alloc (.map #[] 0)) w.heap.size [] := ⟨_, World.ownsMap_made _ _ _ _, IMap.nil, fun p h => absurd h List.not_mem_nil⟩
theorem RMap.put {w' : World} {b m : Nat} {E : List (Int × Rp)} {n : Int} {x : Rp} {D : DataW Value} (hi : IMap D (E.map (·.1))) (ha : ∀ p ∈ E, D.atKey (.int .i64 p.1) (.held zRep) = .held (vR p.2)) (hn : n ∉ E.map (·.1))
    (h : w'.ownsMap Tryz.prog 3 holdR b m (D.put (.int .i64 n) (.held (vR x)))) : RMap w' b ((n, x) :: E) := by
  have h2 := hi.put n (.held (vR x))
  rw [if_neg hn] at h2
  have h3 := tight h
  rw [h2.size] at h3
  refine ⟨_, by simpa using h3, h2, fun p hp => ?_⟩
  rcases List.mem_cons.1 hp with rfl | hp
  · exact atKey_put_same hi.tidy.isMap (isKey _) _ _
  · have hne : p.1 ≠ n := fun e => hn (e ▸ List.mem_map.2 ⟨p, hp, rfl⟩)
    rw [atKey_put_other (lit_ne hne)]
    exact ha p hp
/-- Who has installed. -/
def DMap (w : World) (b : Nat) (K : List Int) : Prop := ∃ D : DataW Unit, w.ownsMap Tryz.prog 3 (plainElem Tryz.prog 3) b K.length D ∧ IMap D K
theorem DMap.kept {w w' : World} {b : Nat} {K : List Int} (h : DMap w b K) {row : Option Nat} (hg : w.grownBy w' row) (hne : some b ≠ row) : DMap w' b K := by
  obtain ⟨D, h1, h2⟩ := h
  exact ⟨D, h1.kept hg hne, h2⟩
theorem DMap.same {w w' : World} {b : Nat} {K : List Int} (h : DMap w b K) (hg : w'.heap[b]? = w.heap[b]?) : DMap w' b K := by
  obtain ⟨D, ⟨es, clock, hb, F, hs, hD⟩, h2⟩ := h
  exact ⟨D, ⟨es, clock, hg.trans hb, F, hs, hD⟩, h2⟩
theorem DMap.lt {w : World} {b : Nat} {K : List Int} (h : DMap w b K) : b < w.heap.size := by
  obtain ⟨D, h1, h2⟩ := h
  exact h1.lt
theorem DMap.new (w : World) : DMap (w.alloc (.map #[] 0)) w.heap.size [] := ⟨_, World.ownsMap_made _ _ _ _, IMap.nil⟩
theorem DMap.put {w' : World} {b m : Nat} {K : List Int} {n : Int} {D d : DataW Unit} (hi : IMap D K) (h : w'.ownsMap Tryz.prog 3 (plainElem Tryz.prog 3) b m (D.put (.int .i64 n) d)) : DMap w' b (if n ∈ K then K else n :: K) := by
  have h2 := hi.put n d
  have h3 := tight h
  rw [h2.size] at h3
  exact ⟨_, h3, h2⟩
end Go.Proofs.YthdbilggnjjkhaaGreatDoor.Rpr
