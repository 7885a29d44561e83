/- append of a row of mutations, nil or not, to a row of the call's own; contents and rows at hand, in bundles. -/
import Derived.Test.YtgcfhlleaekgfaaDoorConAlive
namespace Go.Proofs.YtgcfhlleaekgfaaDoor.Mut
open Go.RowKit Go.Sort Go.Proofs.YtgcfhlleaekgfaaDoor.Ord

theorem wpList_append_rows {w : World} {ops : Array Oper} {rest : List Oper} {o : Oper} {a : Act} {Q : Exit → Act → World → Prop} (hgd : o.guard = none) (s x : Operand)
    (ho : o.op = .call { callee := .builtin .append, args := #[s, x], argTypes := #[22, 22] }) (base : Nat) (v : Value) (n : Nat) (xs : List Value) (hs : a.eval s = v) (hown : w.ownsRow base 34 10 v n xs)
    (ao : Option Addr) (m c : Nat) (R : List Ro) (hx : a.eval x = .slice ao m c) (hR : MRow w (.slice ao m c) R) (hm : n + m ≤ 1000000) (hbase : base ≤ w.heap.size)
    (h : ∀ v' w', w'.ownsRow base 34 10 v' (n + m) (xs ++ R.flatMap enM) → w.grownBy w' v.ownBlock → wpList Tryd.prog ops Q rest (a.put o.dst v') w') : wpList Tryd.prog ops Q (o :: rest) a w := by
  obtain ⟨i0, hi, hz0, hz1, hz2⟩ := info_parts info_M
  obtain ⟨_, _, e, -, -⟩ := hR.form
  obtain ⟨rfl⟩ : m = R.length := by injection e
  cases ao with
  | none =>
    have h0 := hR.nil_of
    subst h0
    refine wpList_append_own_none' hgd s x 22 ho base 34 i0 10 c Tryd.underlying22 hi v n xs hs hown hx ?_
    exact h v w (by simpa using hown) (World.grownBy.refl _ _)
  | some ad =>
    exact wpList_append_own _ hgd s x 22 ho base 34 i0 zeroM 10 120 Tryd.underlying22 hi hz0 hz1 hz2 rfl (by decide) v n xs hs hown ad R.length c (R.flatMap enM) hx (flatMap_len enM_len R) (Lst.news enM_len (by decide) hR.row) (flatM_one hR.forms) (by unfold maxLen; omega) (by omega) hbase (fun v' w' h1 h2 _ => h v' w' h1 h2)

/-- Contents at hand. -/
structure Cv where
  a : Value
  b : Value
  d : Value
  c : Con
def HasC (W : World) (l : List Cv) : Prop := ∀ p, p ∈ l → Lies W p.a p.b p.d p.c
theorem HasC.get {W : World} {l : List Cv} {a b d : Value} {c : Con} (h : HasC W l) (hm : (⟨a, b, d, c⟩ : Cv) ∈ l) : Lies W a b d c := h _ hm
theorem HasC.nil (W : World) : HasC W [] := fun p hp => by cases hp
theorem HasC.below {W W' : World} {l : List Cv} (h : HasC W l) (hb : RowKit.Below W.heap.size W W') : HasC W' l := fun p hp => (h p hp).below hb
theorem HasC.cons {W : World} {l : List Cv} {a b d : Value} {c : Con} (hv : Lies W a b d c) (h : HasC W l) : HasC W (⟨a, b, d, c⟩ :: l) := fun p hp => by
  rcases List.mem_cons.1 hp with e | e
  · subst e; exact hv
  · exact h p e
/-- Rows at hand. -/
def HasR (W : World) (l : List (Value × List Ro)) : Prop := ∀ p, p ∈ l → MRow W p.1 p.2
theorem HasR.get {W : World} {l : List (Value × List Ro)} {v : Value} {R : List Ro} (h : HasR W l) (hm : (v, R) ∈ l) : MRow W v R := h _ hm
theorem HasR.nil (W : World) : HasR W [] := fun p hp => by cases hp
theorem HasR.below {W W' : World} {l : List (Value × List Ro)} (h : HasR W l) (hb : RowKit.Below W.heap.size W W') : HasR W' l := fun p hp => (h p hp).below hb
theorem HasR.cons {W : World} {l : List (Value × List Ro)} {v : Value} {R : List Ro} (hv : MRow W v R) (h : HasR W l) : HasR W ((v, R) :: l) := fun p hp => by
  rcases List.mem_cons.1 hp with e | e
  · subst e; exact hv
  · exact h p e
theorem HasC.plain3 {W W' : World} {l : List Cv} (h : HasC W l) (hp : Plain3 W W') : HasC W' l := fun p hm => (h p hm).plain3 hp
theorem HasR.plain3 {W W' : World} {l : List (Value × List Ro)} (h : HasR W l) (hp : Plain3 W W') : HasR W' l := fun p hm => (h p hm).plain3 hp
end Go.Proofs.YtgcfhlleaekgfaaDoor.Mut
