/- Layer 5 (vector): what a map of a vector reads as, and what the map's words are on rows. -/
import Derived.WalkKit
import Derived.Maps.Own
import Derived.Lib.SlKeysI
import Derived.Test.YtihfcohebgemdaaVecPlain
namespace Go.Proofs.Ytihfcohebgemdaa.Vec
open Go

def ent {H : Type} (p : P) : Lit × DataW H := (.int .i64 p.who, .lit (.int .i64 p.n))
def dat {H : Type} (l : List P) : DataW H := .map (l.map ent)
variable {H : Type}
theorem dat_nil : (dat [] : DataW H) = .map [] := rfl
theorem dat_size (l : List P) : Maps.size (dat l : DataW H) = l.length := by show (l.map ent).length = _; simp
theorem dat_keys (l : List P) : intKeys (dat l : DataW H) = l.map P.who := by
  show (l.map ent).map _ = _
  rw [List.map_map]
  rfl
theorem same_int (a b : Int) : (Lit.int .i64 a).sameKey (.int .i64 b) = decide (a = b) := by simp [Lit.sameKey]
theorem dat_at (l : List P) (w : Int) : (dat l : DataW H).atKey (.int .i64 w) (.lit (.int .i64 0)) = .lit (.int .i64 (getF l w)) := by
  unfold dat DataW.atKey
  simp only
  induction l with
  | nil => rfl
  | cons x t ih =>
    rw [List.map_cons, List.find?_cons]
    have e : ((ent x : Lit × DataW H).1).sameKey (.int .i64 w) = decide (x.who = w) := same_int _ _
    rw [e]
    unfold getF
    by_cases c : x.who = w
    · rw [decide_eq_true c, if_pos c]; rfl
    · rw [decide_eq_false c, if_neg c]; exact ih
theorem dat_get {l : List P} {w c : Int} (h : (dat l : DataW H).atKey (.int .i64 w) (.lit (.int .i64 0)) = .lit (.int .i64 c)) : c = getF l w := by
  rw [dat_at] at h
  injection h with h
  injection h with _ h
  exact h.symm
theorem dat_put {l : List P} (hl : Rises l) (d : P) : (dat l : DataW H).put (.int .i64 d.who) (.lit (.int .i64 d.n)) = dat (setF l d) := by
  unfold dat DataW.put
  simp only
  congr 1
  have hf : ∀ (t : List P), (t.map (ent (H := H))).filter (fun p => !p.1.sameKey (.int .i64 d.who)) = (t.filter fun x => x.who != d.who).map ent := by
    intro t
    induction t with
    | nil => rfl
    | cons x t ih =>
      rw [List.map_cons, List.filter_cons, List.filter_cons, ih]
      have e : (!((ent x : Lit × DataW H).1).sameKey (.int .i64 d.who)) = (x.who != d.who) := by
        show (!(Lit.int .i64 x.who).sameKey (.int .i64 d.who)) = _
        rw [same_int]
        by_cases c : x.who = d.who <;> simp [c]
      rw [e]
      split <;> rfl
  rw [hf]
  have hb : ∀ x : P, ((ent d : Lit × DataW H).1).before (ent x : Lit × DataW H).1 = decide (d.who < x.who) := fun x => rfl
  show DataW.insert (ent d) _ = _
  induction l with
  | nil => rfl
  | cons x t ih =>
    have hp := List.pairwise_cons.1 hl
    unfold setF setG
    by_cases c : d.who ≤ x.who
    · have e : decide (d.who ≤ x.who) = true := decide_eq_true c
      have ef : (t.filter fun y => y.who != d.who) = t := List.filter_eq_self.2 fun y hy => by have := hp.1 y hy; simp; omega
      simp only [e, Bool.not_false, Bool.and_self, Bool.or_true, if_true]
      rw [setG_in d t (fun y hy => by have := hp.1 y hy; omega) hp.2, List.filter_cons, ef]
      by_cases c2 : x.who = d.who
      · have e2 : (x.who != d.who) = false := by simp [c2]
        rw [e2]
        simp only [Bool.false_eq_true, if_false, List.nil_append, List.singleton_append, List.map_cons]
        cases t with
        | nil => rfl
        | cons y t =>
          rw [List.map_cons, DataW.insert, hb]
          have := hp.1 y (by simp)
          rw [if_pos (decide_eq_true (by omega))]
      · have e2 : (x.who != d.who) = true := by simp [c2]
        rw [e2]
        simp only [if_true, List.singleton_append, List.map_cons]
        rw [DataW.insert, hb, if_pos (decide_eq_true (by omega))]
    · have e : decide (d.who ≤ x.who) = false := decide_eq_false c
      have e2 : (x.who != d.who) = true := by simp; omega
      simp only [e, e2, Bool.not_false, Bool.and_false, Bool.or_false, Bool.false_eq_true, if_false, List.nil_append, if_true, List.singleton_append]
      rw [List.filter_cons, e2, if_pos rfl, List.map_cons, List.map_cons, DataW.insert, hb, if_neg (by simp; omega)]
      exact congrArg _ (ih hp.2)
/-- The number of entries is the row's length. -/
theorem own_tight {w : World} {Pr : Program} {k : TypeId} {R : Value → Option (DataW H × List MemPlace)} {b n : Nat} {l : List P} (h : w.ownsMap Pr k R b n (dat l)) : w.ownsMap Pr k R b l.length (dat l) := by
  obtain ⟨es, clock, hb, F, _, hD⟩ := h
  refine ⟨es, clock, hb, F, ?_, hD⟩
  have h1 := congrArg Maps.size hD
  rw [dat_size] at h1
  have h2 : Maps.size (DataW.map ((es.toList.map (Go.WideElems.rg Pr k R)).foldr DataW.insert [])) = es.size := by
    show ((es.toList.map (Go.WideElems.rg Pr k R)).foldr DataW.insert []).length = _
    rw [length_sorted]; simp
  omega
/-- Sorted, the keys are the row's. -/
theorem keys_sorted {l : List P} (hl : Rises l) {ss : List Int} (h : ss.Perm (l.map P.who)) : (ss.mergeSort fun x y => decide (x ≤ y)) = l.map P.who := by
  have tr : ∀ a b c : Int, decide (a ≤ b) = true → decide (b ≤ c) = true → decide (a ≤ c) = true := fun a b c h1 h2 => by simp only [decide_eq_true_eq] at *; omega
  have to : ∀ a b : Int, (decide (a ≤ b) || decide (b ≤ a)) = true := fun a b => by simp only [Bool.or_eq_true, decide_eq_true_eq]; omega
  have hs : (l.map P.who).Pairwise (fun a b => decide (a ≤ b) = true) := List.pairwise_map.2 (hl.imp fun {a b} h => decide_eq_true (by omega))
  exact List.Perm.eq_of_pairwise (le := fun a b => decide (a ≤ b) = true) (fun a b _ _ h1 h2 => by simp only [decide_eq_true_eq] at *; omega) (List.pairwise_mergeSort tr to ss) hs ((List.mergeSort_perm ss _).trans h)
end Go.Proofs.Ytihfcohebgemdaa.Vec
