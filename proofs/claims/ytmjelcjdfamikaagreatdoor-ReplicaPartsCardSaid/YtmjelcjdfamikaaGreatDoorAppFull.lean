/- An append to a slice without spare room makes memory alone (of any program); at rows of mutations. -/
import Derived.Test.YtmjelcjdfamikaaGreatDoorSpare
import Derived.Test.YtmjelcjdfamikaaGreatDoorConMore
set_option linter.unusedSimpArgs false
set_option linter.unusedVariables false
namespace Go.Proofs.YtmjelcjdfamikaaGreatDoor.Spare
open Go Go.RowKit
section
variable {P : Program}
theorem run_append_full (w : World) (t ty e : TypeId) (i : TypeInfo) (z : Value) (zs : List Value) (bytes : Nat) (ht : P.underlying t = some (.slice e)) (hi : P.info? e = some i) (hz : i.zero = some z)
    (hzc : z.cells = zs.toArray) (hsize : i.size = zs.length) (hby : i.bytes = bytes) (hpos : 0 < zs.length)
    (ao : Option Addr) (n : Nat) (xs : List Value) (hx : xs.length = n * zs.length) (hn0 : ao = none → n = 0) (hread : ∀ ad, ao = some ad → ∀ j u, xs[j]? = some u → w.cell? (ad.add j) = some u)
    (a : Addr) (m c : Nat) (news : List Value) (hm0 : 0 < m) (hl : news.length = m * zs.length) (hnews : ∀ j u, news[j]? = some u → w.cell? (a.add j) = some u)
    (h63 : n + m ≤ maxLen) (hbytes : (n + m) * bytes ≤ 140737488355328) :
    ∃ v' w', (Builtin.append_ #[t, t] ty #[.slice ao n n, .slice (some a) m c]).run P w = .ok v' w' ∧ Spare w' w.heap.size e zs v' (n + m) (xs ++ news) ∧ Below w.heap.size w w' := by
  subst hby
  have hsmall : n + m ≤ 9223372036854775807 := by simp only [maxLen] at h63; omega
  have hlen : (xs ++ news).length = (n + m) * zs.length := by rw [List.length_append, hx, hl, Nat.add_mul]
  have anew : ∀ (old : Nat), ∃ w', w' = w.drew.alloc (.cells ((xs ++ news).toArray ++ Builtin.zeroCells zs.toArray (grownCap w (n + m) old e - (n + m))) e) ∧
      Spare w' w.heap.size e zs (.slice (some ⟨w.heap.size, 0, none⟩) (n + m) (grownCap w (n + m) old e)) (n + m) (xs ++ news) ∧ Below w.heap.size w w' := fun old =>
    ⟨_, rfl, (fresh_spare w.drew w.heap.size e zs hpos (n + m) _ (xs ++ news) hlen (grownCap_ge w (n + m) old e) (grownCap_le_maxLen w (n + m) old e h63) (Nat.le_refl _)),
      ((Below.refl _ w).drew).alloc (by simp) _⟩
  cases ao with
  | none =>
    have h0 := hn0 rfl
    subst h0
    have hxe : xs = [] := List.eq_nil_of_length_eq_zero (by simpa using hx)
    subst hxe
    have hr := run_append_nil (P := P) w t ty e i z ht hi hz a m c news (by rw [hsize]; exact hl) hnews hm0 (by omega) (by have hb := hbytes; rw [Nat.zero_add] at hb; omega)
    obtain ⟨w', hw, q1, q2⟩ := anew 0
    refine ⟨_, w', ?_, q1, q2⟩
    rw [hr, hw, hzc]
    simp only [Nat.zero_add, List.nil_append]
  | some ad =>
    have hr := run_append_grow (P := P) w t ty e i z ht hi hz ad n n xs (by rw [hsize]; exact hx) (hread ad rfl) a m c news (by rw [hsize]; exact hl) hnews (by omega) (by omega) (growslice_fits (by omega) hbytes)
    obtain ⟨w', hw, q1, q2⟩ := anew n
    refine ⟨_, w', ?_, q1, q2⟩
    rw [hr, hw, hzc]
    simp only [List.append_toArray]

theorem wpList_append_full {w : World} {ops : Array Oper} {rest : List Oper} {o : Oper} {a : Act} {Q : Exit → Act → World → Prop} (hgd : o.guard = none) (s x : Operand) (t : TypeId)
    (ho : o.op = .call { callee := .builtin .append, args := #[s, x], argTypes := #[t, t] })
    (e : TypeId) (i : TypeInfo) (z : Value) (zs : List Value) (bytes : Nat) (ht : P.underlying t = some (.slice e)) (hi : P.info? e = some i) (hz : i.zero = some z)
    (hzc : z.cells = zs.toArray) (hsize : i.size = zs.length) (hby : i.bytes = bytes) (hpos : 0 < zs.length)
    (ao : Option Addr) (n : Nat) (xs : List Value) (hs : a.eval s = .slice ao n n) (hx : xs.length = n * zs.length) (hn0 : ao = none → n = 0) (hread : ∀ ad, ao = some ad → ∀ j u, xs[j]? = some u → w.cell? (ad.add j) = some u)
    (ad : Addr) (m c : Nat) (news : List Value) (hx2 : a.eval x = .slice (some ad) m c) (hm0 : 0 < m) (hl : news.length = m * zs.length) (hnews : ∀ j u, news[j]? = some u → w.cell? (ad.add j) = some u)
    (h63 : n + m ≤ maxLen) (hbytes : (n + m) * bytes ≤ 140737488355328)
    (h : ∀ v' w', Spare w' w.heap.size e zs v' (n + m) (xs ++ news) → Below w.heap.size w w' → wpList P ops Q rest (a.put o.dst v') w') : wpList P ops Q (o :: rest) a w := by
  refine wpList_plain hgd fun K hK => ?_
  obtain ⟨v', w', hr, q1, q2⟩ := run_append_full (P := P) w t o.type e i z zs bytes ht hi hz hzc hsize hby hpos ao n xs hx hn0 hread ad m c news hm0 hl hnews h63 hbytes
  unfold Oper.wp execOp
  simp only [ho, resolve, invoke, builtin, Sem.run_bind, Sem.run_pure, Result.andThen_ok, List.map_toArray, List.map_cons, List.map_nil, hs, hx2, hr]
  exact hK _ _ (h v' w' q1 q2)
end
end Go.Proofs.YtmjelcjdfamikaaGreatDoor.Spare

namespace Go.Proofs.YtmjelcjdfamikaaGreatDoor.Mut
open Go.RowKit Go.Sort Go.Proofs.YtmjelcjdfamikaaGreatDoor.Ord
set_option linter.unusedSectionVars false
variable [Inhabited Lim]
/-- 'append(l[:len(l):len(l)], x)' at mutations: a row of its own. -/
theorem wpList_append_cut {w : World} {ops : Array Oper} {rest : List Oper} {o : Oper} {a : Act} {Q : Exit → Act → World → Prop} (hgd : o.guard = none) (s x : Operand)
    (ho : o.op = .call { callee := .builtin .append, args := #[s, x], argTypes := #[22, 22] }) (ao : Option Addr) (n : Nat) (R : List Ro) (hs : a.eval s = .slice ao n n) (hR : MRow w (.slice ao n n) R)
    (ad : Addr) (m c : Nat) (K : List Ro) (hx : a.eval x = .slice (some ad) m c) (hK : MRow w (.slice (some ad) m c) K) (hm0 : 0 < m) (hm : n + m ≤ 1000000)
    (h : ∀ v' w', MRow w' v' (R ++ K) → RowKit.Below w.heap.size w w' → wpList Tryz.prog ops Q rest (a.put o.dst v') w') : wpList Tryz.prog ops Q (o :: rest) a w := by
  obtain ⟨i0, hi, hz0, hz1, hz2⟩ := info_parts info_M
  have hnR : n = R.length := Lst.len hR.row
  have hmK : m = K.length := Lst.len hK.row
  subst hnR hmK
  refine Spare.wpList_append_full hgd s x 22 ho 40 i0 zeroM [.int .i64 0, .int .i64 0, .string ByteArray.empty, .string ByteArray.empty, .string ByteArray.empty, .int .i64 0, .int .i64 0, .int .i64 0, .int .i64 0, .slice none 0 0] 120 Tryz.underlying22 hi hz0 rfl hz1 hz2 (by decide)
    ao R.length (R.flatMap enM) hs (flatMap_len enM_len R) (fun e => ?_) (fun ad' e => ?_) ad K.length c (K.flatMap enM) hx hm0 (flatMap_len enM_len K) (Lst.news enM_len (by decide) hK.row) (by unfold maxLen; omega) (by omega) (fun v' w' h1 h2 => ?_)
  · cases hR0 : R with
    | nil => rfl
    | cons y l =>
      exfalso
      subst e
      obtain ⟨b, off, e, _⟩ := Lst.get hR.row (show 0 < R.length by rw [hR0]; simp)
      cases e
  · subst e
    exact Lst.news enM_len (by decide) hR.row
  · refine h v' w' ⟨Lst.owned enM_len (by decide) (show R.length + K.length = (R ++ K).length by simp) (by rw [List.flatMap_append]; exact h1.own), fun y hy => ?_⟩ h2
    rcases List.mem_append.1 hy with g | g
    · exact (hR.over y g).below h2
    · exact (hK.over y g).below h2
end Go.Proofs.YtmjelcjdfamikaaGreatDoor.Mut
