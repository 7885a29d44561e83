/- Rows that grow by append, whose spare places hold zero cells: what else is read in the memory stays readable (of any program). -/
import Derived.Laws.AppendOwn
import Derived.Test.YtmjelcjdfamikaaGreatDoorLstMore
set_option linter.unusedSimpArgs false
set_option linter.unusedVariables false
namespace Go.Proofs.YtmjelcjdfamikaaGreatDoor.Spare
open Go Go.RowKit

/-- A row of the call's own, behind whose last element zero cells lie. -/
structure Spare (w : World) (base : Nat) (e : TypeId) (zs : List Value) (v : Value) (n : Nat) (xs : List Value) : Prop where
  own : w.ownsRow base e zs.length v n xs
  rest : ∀ g m cap o u, v = .slice (some ⟨g, 0, none⟩) m cap → n * zs.length ≤ o → w.cell? ⟨g, o, none⟩ = some u → zs[o % zs.length]? = some u
/-- Each cell stays, or it was a spare one of the row. -/
def Kept (w w' : World) (zs : List Value) (v : Value) (n : Nat) : Prop := ∀ b o u, w.cell? ⟨b, o, none⟩ = some u → w'.cell? ⟨b, o, none⟩ = some u ∨ (v.ownBlock = some b ∧ n * zs.length ≤ o ∧ zs[o % zs.length]? = some u)

/-- Where the row lies then: where it lay, or in a new block. -/
def SpareLoc (w : World) (v v' : Value) : Prop := ∀ g, v'.ownBlock = some g → v.ownBlock = some g ∨ w.heap.size ≤ g
theorem Spare.kept {w w' : World} {base : Nat} {e : TypeId} {zs : List Value} {v : Value} {n : Nat} {xs : List Value} {row : Option Nat} (h : Spare w base e zs v n xs) (hg : w.grownBy w' row) (hne : v.ownBlock = none ∨ v.ownBlock ≠ row) : Spare w' base e zs v n xs := by
  refine ⟨h.own.kept hg hne, fun g m cap o u hv ho hc => ?_⟩
  have hlt := (h.own.lt g (by rw [hv]; rfl)).2
  have hr : some g ≠ row := fun e => by
    rcases hne with h1 | h1
    · rw [hv] at h1; cases h1
    · exact h1 (by rw [hv]; exact e)
  rw [World.cell?_of_block (a := ⟨g, o, none⟩) (hg.block g hlt hr)] at hc
  exact h.rest g m cap o u hv ho hc
theorem Spare.nil (w : World) (base : Nat) (e : TypeId) (zs : List Value) : Spare w base e zs (.slice none 0 0) 0 [] := ⟨World.ownsRow_nil _ _ _ _, fun g m cap o u h => by cases h⟩
theorem Spare.below {w w' : World} {base : Nat} {e : TypeId} {zs : List Value} {v : Value} {n : Nat} {xs : List Value} (h : Spare w base e zs v n xs) (hb : Below w.heap.size w w') : Spare w' base e zs v n xs := by
  refine ⟨⟨h.own.1, ?_⟩, fun g m cap o u hv ho hc => ?_⟩
  · rcases h.own.2 with h1 | ⟨g, cap, cur, rfl, h1, h2, h3⟩
    · exact Or.inl h1
    · exact Or.inr ⟨g, cap, cur, rfl, h1, (hb.block g (Array.getElem?_eq_some_iff.1 h2).1).trans h2, h3⟩
  · have hlt : g < w.heap.size := by
      rcases h.own.2 with ⟨rfl, _⟩ | ⟨g', cap', cur, rfl, h1, h2, h3⟩
      · cases hv
      · cases hv
        exact (Array.getElem?_eq_some_iff.1 h2).1
    rw [hb.cell (p := ⟨g, o, none⟩) hlt] at hc
    exact h.rest g m cap o u hv ho hc
theorem Spare.alloc {w : World} {base : Nat} {e : TypeId} {zs : List Value} {v : Value} {n : Nat} {xs : List Value} (h : Spare w base e zs v n xs) (o : Obj) : Spare (w.alloc o) base e zs v n xs := h.below ((Below.refl _ _).alloc (Nat.le_refl _) o)
theorem zeroCells_get (zc : Array Value) (k j : Nat) (u : Value) (h : (Builtin.zeroCells zc k)[j]? = some u) : zc[j % zc.size]? = some u := by
  obtain ⟨hj, he⟩ := Array.getElem?_eq_some_iff.1 h
  simp only [Builtin.zeroCells, Array.size_map, Array.size_range] at hj
  simp only [Builtin.zeroCells, Array.getElem_map, Array.getElem_range] at he
  have hpos : 0 < zc.size := by
    rcases Nat.eq_zero_or_pos zc.size with h0 | h0
    · rw [h0, Nat.mul_zero] at hj; omega
    · exact h0
  have hlt := Nat.mod_lt j hpos
  rw [getElem!_pos zc _ hlt] at he
  rw [Array.getElem?_eq_getElem hlt, he]

section
variable {P : Program}
theorem fresh_spare (w : World) (base : Nat) (e : TypeId) (zs : List Value) (hpos : 0 < zs.length) (n cap : Nat) (xs : List Value) (hx : xs.length = n * zs.length) (hc : n ≤ cap) (hm : cap ≤ maxLen) (hb : base ≤ w.heap.size) :
    Spare (w.alloc (.cells (xs.toArray ++ Builtin.zeroCells zs.toArray (cap - n)) e)) base e zs (.slice (some ⟨w.heap.size, 0, none⟩) n cap) n xs := by
  refine ⟨⟨hx, .inr ⟨w.heap.size, cap, _, rfl, hb, heap_alloc_new w _, hc, hm, ?_, ?_⟩⟩, fun g m c o u hv ho hcell => ?_⟩
  · simp only [Array.size_append, List.size_toArray, size_zeroCells, hx, ← Nat.add_mul]
    congr 1
    omega
  · simp only [Array.toList_append]
    rw [← hx]
    exact List.take_left
  · cases hv
    rw [cell_of_row _ _ _ _ _ _ (heap_alloc_new w _), Array.getElem?_append] at hcell
    simp only [List.size_toArray, hx] at hcell
    rw [if_neg (by omega)] at hcell
    have h1 := zeroCells_get _ _ _ _ hcell
    simp only [List.size_toArray, List.getElem?_toArray] at h1
    rw [← h1]
    congr 1
    have : o = n * zs.length + (o - n * zs.length) := by omega
    rw [this, Nat.add_sub_cancel_left, Nat.add_comm, Nat.add_mul_mod_self_right]

theorem run_append_spare (w : World) (base : Nat) (t ty e : TypeId) (i : TypeInfo) (z : Value) (zs : List Value) (bytes : Nat) (ht : P.underlying t = some (.slice e)) (hi : P.info? e = some i) (hz : i.zero = some z)
    (hzc : z.cells = zs.toArray) (hsize : i.size = zs.length) (hby : i.bytes = bytes) (hpos : 0 < zs.length)
    (v : Value) (n : Nat) (xs : List Value) (hs : Spare w base e zs v n xs)
    (a : Addr) (m c : Nat) (news : List Value) (hm0 : 0 < m ∨ v ≠ .slice none 0 0) (hl : news.length = m * zs.length) (hnews : ∀ j u, news[j]? = some u → w.cell? (a.add j) = some u) (h1 : ∀ u ∈ news, u.oneCell' = true)
    (h63 : n + m ≤ maxLen) (hbytes : (n + m) * bytes ≤ 140737488355328) (hbase : base ≤ w.heap.size) :
    ∃ v' w', (Builtin.append_ #[t, t] ty #[v, .slice (some a) m c]).run P w = .ok v' w' ∧ Spare w' base e zs v' (n + m) (xs ++ news) ∧ w.grownBy w' v.ownBlock ∧ Kept w w' zs v n ∧ SpareLoc w v v' := by
  subst hby
  have hsmall : n + m ≤ 9223372036854775807 := by simp only [maxLen] at h63; omega
  have hown := hs.own
  have hlen : (xs ++ news).length = (n + m) * zs.length := by rw [List.length_append, hown.1, hl, Nat.add_mul]
  have anew : ∀ (old : Nat), ∃ w', w' = w.drew.alloc (.cells ((xs ++ news).toArray ++ Builtin.zeroCells zs.toArray (grownCap w (n + m) old e - (n + m))) e) ∧
      Spare w' base e zs (.slice (some ⟨w.heap.size, 0, none⟩) (n + m) (grownCap w (n + m) old e)) (n + m) (xs ++ news) ∧ w.grownBy w' v.ownBlock ∧ Kept w w' zs v n ∧ SpareLoc w v (.slice (some ⟨w.heap.size, 0, none⟩) (n + m) (grownCap w (n + m) old e)) := fun old =>
    ⟨_, rfl, fresh_spare w.drew base e zs hpos (n + m) _ (xs ++ news) hlen (grownCap_ge w (n + m) old e) (grownCap_le_maxLen w (n + m) old e h63) hbase,
      ⟨rfl, rfl, rfl, by simp, fun k hk _ => heap_alloc_old w.drew _ hk⟩,
      fun b o u hc => .inl ((World.cell?_of_block (a := ⟨b, o, none⟩) (heap_alloc_old w.drew _ (World.block_lt_of_cell? w ⟨b, o, none⟩ hc))).trans hc), fun g hg => .inr (by simp [Value.ownBlock] at hg; omega)⟩
  rcases hown.2 with ⟨rfl, rfl⟩ | ⟨g, cap, cur, rfl, hbg, hg, hnc, hcm, hcs, htake⟩
  · have hx : xs = [] := List.eq_nil_of_length_eq_zero (by simpa using hown.1)
    subst hx
    have hr := run_append_nil (P := P) w t ty e i z ht hi hz a m c news (by rw [hsize]; exact hl) hnews (hm0.elim id fun h => absurd rfl h) (by omega) (by have hb := hbytes; rw [Nat.zero_add] at hb; omega)
    obtain ⟨w', hw, q1, q2, q3, q4⟩ := anew 0
    refine ⟨_, w', ?_, q1, q2, q3, q4⟩
    rw [hr, hw, hzc]
    simp only [Nat.zero_add, List.nil_append]
  · by_cases hroom : n + m ≤ cap
    · have hfit : n * zs.length + news.length ≤ cur.size := by rw [hl, hcs, ← Nat.add_mul]; exact Nat.mul_le_mul_right _ hroom
      have hr := run_append_room (P := P) w t ty e i ht hi g n cap cur hg a m c news (by rw [hsize]; exact hl) hnews h1 hroom (by rw [hsize]; exact hfit)
      rw [hsize] at hr
      have hnew := setRow_heap w g cur (cur.toList.take (n * zs.length) ++ news ++ cur.toList.drop (n * zs.length + news.length)).toArray e (0, 0) hg
      have htl : (cur.toList.take (n * zs.length)).length = n * zs.length := by rw [List.length_take, Array.length_toList]; exact Nat.min_eq_left (Nat.le_trans (Nat.le_add_right _ _) hfit)
      refine ⟨_, _, hr, ⟨⟨hlen, .inr ⟨g, cap, _, rfl, hbg, hnew, hroom, hcm, ?_, ?_⟩⟩, fun g' m' c' o u hv ho hcell => ?_⟩, ⟨rfl, rfl, rfl, by simp [World.setRow], fun k _ hk => setRow_other w g k _ (fun e => hk (by simp [Value.ownBlock, e]))⟩, fun b o u hc => ?_, fun g hg => .inl hg⟩
      · simp only [List.size_toArray, List.length_append, List.length_take, List.length_drop, Array.length_toList]
        omega
      · rw [htake, ← hlen]
        exact List.take_left
      · cases hv
        rw [cell_of_row _ _ _ _ _ _ hnew] at hcell
        simp only [List.getElem?_toArray] at hcell
        rw [List.getElem?_append_right (by rw [List.length_append, htl, hl, ← Nat.add_mul]; exact ho), List.getElem?_drop, List.length_append, htl] at hcell
        have ho2 : (n + m) * zs.length = n * zs.length + news.length := by rw [hl, ← Nat.add_mul]
        rw [show n * zs.length + news.length + (o - (n * zs.length + news.length)) = o by omega] at hcell
        exact hs.rest g n cap o u rfl (by omega) (by rw [cell_of_row _ _ _ _ _ _ hg]; simpa using hcell)
      · by_cases hbg2 : b = g
        · subst hbg2
          by_cases ho : o < n * zs.length
          · refine .inl ?_
            rw [cell_of_row _ _ _ _ _ _ hnew]
            rw [cell_of_row _ _ _ _ _ _ hg] at hc
            simp only [List.getElem?_toArray]
            rw [List.append_assoc, List.getElem?_append_left (by omega), List.getElem?_take, if_pos ho]
            simpa using hc
          · exact .inr ⟨rfl, by omega, hs.rest b n cap o u rfl (by omega) hc⟩
        · exact .inl ((World.cell?_of_block (a := ⟨b, o, none⟩) (setRow_other w g b _ hbg2)).trans hc)
    · have holds : ∀ j u, xs[j]? = some u → w.cell? ((⟨g, 0, none⟩ : Addr).add j) = some u := hown.cells (g := g) rfl
      have hr := run_append_grow (P := P) w t ty e i z ht hi hz ⟨g, 0, none⟩ n cap xs (by rw [hsize]; exact hown.1) holds a m c news (by rw [hsize]; exact hl) hnews (by omega) (by omega) (growslice_fits (by omega) hbytes)
      obtain ⟨w', hw, q1, q2, q3, q4⟩ := anew cap
      refine ⟨_, w', ?_, q1, q2, q3, q4⟩
      rw [hr, hw, hzc]
      simp only [List.append_toArray]

theorem wpList_append_spare {w : World} {ops : Array Oper} {rest : List Oper} {o : Oper} {a : Act} {Q : Exit → Act → World → Prop} (hgd : o.guard = none) (s x : Operand) (t : TypeId)
    (ho : o.op = .call { callee := .builtin .append, args := #[s, x], argTypes := #[t, t] })
    (base : Nat) (e : TypeId) (i : TypeInfo) (z : Value) (zs : List Value) (bytes : Nat) (ht : P.underlying t = some (.slice e)) (hi : P.info? e = some i) (hz : i.zero = some z)
    (hzc : z.cells = zs.toArray) (hsize : i.size = zs.length) (hby : i.bytes = bytes) (hpos : 0 < zs.length)
    (v : Value) (n : Nat) (xs : List Value) (hs : a.eval s = v) (hown : Spare w base e zs v n xs)
    (ad : Addr) (m c : Nat) (news : List Value) (hx : a.eval x = .slice (some ad) m c) (hm0 : 0 < m ∨ v ≠ .slice none 0 0) (hl : news.length = m * zs.length) (hnews : ∀ j u, news[j]? = some u → w.cell? (ad.add j) = some u) (h1 : ∀ u ∈ news, u.oneCell' = true)
    (h63 : n + m ≤ maxLen) (hbytes : (n + m) * bytes ≤ 140737488355328) (hbase : base ≤ w.heap.size)
    (h : ∀ v' w', Spare w' base e zs v' (n + m) (xs ++ news) → w.grownBy w' v.ownBlock → Kept w w' zs v n → SpareLoc w v v' → wpList P ops Q rest (a.put o.dst v') w') : wpList P ops Q (o :: rest) a w := by
  refine wpList_plain hgd fun K hK => ?_
  obtain ⟨v', w', hr, q1, q2, q3, q4⟩ := run_append_spare (P := P) w base t o.type e i z zs bytes ht hi hz hzc hsize hby hpos v n xs hown ad m c news hm0 hl hnews h1 h63 hbytes hbase
  unfold Oper.wp execOp
  simp only [ho, resolve, invoke, builtin, Sem.run_bind, Sem.run_pure, Result.andThen_ok, List.map_toArray, List.map_cons, List.map_nil, hs, hx, hr]
  exact hK _ _ (h v' w' q1 q2 q3 q4)
end
end Go.Proofs.YtmjelcjdfamikaaGreatDoor.Spare
