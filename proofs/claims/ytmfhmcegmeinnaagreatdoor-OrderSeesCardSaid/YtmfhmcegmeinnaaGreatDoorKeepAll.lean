/- Rows that grow by append, whose spare places hold zero cells: what else is read in the memory stays readable (of any program). · Rows of reports that grow by append (layer 25): contents stay readable beside them. · What is read beside a row that grows with spare zero cells stays readable: rows of mutations, contents (layers 25, 29). · Rows of mutations that grow by append, with spare zero cells; contents that are read beside them stay readable (layer 29). -/
import Derived.Laws.AppendOwn
import Derived.Test.YtmfhmcegmeinnaaGreatDoorLstMore
import Derived.Test.YtmfhmcegmeinnaaGreatDoorOrdAll
import Derived.Test.YtmfhmcegmeinnaaGreatDoorSlRow
set_option linter.unusedSimpArgs false
set_option linter.unusedVariables false
namespace Go.Proofs.YtmfhmcegmeinnaaGreatDoor.Spare
open Go Go.RowKit

/-- A row of the call's own, behind whose last element zero cells lie. -/
structure Spare (w : World) (base : Nat) (e : TypeId) (zs : List Value) (v : Value) (n : Nat) (xs : List Value) : Prop where
  own : w.ownsRow base e zs.length v n xs
  rest : ∀ g m cap o u, v = .slice (some ⟨g, 0, none⟩) m cap → n * zs.length ≤ o → w.cell? ⟨g, o, none⟩ = some u → zs[o % zs.length]? = some u
/-- Each cell stays, or it was a spare one of the row. -/
def Kept (w w' : World) (zs : List Value) (v : Value) (n : Nat) : Prop := ∀ b o u, w.cell? ⟨b, o, none⟩ = some u → w'.cell? ⟨b, o, none⟩ = some u ∨ (v.ownBlock = some b ∧ n * zs.length ≤ o ∧ zs[o % zs.length]? = some u)

/-- Where the row lies then: where it lay, or in a new block. -/
def SpareLoc (w : World) (v v' : Value) : Prop := ∀ g, v'.ownBlock = some g → v.ownBlock = some g ∨ w.heap.size ≤ g
theorem Spare.kept {w w' : World} {base : Nat} {e : TypeId} {zs : List Value} {v : Value} {n : Nat} {xs : List Value} {row : Option Nat} (h : Spare w base e zs v n xs) (hg : w.grownBy w' row) (hne : v.ownBlock = none ∨ v.ownBlock ≠ row) : Spare w' base e zs v n xs := by
  refine ⟨h.own.kept hg hne, fun g m cap o u hv ho hc => ?_⟩
  have hlt := (h.own.lt g (by rw [hv]; rfl)).2
  have hr : some g ≠ row := fun e => by
    rcases hne with h1 | h1
    · rw [hv] at h1; cases h1
    · exact h1 (by rw [hv]; exact e)
  rw [World.cell?_of_block (a := ⟨g, o, none⟩) (hg.block g hlt hr)] at hc
  exact h.rest g m cap o u hv ho hc
theorem Spare.nil (w : World) (base : Nat) (e : TypeId) (zs : List Value) : Spare w base e zs (.slice none 0 0) 0 [] := ⟨World.ownsRow_nil _ _ _ _, fun g m cap o u h => by cases h⟩
theorem Spare.below {w w' : World} {base : Nat} {e : TypeId} {zs : List Value} {v : Value} {n : Nat} {xs : List Value} (h : Spare w base e zs v n xs) (hb : Below w.heap.size w w') : Spare w' base e zs v n xs := by
  refine ⟨⟨h.own.1, ?_⟩, fun g m cap o u hv ho hc => ?_⟩
  · rcases h.own.2 with h1 | ⟨g, cap, cur, rfl, h1, h2, h3⟩
    · exact Or.inl h1
    · exact Or.inr ⟨g, cap, cur, rfl, h1, (hb.block g (Array.getElem?_eq_some_iff.1 h2).1).trans h2, h3⟩
  · have hlt : g < w.heap.size := by
      rcases h.own.2 with ⟨rfl, _⟩ | ⟨g', cap', cur, rfl, h1, h2, h3⟩
      · cases hv
      · cases hv
        exact (Array.getElem?_eq_some_iff.1 h2).1
    rw [hb.cell (p := ⟨g, o, none⟩) hlt] at hc
    exact h.rest g m cap o u hv ho hc
theorem Spare.alloc {w : World} {base : Nat} {e : TypeId} {zs : List Value} {v : Value} {n : Nat} {xs : List Value} (h : Spare w base e zs v n xs) (o : Obj) : Spare (w.alloc o) base e zs v n xs := h.below ((Below.refl _ _).alloc (Nat.le_refl _) o)
theorem zeroCells_get (zc : Array Value) (k j : Nat) (u : Value) (h : (Builtin.zeroCells zc k)[j]? = some u) : zc[j % zc.size]? = some u := by
  obtain ⟨hj, he⟩ := Array.getElem?_eq_some_iff.1 h
  simp only [Builtin.zeroCells, Array.size_map, Array.size_range] at hj
  simp only [Builtin.zeroCells, Array.getElem_map, Array.getElem_range] at he
  have hpos : 0 < zc.size := by
    rcases Nat.eq_zero_or_pos zc.size with h0 | h0
    · rw [h0, Nat.mul_zero] at hj; omega
    · exact h0
  have hlt := Nat.mod_lt j hpos
  rw [getElem!_pos zc _ hlt] at he
  rw [Array.getElem?_eq_getElem hlt, he]

section
variable {P : Program}
theorem fresh_spare (w : World) (base : Nat) (e : TypeId) (zs : List Value) (hpos : 0 < zs.length) (n cap : Nat) (xs : List Value) (hx : xs.length = n * zs.length) (hc : n ≤ cap) (hm : cap ≤ maxLen) (hb : base ≤ w.heap.size) :
    Spare (w.alloc (.cells (xs.toArray ++ Builtin.zeroCells zs.toArray (cap - n)) e)) base e zs (.slice (some ⟨w.heap.size, 0, none⟩) n cap) n xs := by
  refine ⟨⟨hx, .inr ⟨w.heap.size, cap, _, rfl, hb, heap_alloc_new w _, hc, hm, ?_, ?_⟩⟩, fun g m c o u hv ho hcell => ?_⟩
  · simp only [Array.size_append, List.size_toArray, size_zeroCells, hx, ← Nat.add_mul]
    congr 1
    omega
  · simp only [Array.toList_append]
    rw [← hx]
    exact List.take_left
  · cases hv
    rw [cell_of_row _ _ _ _ _ _ (heap_alloc_new w _), Array.getElem?_append] at hcell
    simp only [List.size_toArray, hx] at hcell
    rw [if_neg (by omega)] at hcell
    have h1 := zeroCells_get _ _ _ _ hcell
    simp only [List.size_toArray, List.getElem?_toArray] at h1
    rw [← h1]
    congr 1
    have : o = n * zs.length + (o - n * zs.length) := by omega
    rw [this, Nat.add_sub_cancel_left, Nat.add_comm, Nat.add_mul_mod_self_right]

theorem run_append_spare (w : World) (base : Nat) (t ty e : TypeId) (i : TypeInfo) (z : Value) (zs : List Value) (bytes : Nat) (ht : P.underlying t = some (.slice e)) (hi : P.info? e = some i) (hz : i.zero = some z)
    (hzc : z.cells = zs.toArray) (hsize : i.size = zs.length) (hby : i.bytes = bytes) (hpos : 0 < zs.length)
    (v : Value) (n : Nat) (xs : List Value) (hs : Spare w base e zs v n xs)
    (a : Addr) (m c : Nat) (news : List Value) (hm0 : 0 < m ∨ v ≠ .slice none 0 0) (hl : news.length = m * zs.length) (hnews : ∀ j u, news[j]? = some u → w.cell? (a.add j) = some u) (h1 : ∀ u ∈ news, u.oneCell' = true)
    (h63 : n + m ≤ maxLen) (hbytes : (n + m) * bytes ≤ 140737488355328) (hbase : base ≤ w.heap.size) :
    ∃ v' w', (Builtin.append_ #[t, t] ty #[v, .slice (some a) m c]).run P w = .ok v' w' ∧ Spare w' base e zs v' (n + m) (xs ++ news) ∧ w.grownBy w' v.ownBlock ∧ Kept w w' zs v n ∧ SpareLoc w v v' := by
  subst hby
  have hsmall : n + m ≤ 9223372036854775807 := by simp only [maxLen] at h63; omega
  have hown := hs.own
  have hlen : (xs ++ news).length = (n + m) * zs.length := by rw [List.length_append, hown.1, hl, Nat.add_mul]
  have anew : ∀ (old : Nat), ∃ w', w' = w.drew.alloc (.cells ((xs ++ news).toArray ++ Builtin.zeroCells zs.toArray (grownCap w (n + m) old e - (n + m))) e) ∧
      Spare w' base e zs (.slice (some ⟨w.heap.size, 0, none⟩) (n + m) (grownCap w (n + m) old e)) (n + m) (xs ++ news) ∧ w.grownBy w' v.ownBlock ∧ Kept w w' zs v n ∧ SpareLoc w v (.slice (some ⟨w.heap.size, 0, none⟩) (n + m) (grownCap w (n + m) old e)) := fun old =>
    ⟨_, rfl, fresh_spare w.drew base e zs hpos (n + m) _ (xs ++ news) hlen (grownCap_ge w (n + m) old e) (grownCap_le_maxLen w (n + m) old e h63) hbase,
      ⟨rfl, rfl, rfl, by simp, fun k hk _ => heap_alloc_old w.drew _ hk⟩,
      fun b o u hc => .inl ((World.cell?_of_block (a := ⟨b, o, none⟩) (heap_alloc_old w.drew _ (World.block_lt_of_cell? w ⟨b, o, none⟩ hc))).trans hc), fun g hg => .inr (by simp [Value.ownBlock] at hg; omega)⟩
  rcases hown.2 with ⟨rfl, rfl⟩ | ⟨g, cap, cur, rfl, hbg, hg, hnc, hcm, hcs, htake⟩
  · have hx : xs = [] := List.eq_nil_of_length_eq_zero (by simpa using hown.1)
    subst hx
    have hr := run_append_nil (P := P) w t ty e i z ht hi hz a m c news (by rw [hsize]; exact hl) hnews (hm0.elim id fun h => absurd rfl h) (by omega) (by have hb := hbytes; rw [Nat.zero_add] at hb; omega)
    obtain ⟨w', hw, q1, q2, q3, q4⟩ := anew 0
    refine ⟨_, w', ?_, q1, q2, q3, q4⟩
    rw [hr, hw, hzc]
    simp only [Nat.zero_add, List.nil_append]
  · by_cases hroom : n + m ≤ cap
    · have hfit : n * zs.length + news.length ≤ cur.size := by rw [hl, hcs, ← Nat.add_mul]; exact Nat.mul_le_mul_right _ hroom
      have hr := run_append_room (P := P) w t ty e i ht hi g n cap cur hg a m c news (by rw [hsize]; exact hl) hnews h1 hroom (by rw [hsize]; exact hfit)
      rw [hsize] at hr
      have hnew := setRow_heap w g cur (cur.toList.take (n * zs.length) ++ news ++ cur.toList.drop (n * zs.length + news.length)).toArray e (0, 0) hg
      have htl : (cur.toList.take (n * zs.length)).length = n * zs.length := by rw [List.length_take, Array.length_toList]; exact Nat.min_eq_left (Nat.le_trans (Nat.le_add_right _ _) hfit)
      refine ⟨_, _, hr, ⟨⟨hlen, .inr ⟨g, cap, _, rfl, hbg, hnew, hroom, hcm, ?_, ?_⟩⟩, fun g' m' c' o u hv ho hcell => ?_⟩, ⟨rfl, rfl, rfl, by simp [World.setRow], fun k _ hk => setRow_other w g k _ (fun e => hk (by simp [Value.ownBlock, e]))⟩, fun b o u hc => ?_, fun g hg => .inl hg⟩
      · simp only [List.size_toArray, List.length_append, List.length_take, List.length_drop, Array.length_toList]
        omega
      · rw [htake, ← hlen]
        exact List.take_left
      · cases hv
        rw [cell_of_row _ _ _ _ _ _ hnew] at hcell
        simp only [List.getElem?_toArray] at hcell
        rw [List.getElem?_append_right (by rw [List.length_append, htl, hl, ← Nat.add_mul]; exact ho), List.getElem?_drop, List.length_append, htl] at hcell
        have ho2 : (n + m) * zs.length = n * zs.length + news.length := by rw [hl, ← Nat.add_mul]
        rw [show n * zs.length + news.length + (o - (n * zs.length + news.length)) = o by omega] at hcell
        exact hs.rest g n cap o u rfl (by omega) (by rw [cell_of_row _ _ _ _ _ _ hg]; simpa using hcell)
      · by_cases hbg2 : b = g
        · subst hbg2
          by_cases ho : o < n * zs.length
          · refine .inl ?_
            rw [cell_of_row _ _ _ _ _ _ hnew]
            rw [cell_of_row _ _ _ _ _ _ hg] at hc
            simp only [List.getElem?_toArray]
            rw [List.append_assoc, List.getElem?_append_left (by omega), List.getElem?_take, if_pos ho]
            simpa using hc
          · exact .inr ⟨rfl, by omega, hs.rest b n cap o u rfl (by omega) hc⟩
        · exact .inl ((World.cell?_of_block (a := ⟨b, o, none⟩) (setRow_other w g b _ hbg2)).trans hc)
    · have holds : ∀ j u, xs[j]? = some u → w.cell? ((⟨g, 0, none⟩ : Addr).add j) = some u := hown.cells (g := g) rfl
      have hr := run_append_grow (P := P) w t ty e i z ht hi hz ⟨g, 0, none⟩ n cap xs (by rw [hsize]; exact hown.1) holds a m c news (by rw [hsize]; exact hl) hnews (by omega) (by omega) (growslice_fits (by omega) hbytes)
      obtain ⟨w', hw, q1, q2, q3, q4⟩ := anew cap
      refine ⟨_, w', ?_, q1, q2, q3, q4⟩
      rw [hr, hw, hzc]
      simp only [List.append_toArray]

theorem wpList_append_spare {w : World} {ops : Array Oper} {rest : List Oper} {o : Oper} {a : Act} {Q : Exit → Act → World → Prop} (hgd : o.guard = none) (s x : Operand) (t : TypeId)
    (ho : o.op = .call { callee := .builtin .append, args := #[s, x], argTypes := #[t, t] })
    (base : Nat) (e : TypeId) (i : TypeInfo) (z : Value) (zs : List Value) (bytes : Nat) (ht : P.underlying t = some (.slice e)) (hi : P.info? e = some i) (hz : i.zero = some z)
    (hzc : z.cells = zs.toArray) (hsize : i.size = zs.length) (hby : i.bytes = bytes) (hpos : 0 < zs.length)
    (v : Value) (n : Nat) (xs : List Value) (hs : a.eval s = v) (hown : Spare w base e zs v n xs)
    (ad : Addr) (m c : Nat) (news : List Value) (hx : a.eval x = .slice (some ad) m c) (hm0 : 0 < m ∨ v ≠ .slice none 0 0) (hl : news.length = m * zs.length) (hnews : ∀ j u, news[j]? = some u → w.cell? (ad.add j) = some u) (h1 : ∀ u ∈ news, u.oneCell' = true)
    (h63 : n + m ≤ maxLen) (hbytes : (n + m) * bytes ≤ 140737488355328) (hbase : base ≤ w.heap.size)
    (h : ∀ v' w', Spare w' base e zs v' (n + m) (xs ++ news) → w.grownBy w' v.ownBlock → Kept w w' zs v n → SpareLoc w v v' → wpList P ops Q rest (a.put o.dst v') w') : wpList P ops Q (o :: rest) a w := by
  refine wpList_plain hgd fun K hK => ?_
  obtain ⟨v', w', hr, q1, q2, q3, q4⟩ := run_append_spare (P := P) w base t o.type e i z zs bytes ht hi hz hzc hsize hby hpos v n xs hown ad m c news hm0 hl hnews h1 h63 hbytes hbase
  unfold Oper.wp execOp
  simp only [ho, resolve, invoke, builtin, Sem.run_bind, Sem.run_pure, Result.andThen_ok, List.map_toArray, List.map_cons, List.map_nil, hs, hx, hr]
  exact hK _ _ (h v' w' q1 q2 q3 q4)
end
end Go.Proofs.YtmfhmcegmeinnaaGreatDoor.Spare

namespace Go.Proofs.YtmfhmcegmeinnaaGreatDoor.Mut
open Go.RowKit Go.Sort Go.Proofs.YtmfhmcegmeinnaaGreatDoor.Ord Go.Proofs.YtmfhmcegmeinnaaGreatDoor.RegInv Go.Proofs.YtmfhmcegmeinnaaGreatDoor.Spare
set_option linter.unusedSectionVars false
variable [Inhabited Lim]

def zR : List Value := [.slice none 0 0, .slice none 0 0, .slice none 0 0, .int .i64 0, .int .i64 0, .int .i64 0, .bool false]
theorem zR_str (k : Nat) (s : ByteArray) : zR[k]? ≠ some (.string s) := by
  rcases k with _ | _ | _ | _ | _ | _ | _ | k <;> simp [zR]
theorem zR_int (k : Nat) (i : Int) (h : zR[k]? = some (.int .i64 i)) : (k = 3 ∨ k = 4 ∨ k = 5) ∧ i = 0 := by
  rcases k with _ | _ | _ | _ | _ | _ | _ | k <;> simp [zR] at h <;> simp [h]
theorem spare_str {w : World} {base : Nat} {e : TypeId} {v : Value} {n : Nat} {xs : List Value} (h : Spare w base e zR v n xs) (hx : ∀ s, Value.string s ∉ xs) {g o : Nat} (hg : v.ownBlock = some g) (s : ByteArray) : w.cell? ⟨g, o, none⟩ ≠ some (.string s) := by
  intro hc
  rcases h.own.2 with ⟨rfl, _⟩ | ⟨g', cap, cur, rfl, h1, h2, h3, h4, h5, h6⟩
  · cases hg
  · simp [Value.ownBlock] at hg
    subst hg
    by_cases ho : o < n * zR.length
    · rw [cell_of_row _ _ _ _ _ _ h2] at hc
      have h7 : xs[o]? = some (.string s) := by rw [← h6, List.getElem?_take, if_pos ho]; simpa using hc
      exact hx s (List.mem_of_getElem? h7)
    · exact zR_str _ _ (h.rest g' n cap o _ rfl (by omega) hc)
theorem lst_kept10 {w w' : World} {base : Nat} {e : TypeId} {v u : Value} {n : Nat} {xs : List Value} {l : List Ro} (h : Lst 10 enM w u l) (hs : Spare w base e zR v n xs) (hx : ∀ s, Value.string s ∉ xs) (hk : Kept w w' zR v n) (hsz : w.heap.size ≤ w'.heap.size) : Lst 10 enM w' u l := by
  obtain ⟨ao, cap, e1, h1, h2, h3⟩ := h
  refine ⟨ao, cap, e1, h1, h2, h3.imp id ?_⟩
  rintro ⟨b, off, e2, hb, hc⟩
  refine ⟨b, off, e2, Nat.lt_of_lt_of_le hb hsz, fun i x hi j hj => ?_⟩
  have hj2 := hc i x hi 2 (by decide)
  have hj1 := hc i x hi j hj
  rw [List.getElem?_eq_getElem (by rw [enM_len]; exact hj)] at hj1 ⊢
  rcases hk _ _ _ hj1 with h4 | ⟨h4, -, -⟩
  · exact h4
  · exact absurd hj2 (spare_str hs hx h4 _)
theorem lst_kept3 {w w' : World} {base : Nat} {e : TypeId} {v u : Value} {n : Nat} {xs : List Value} {l : List Stp} (h : Lst 3 enS w u l) (hr : ∀ s ∈ l, stR s = true) (hs : Spare w base e zR v n xs) (hk : Kept w w' zR v n) (hsz : w.heap.size ≤ w'.heap.size) : Lst 3 enS w' u l := by
  obtain ⟨ao, cap, e1, h1, h2, h3⟩ := h
  refine ⟨ao, cap, e1, h1, h2, h3.imp id ?_⟩
  rintro ⟨b, off, e2, hb, hc⟩
  refine ⟨b, off, e2, Nat.lt_of_lt_of_le hb hsz, fun i x hi j hj => ?_⟩
  have hj1 := hc i x hi j hj
  have c0 : w.cell? ⟨b, off + i * 3 + 0, none⟩ = some (.int .i64 x.p) := hc i x hi 0 (by decide)
  have c1 : w.cell? ⟨b, off + i * 3 + 1, none⟩ = some (.int .i64 x.l) := hc i x hi 1 (by decide)
  have c2 : w.cell? ⟨b, off + i * 3 + 2, none⟩ = some (.int .i64 x.w) := hc i x hi 2 (by decide)
  rw [List.getElem?_eq_getElem (by rw [enS_len]; exact hj)] at hj1 ⊢
  rcases hk _ _ _ hj1 with h4 | ⟨h4, h5, -⟩
  · exact h4
  · exfalso
    have hz : zR.length = 7 := rfl
    rw [hz] at h5
    obtain ⟨g, m, cp, hv⟩ : ∃ g m cp, v = .slice (some ⟨g, 0, none⟩) m cp := by
      rcases hs.own.2 with ⟨rfl, _⟩ | ⟨g', cap', cur, rfl, _⟩
      · cases h4
      · exact ⟨_, _, _, rfl⟩
    have hg : g = b := by rw [hv] at h4; simpa [Value.ownBlock] using h4
    subst hg
    have r2 := zR_int _ _ (hs.rest g m cp _ _ hv (by rw [hz]; omega) c2)
    rw [hz] at r2
    by_cases hq : n * 7 ≤ off + i * 3
    · have r0 := zR_int _ _ (hs.rest g m cp _ _ hv (by rw [hz]; omega) c0)
      have r1 := zR_int _ _ (hs.rest g m cp _ _ hv (by rw [hz]; omega) c1)
      have h9 := hr x (List.mem_of_getElem? hi)
      unfold stR at h9
      simp [r0.2, r1.2, r2.2] at h9
    · have := r2.1
      omega
theorem reads_kept {w w' : World} {base : Nat} {e : TypeId} {v u : Value} {n : Nat} {xs : List Value} {l : List Mu} (h : Reads w u l) (hr : ∀ m ∈ l, rightF m = true) (hs : Spare w base e zR v n xs) (hx : ∀ s, Value.string s ∉ xs) (hk : Kept w w' zR v n) (hsz : w.heap.size ≤ w'.heap.size) : Reads w' u l := by
  obtain ⟨R, e1, hR⟩ := h
  exact ⟨R, e1, lst_kept10 hR.row hs hx hk hsz, fun x hx2 => ⟨lst_kept3 (hR.over x hx2).lst (right_over (hr x.1 (by rw [← e1]; exact List.mem_map.2 ⟨x, hx2, rfl⟩))) hs hk hsz, (hR.over x hx2).zn⟩⟩
theorem lies_kept {w w' : World} {base : Nat} {e : TypeId} {v a b d : Value} {n k : Nat} {xs : List Value} {c : Con} (h : Lies w a b d c) (hg : Good c k) (hs : Spare w base e zR v n xs) (hx : ∀ s, Value.string s ∉ xs) (hk : Kept w w' zR v n) (hsz : w.heap.size ≤ w'.heap.size) : Lies w' a b d c :=
  ⟨reads_kept h.cells (fun m hm => hg.okc.right m (by unfold Con.all; simp [hm])) hs hx hk hsz, reads_kept h.wipes (fun m hm => hg.okc.right m (by unfold Con.all; simp [hm])) hs hx hk hsz, reads_kept h.sibs (fun m hm => hg.okc.right m (by unfold Con.all; simp [hm])) hs hx hk hsz⟩

/-! ## Appending reports -/
def Forms (x : Rp) : Prop := (∃ ao n c, x.a = .slice ao n c) ∧ (∃ ao n c, x.b = .slice ao n c) ∧ ∃ ao n c, x.d = .slice ao n c
theorem Lies.forms {w : World} {x : Rp} (h : Lies w x.a x.b x.d x.c) : Forms x := ⟨h.cells.slice, h.wipes.slice, h.sibs.slice⟩
theorem flatR_str {R : List Rp} (h : ∀ x ∈ R, Forms x) (s : ByteArray) : Value.string s ∉ R.flatMap enR := by
  intro hm
  obtain ⟨x, hx, h1⟩ := List.mem_flatMap.1 hm
  obtain ⟨⟨_, _, _, e1⟩, ⟨_, _, _, e2⟩, ⟨_, _, _, e3⟩⟩ := h x hx
  unfold enR at h1
  simp [e1, e2, e3] at h1
theorem flatR_one {R : List Rp} (h : ∀ x ∈ R, Forms x) : ∀ u ∈ R.flatMap enR, u.oneCell' = true := by
  intro u hm
  obtain ⟨x, hx, h1⟩ := List.mem_flatMap.1 hm
  obtain ⟨⟨_, _, _, e1⟩, ⟨_, _, _, e2⟩, ⟨_, _, _, e3⟩⟩ := h x hx
  unfold enR at h1
  simp only [e1, e2, e3, List.mem_cons, List.not_mem_nil, or_false] at h1
  rcases h1 with rfl | rfl | rfl | rfl | rfl | rfl | rfl <;> rfl
theorem wpList_append_reps {w : World} {ops : Array Oper} {rest : List Oper} {o : Oper} {a : Act} {Q : Exit → Act → World → Prop} (hgd : o.guard = none) (s x : Operand) {t e : TypeId}
    (ho : o.op = .call { callee := .builtin .append, args := #[s, x], argTypes := #[t, t] }) (ht : Tryz.prog.underlying t = some (.slice e))
    (hinfo : (Tryz.prog.info? e).map (fun i => (i.zero, i.size, i.bytes)) = some (some (.agg ⟨zR⟩), 7, 104)) (base : Nat) (v : Value) (n : Nat) (xs : List Value) (hs : a.eval s = v) (hown : Spare w base e zR v n xs)
    (ad : Addr) (m c : Nat) (R : List Rp) (hx : a.eval x = .slice (some ad) m c) (hR : Lst 7 enR w (.slice (some ad) m c) R) (hF : ∀ x ∈ R, Forms x) (hm0 : 0 < m ∨ v ≠ .slice none 0 0) (hm : n + m ≤ 1000000) (hbase : base ≤ w.heap.size)
    (h : ∀ v' w', Spare w' base e zR v' (n + m) (xs ++ R.flatMap enR) → w.grownBy w' v.ownBlock → Kept w w' zR v n → SpareLoc w v v' → wpList Tryz.prog ops Q rest (a.put o.dst v') w') : wpList Tryz.prog ops Q (o :: rest) a w := by
  obtain ⟨i0, hi, hz0, hz1, hz2⟩ := info_parts hinfo
  have hmR : m = R.length := Lst.len hR
  subst hmR
  exact wpList_append_spare hgd s x t ho base e i0 (.agg ⟨zR⟩) zR 104 ht hi hz0 rfl hz1 hz2 (by decide) v n xs hs hown ad R.length c (R.flatMap enR) hx hm0 (flatMap_len enR_len R) (Lst.news enR_len (by decide) hR) (flatR_one hF) (by unfold maxLen; omega) (by omega) hbase h
/-- What two reports have alike. -/
def core (x : Rp) : Con × Stp × Bool := (x.c, x.f, x.q)
theorem baseF_core {R R' : List Rp} (h : R.map core = R'.map core) : baseF R = baseF R' := by
  have key : ∀ (R : List Rp) acc, R.foldl baseStep acc = (R.map core).foldl (fun acc x => if x.2.2 then acc else (maxS acc.1 x.2.1, true)) acc := by
    intro R
    induction R with
    | nil => intro acc; rfl
    | cons x R ih => intro acc; rw [List.foldl_cons, List.map_cons, List.foldl_cons, ih]; rfl
  unfold baseF
  rw [key, key, h]
theorem combC_core {R R' : List Rp} (h : R.map core = R'.map core) (s b : Stp) : combC R s b = combC R' s b := by
  unfold combC
  have e : ∀ R : List Rp, R.map (partR s b) = (R.map core).map fun x => (if (!x.2.2 && eqT x.2.1 b) = true then x.1 else x.1.filter (aboveB b)).filter (uptoB s) := fun R => by
    rw [List.map_map]; rfl
  rw [e, e, h]
theorem combF_core {R R' : List Rp} (h : R.map core = R'.map core) (s : Stp) : combF R s = combF R' s := by
  unfold combF
  rw [baseF_core h, combC_core h]
end Go.Proofs.YtmfhmcegmeinnaaGreatDoor.Mut

namespace Go.Proofs.YtmfhmcegmeinnaaGreatDoor.Mut
open Go.RowKit Go.Sort Go.Proofs.YtmfhmcegmeinnaaGreatDoor.Ord Go.Proofs.YtmfhmcegmeinnaaGreatDoor.RegInv Go.Proofs.YtmfhmcegmeinnaaGreatDoor.Spare
set_option linter.unusedSectionVars false
variable [Inhabited Lim]

/-- What is asked of a row's cells: no texts; one of the first three cells is no number. -/
structure Plainly (zs xs : List Value) (j : Nat) : Prop where
  lt : j < 3
  len : j < zs.length
  sz : ∀ s, Value.string s ∉ zs
  sx : ∀ s, Value.string s ∉ xs
  jz : ∀ i, zs[j]? ≠ some (.int .i64 i)
  jx : ∀ i, xs[j]? ≠ some (.int .i64 i)
section
variable {w w' : World} {base : Nat} {e : TypeId} {zs : List Value} {v : Value} {n j : Nat} {xs : List Value}
theorem cell_str (h : Spare w base e zs v n xs) (hp : Plainly zs xs j) {g o : Nat} (hg : v.ownBlock = some g) (s : ByteArray) : w.cell? ⟨g, o, none⟩ ≠ some (.string s) := by
  intro hc
  rcases h.own.2 with ⟨rfl, _⟩ | ⟨g', cap, cur, rfl, h1, h2, h3, h4, h5, h6⟩
  · cases hg
  · simp [Value.ownBlock] at hg
    subst hg
    by_cases ho : o < n * zs.length
    · rw [cell_of_row _ _ _ _ _ _ h2] at hc
      have h7 : xs[o]? = some (.string s) := by rw [← h6, List.getElem?_take, if_pos ho]; simpa using hc
      exact hp.sx s (List.mem_of_getElem? h7)
    · exact hp.sz s (List.mem_of_getElem? (h.rest g' n cap o _ rfl (by omega) hc))
theorem cell_j (h : Spare w base e zs v n xs) (hp : Plainly zs xs j) {g : Nat} (hg : v.ownBlock = some g) (i : Int) : w.cell? ⟨g, j, none⟩ ≠ some (.int .i64 i) := by
  intro hc
  rcases h.own.2 with ⟨rfl, _⟩ | ⟨g', cap, cur, rfl, h1, h2, h3, h4, h5, h6⟩
  · cases hg
  · simp [Value.ownBlock] at hg
    subst hg
    by_cases ho : j < n * zs.length
    · rw [cell_of_row _ _ _ _ _ _ h2] at hc
      have h7 : xs[j]? = some (.int .i64 i) := by rw [← h6, List.getElem?_take, if_pos ho]; simpa using hc
      exact hp.jx i h7
    · have h8 := h.rest g' n cap j _ rfl (by omega) hc
      rw [Nat.mod_eq_of_lt hp.len] at h8
      exact hp.jz i h8
theorem row_keptZ {u : Value} {l : List Ro} (h : Lst 10 enM w u l) (hs : Spare w base e zs v n xs) (hp : Plainly zs xs j) (hg : w.grownBy w' v.ownBlock) : Lst 10 enM w' u l := by
  obtain ⟨ao, cap, e1, h1, h2, h3⟩ := h
  refine ⟨ao, cap, e1, h1, h2, h3.imp id ?_⟩
  rintro ⟨b, off, e2, hb, hc⟩
  refine ⟨b, off, e2, Nat.lt_of_lt_of_le hb hg.size, fun i x hi j hj => ?_⟩
  have hj2 := hc i x hi 2 (by decide)
  rw [← hc i x hi j hj]
  exact World.cell?_of_block (a := ⟨b, off + i * 10 + j, none⟩) (hg.block b hb fun e => cell_str hs hp e.symm _ hj2)
theorem over_keptZ {x : Ro} (h : Over w x) (hN : (default : Lim).n ≤ base) (hs : Spare w base e zs v n xs) (hp : Plainly zs xs j) (hg : w.grownBy w' v.ownBlock) : Over w' x := by
  refine ⟨?_, h.zn⟩
  obtain ⟨ao, cap, e1, h1, h2, h3⟩ := h.lst
  refine ⟨ao, cap, e1, h1, h2, h3.imp id ?_⟩
  rintro ⟨b, off, e2, hb, hc⟩
  refine ⟨b, off, e2, Nat.lt_of_lt_of_le hb hg.size, fun i s hi k hk3 => ?_⟩
  rw [← hc i s hi k hk3]
  refine World.cell?_of_block (a := ⟨b, off + i * 3 + k, none⟩) (hg.block b hb fun h4 => ?_)
  have h4 := h4.symm
  have hlt := (hs.own.lt b h4).1
  have hpos : 0 < x.1.over.length := by have := (List.getElem?_eq_some_iff.1 hi).1; omega
  rcases h.zn _ _ _ (by rw [e1, e2]) with h5 | h5 | h5
  · omega
  · have h5 : off = 0 := h5
    subst h5
    have h6 := hc 0 _ (List.getElem?_eq_getElem hpos) j hp.lt
    rw [show 0 + 0 * 3 + j = j by omega] at h6
    generalize x.1.over[0] = y at h6
    obtain ⟨p, q, r⟩ := y
    have hjl := hp.lt
    have h7 : ∃ i, (enS ⟨p, q, r⟩)[j]? = some (.int .i64 i) := by
      rcases j with _ | _ | _ | j
      · exact ⟨p, rfl⟩
      · exact ⟨q, rfl⟩
      · exact ⟨r, rfl⟩
      · omega
    obtain ⟨i', h7⟩ := h7
    rw [h7] at h6
    exact cell_j hs hp h4 i' h6
  · have h5 : b < (default : Lim).n := h5
    omega
theorem mrow_keptZ {u : Value} {R : List Ro} (h : MRow w u R) (hN : (default : Lim).n ≤ base) (hs : Spare w base e zs v n xs) (hp : Plainly zs xs j) (hg : w.grownBy w' v.ownBlock) : MRow w' u R :=
  ⟨row_keptZ h.row hs hp hg, fun x hx => over_keptZ (h.over x hx) hN hs hp hg⟩
theorem reads_keptZ {u : Value} {l : List Mu} (h : Reads w u l) (hN : (default : Lim).n ≤ base) (hs : Spare w base e zs v n xs) (hp : Plainly zs xs j) (hg : w.grownBy w' v.ownBlock) : Reads w' u l := by
  obtain ⟨R, e1, hR⟩ := h
  exact ⟨R, e1, mrow_keptZ hR hN hs hp hg⟩
theorem lies_keptZ {a b d : Value} {c : Con} (h : Lies w a b d c) (hN : (default : Lim).n ≤ base) (hs : Spare w base e zs v n xs) (hp : Plainly zs xs j) (hg : w.grownBy w' v.ownBlock) : Lies w' a b d c :=
  ⟨reads_keptZ h.cells hN hs hp hg, reads_keptZ h.wipes hN hs hp hg, reads_keptZ h.sibs hN hs hp hg⟩
end
theorem flatR_j {R : List Rp} (h : ∀ x ∈ R, Forms x) (i : Int) : (R.flatMap enR)[0]? ≠ some (.int .i64 i) := by
  cases R with
  | nil => simp
  | cons x R =>
    obtain ⟨⟨_, _, _, e1⟩, -⟩ := h x (List.mem_cons_self ..)
    simp [enR, e1]
theorem plain_R {R : List Rp} (h : ∀ x ∈ R, Forms x) : Plainly zR (R.flatMap enR) 0 :=
  ⟨by decide, by decide, fun s hs => by simp [zR] at hs, flatR_str h, fun i => by simp [zR], flatR_j h⟩
/-- One report in a literal row. -/
theorem one_rep {w : World} {x : Rp} {t : TypeId} (h : Lies w x.a x.b x.d x.c) : RRow (w.alloc (.cells ⟨enR x⟩ t)) (.slice (some ⟨w.heap.size, 0, none⟩) 1 1) [x] := by
  refine ⟨⟨_, 1, rfl, by simp, by decide, Or.inr ⟨_, _, rfl, by simp, fun i y hi j hj => ?_⟩⟩, fun y hy => ?_⟩
  · rw [cells_at (heap_alloc_new w _), Nat.zero_add]
    have := flatMap_get enR_len [x] i y hi j hj
    simpa using this
  · rw [List.mem_singleton.1 hy]
    exact h.below ((Below.refl _ _).alloc (Nat.le_refl _) _)
/-- Reports in a row that grows. -/
structure Grow (w : World) (base : Nat) (e : TypeId) (v : Value) (n : Nat) (R : List Rp) : Prop where
  row : Spare w base e zR v n (R.flatMap enR)
  con : ∀ x ∈ R, Lies w x.a x.b x.d x.c
  len : n = R.length
theorem Grow.forms {w : World} {base : Nat} {e : TypeId} {v : Value} {n : Nat} {R : List Rp} (h : Grow w base e v n R) : ∀ x ∈ R, Forms x := fun x hx => (h.con x hx).forms
theorem Grow.nil (w : World) (base : Nat) (e : TypeId) : Grow w base e (.slice none 0 0) 0 [] := ⟨Spare.nil w base e zR, fun x hx => (by cases hx), rfl⟩
theorem Grow.below {w w' : World} {base : Nat} {e : TypeId} {v : Value} {n : Nat} {R : List Rp} (h : Grow w base e v n R) (hb : RowKit.Below w.heap.size w w') : Grow w' base e v n R := ⟨h.row.below hb, fun x hx => (h.con x hx).below hb, h.len⟩
theorem Grow.rrow {w : World} {base : Nat} {e : TypeId} {v : Value} {n : Nat} {R : List Rp} (h : Grow w base e v n R) : RRow w v R := ⟨Lst.owned enR_len (by decide) h.len h.row.own, h.con⟩
/-- Behind an append to this row: itself with one more, and what lies beside it. -/
theorem Grow.more {w w' : World} {base : Nat} {e : TypeId} {v v' : Value} {n : Nat} {R : List Rp} {x : Rp} (h : Grow w base e v n R) (hN : (default : Lim).n ≤ base) (hx : Lies w x.a x.b x.d x.c) (hsp : Spare w' base e zR v' (n + 1) (R.flatMap enR ++ [x].flatMap enR)) (hg : w.grownBy w' v.ownBlock) : Grow w' base e v' (n + 1) (R ++ [x]) := by
  refine ⟨by rw [List.flatMap_append]; exact hsp, fun y hy => ?_, by rw [List.length_append, ← h.len]; rfl⟩
  rcases List.mem_append.1 hy with g | g
  · exact lies_keptZ (h.con y g) hN h.row (plain_R h.forms) hg
  · rw [List.mem_singleton.1 g]
    exact lies_keptZ hx hN h.row (plain_R h.forms) hg
theorem Grow.beside {w w' : World} {base base2 : Nat} {e e2 : TypeId} {v v2 : Value} {n n2 : Nat} {R R2 : List Rp} (h2 : Grow w base2 e2 v2 n2 R2) (h : Grow w base e v n R) (hN : (default : Lim).n ≤ base) (hne : e ≠ e2) (hg : w.grownBy w' v.ownBlock) : Grow w' base2 e2 v2 n2 R2 :=
  ⟨h2.row.kept hg (rows_apart h2.row.own h.row.own (fun e => hne e.symm)), fun y hy => lies_keptZ (h2.con y hy) hN h.row (plain_R h.forms) hg, h2.len⟩
theorem Grow.belowB {w0 w w' : World} {base : Nat} {e : TypeId} {v : Value} {n : Nat} {R : List Rp} (h : Grow w base e v n R) (hb : RowKit.Below base w0 w) (hg : w.grownBy w' v.ownBlock) (hs : base ≤ w.heap.size) : RowKit.Below base w0 w' := hb.grown hg hs (fun k hk => (h.row.own.lt k hk).1)
end Go.Proofs.YtmfhmcegmeinnaaGreatDoor.Mut

namespace Go.Proofs.YtmfhmcegmeinnaaGreatDoor.Spare
open Go Go.RowKit

section
variable {P : Program}
/-- As run_append_spare, of any number of elements, none too. -/
theorem run_append_spareAny (w : World) (base : Nat) (t ty e : TypeId) (i : TypeInfo) (z : Value) (zs : List Value) (bytes : Nat) (ht : P.underlying t = some (.slice e)) (hi : P.info? e = some i) (hz : i.zero = some z)
    (hzc : z.cells = zs.toArray) (hsize : i.size = zs.length) (hby : i.bytes = bytes) (hpos : 0 < zs.length)
    (v : Value) (n : Nat) (xs : List Value) (hs : Spare w base e zs v n xs)
    (xo : Option Addr) (m c : Nat) (news : List Value) (hl : news.length = m * zs.length) (hx : m = 0 ∨ ∃ ad, xo = some ad ∧ ∀ j u, news[j]? = some u → w.cell? (ad.add j) = some u) (h1 : ∀ u ∈ news, u.oneCell' = true)
    (h63 : n + m ≤ maxLen) (hbytes : (n + m) * bytes ≤ 140737488355328) (hbase : base ≤ w.heap.size) :
    ∃ v' w', (Builtin.append_ #[t, t] ty #[v, .slice xo m c]).run P w = .ok v' w' ∧ Spare w' base e zs v' (n + m) (xs ++ news) ∧ w.grownBy w' v.ownBlock ∧ Kept w w' zs v n ∧ SpareLoc w v v' := by
  by_cases hm : m = 0
  · subst hm
    obtain rfl : news = [] := List.eq_nil_of_length_eq_zero (by simpa using hl)
    obtain ⟨ao, cap, rfl⟩ := row_form hs.own
    have hcap : n ≤ cap := by
      rcases hs.own.2 with ⟨e, _⟩ | ⟨g, c, cur, e, _, _, h3, _⟩
      · cases e; omega
      · cases e; exact h3
    have hsr : Src P i.size t (.slice xo 0 c) 0 [] w := by
      cases xo with
      | none => exact Src.ofNil w ht c
      | some a => exact Src.ofSlice w ht a 0 c [] (by simp) (fun j u h => by simp at h) (fun u h => by cases h)
    exact ⟨_, _, run_append_nothing w t t ty e i ht hi ao n cap hcap _ hsr, by simpa using hs, ⟨rfl, rfl, rfl, Nat.le_refl _, fun _ _ _ => rfl⟩, fun b o u hc => Or.inl hc, fun g hg => Or.inl hg⟩
  · rcases hx with h0 | ⟨ad, rfl, hx⟩
    · exact absurd h0 hm
    · exact run_append_spare (P := P) w base t ty e i z zs bytes ht hi hz hzc hsize hby hpos v n xs hs ad m c news (Or.inl (by omega)) hl hx h1 h63 hbytes hbase

theorem wpList_append_spareAny {w : World} {ops : Array Oper} {rest : List Oper} {o : Oper} {a : Act} {Q : Exit → Act → World → Prop} (hgd : o.guard = none) (s x : Operand) (t : TypeId)
    (ho : o.op = .call { callee := .builtin .append, args := #[s, x], argTypes := #[t, t] })
    (base : Nat) (e : TypeId) (i : TypeInfo) (z : Value) (zs : List Value) (bytes : Nat) (ht : P.underlying t = some (.slice e)) (hi : P.info? e = some i) (hz : i.zero = some z)
    (hzc : z.cells = zs.toArray) (hsize : i.size = zs.length) (hby : i.bytes = bytes) (hpos : 0 < zs.length)
    (v : Value) (n : Nat) (xs : List Value) (hs : a.eval s = v) (hown : Spare w base e zs v n xs)
    (xo : Option Addr) (m c : Nat) (news : List Value) (hxv : a.eval x = .slice xo m c) (hl : news.length = m * zs.length) (hx : m = 0 ∨ ∃ ad, xo = some ad ∧ ∀ j u, news[j]? = some u → w.cell? (ad.add j) = some u) (h1 : ∀ u ∈ news, u.oneCell' = true)
    (h63 : n + m ≤ maxLen) (hbytes : (n + m) * bytes ≤ 140737488355328) (hbase : base ≤ w.heap.size)
    (h : ∀ v' w', Spare w' base e zs v' (n + m) (xs ++ news) → w.grownBy w' v.ownBlock → Kept w w' zs v n → SpareLoc w v v' → wpList P ops Q rest (a.put o.dst v') w') : wpList P ops Q (o :: rest) a w := by
  refine wpList_plain hgd fun K hK => ?_
  obtain ⟨v', w', hr, q1, q2, q3, q4⟩ := run_append_spareAny (P := P) w base t o.type e i z zs bytes ht hi hz hzc hsize hby hpos v n xs hown xo m c news hl hx h1 h63 hbytes hbase
  unfold Oper.wp execOp
  simp only [ho, resolve, invoke, builtin, Sem.run_bind, Sem.run_pure, Result.andThen_ok, List.map_toArray, List.map_cons, List.map_nil, hs, hxv, hr]
  exact hK _ _ (h v' w' q1 q2 q3 q4)
end
end Go.Proofs.YtmfhmcegmeinnaaGreatDoor.Spare

namespace Go.Proofs.YtmfhmcegmeinnaaGreatDoor.Mut
open Go.RowKit Go.Sort Go.Proofs.YtmfhmcegmeinnaaGreatDoor.Ord Go.Proofs.YtmfhmcegmeinnaaGreatDoor.RegInv Go.Proofs.YtmfhmcegmeinnaaGreatDoor.Spare
set_option linter.unusedSectionVars false
variable [Inhabited Lim]

def zM : List Value := [.int .i64 0, .int .i64 0, .string ByteArray.empty, .string ByteArray.empty, .string ByteArray.empty, .int .i64 0, .int .i64 0, .int .i64 0, .int .i64 0, .slice none 0 0]
theorem zM_slice (r : Nat) (ao : Option Addr) (n c : Nat) (h : zM[r]? = some (.slice ao n c)) : r = 9 := by
  rcases r with _ | _ | _ | _ | _ | _ | _ | _ | _ | _ | r <;> simp [zM] at h <;> first | rfl | omega
theorem zM_int (r : Nat) (i : Int) (h : zM[r]? = some (.int .i64 i)) : i = 0 ∧ r ≠ 2 ∧ r ≠ 3 ∧ r ≠ 4 ∧ r < 9 := by
  rcases r with _ | _ | _ | _ | _ | _ | _ | _ | _ | _ | r <;> simp [zM] at h <;> simp [h]
section
variable {w w' : World} {base : Nat} {v : Value} {n : Nat} {R : List Ro}
theorem spare_atM (h : Spare w base 51 zM v n (R.flatMap enM)) {b o : Nat} {u : Value} (hb : v.ownBlock = some b) (ho : n * 10 ≤ o) (hc : w.cell? ⟨b, o, none⟩ = some u) : zM[o % 10]? = some u := by
  rcases h.own.2 with ⟨rfl, _⟩ | ⟨g, cap, cur, rfl, _⟩
  · cases hb
  · have e : g = b := by simpa [Value.ownBlock] using hb
    subst e
    exact h.rest g n cap o u rfl ho hc
/-- A mutation that may be doesn't lie in the spare room of a row of mutations. -/
theorem mut_spareM (hs : Spare w base 51 zM v n (R.flatMap enM)) {x : Ro} (hr : rightF x.1 = true) (hx : ∃ ao n c, x.2 = .slice ao n c) {b p j : Nat} (hj : j < 10) (hc : ∀ i, i < 10 → w.cell? ⟨b, p + i, none⟩ = (enM x)[i]?) (hb : v.ownBlock = some b) (ho : n * 10 ≤ p + j) : False := by
  obtain ⟨ao, xn, xc, e⟩ := hx
  have h9 : w.cell? ⟨b, p + 9, none⟩ = some x.2 := hc 9 (by decide)
  have h0 : w.cell? ⟨b, p + 0, none⟩ = some (.int .i64 x.1.table) := hc 0 (by decide)
  rw [e] at h9
  have r9 := zM_slice _ _ _ _ (spare_atM hs hb (by omega) h9)
  have hp : n * 10 ≤ p + 0 := by omega
  have r0 := spare_atM hs hb hp h0
  have hm : (p + 0) % 10 = 0 := by omega
  rw [hm] at r0
  have h0t := (zM_int _ _ r0).1
  rcases (fit_of hr).table with g | g <;> omega
theorem row_keptM {u : Value} {l : List Ro} (h : Lst 10 enM w u l) (hr : ∀ x ∈ l, rightF x.1 = true) (hf : ∀ x ∈ l, ∃ ao n c, x.2 = .slice ao n c) (hs : Spare w base 51 zM v n (R.flatMap enM)) (hk : Kept w w' zM v n) (hsz : w.heap.size ≤ w'.heap.size) : Lst 10 enM w' u l := by
  obtain ⟨ao, cap, e1, h1, h2, h3⟩ := h
  refine ⟨ao, cap, e1, h1, h2, h3.imp id ?_⟩
  rintro ⟨b, off, e2, hb, hc⟩
  refine ⟨b, off, e2, Nat.lt_of_lt_of_le hb hsz, fun i x hi j hj => ?_⟩
  have hj1 := hc i x hi j hj
  rw [List.getElem?_eq_getElem (by rw [enM_len]; exact hj)] at hj1 ⊢
  rcases hk _ _ _ hj1 with h4 | ⟨h4, h5, -⟩
  · exact h4
  · exact (mut_spareM hs (hr x (List.mem_of_getElem? hi)) (hf x (List.mem_of_getElem? hi)) hj (fun i' hi' => hc i x hi i' hi') h4 h5).elim
theorem over_keptM {x : Ro} (h : Over w x) (hN : (default : Lim).n ≤ base) (hn : n = R.length) (hs : Spare w base 51 zM v n (R.flatMap enM)) (hk : Kept w w' zM v n) (hsz : w.heap.size ≤ w'.heap.size) : Over w' x := by
  refine ⟨?_, h.zn⟩
  obtain ⟨ao, cap, e1, h1, h2, h3⟩ := h.lst
  refine ⟨ao, cap, e1, h1, h2, h3.imp id ?_⟩
  rintro ⟨b, off, e2, hb, hc⟩
  refine ⟨b, off, e2, Nat.lt_of_lt_of_le hb hsz, fun i s hi k hk3 => ?_⟩
  have hj1 := hc i s hi k hk3
  rw [List.getElem?_eq_getElem (by rw [enS_len]; exact hk3)] at hj1 ⊢
  rcases hk _ _ _ hj1 with h4 | ⟨h4, h5, -⟩
  · exact h4
  · exfalso
    have hlt := (hs.own.lt b h4).1
    have hpos : 0 < x.1.over.length := by have := (List.getElem?_eq_some_iff.1 hi).1; omega
    rcases h.zn _ _ _ (by rw [e1, e2]) with h5 | h5 | h5
    · omega
    · have h5 : off = 0 := h5
      subst h5
      have h6 := hc 0 _ (List.getElem?_eq_getElem hpos) 2 (by decide)
      rw [show 0 + 0 * 3 + 2 = 2 by omega] at h6
      generalize x.1.over[0] = y at h6
      have h6 : w.cell? ⟨b, 2, none⟩ = some (.int .i64 y.w) := h6
      rcases hs.own.2 with ⟨rfl, _⟩ | ⟨g, cap', cur, rfl, h9, h10, h11, h12, h13, h14⟩
      · cases h4
      · have e : g = b := by simpa [Value.ownBlock] using h4
        subst e
        by_cases h0 : n = 0
        · have h7 := zM_int _ _ (spare_atM hs (b := g) rfl (by omega) h6)
          exact h7.2.1 rfl
        · rw [cell_of_row _ _ _ _ _ _ h10] at h6
          have hR : 0 < R.length := by omega
          have hg := flatMap_get enM_len R 0 R[0] (List.getElem?_eq_getElem hR) 2 (by decide)
          have hz : zM.length = 10 := rfl
          rw [← h14, List.getElem?_take, if_pos (by rw [hz]; omega), show 0 * 10 + 2 = 2 by omega] at hg
          rw [Array.getElem?_toList] at hg
          rw [hg] at h6
          simp [enM] at h6
    · have h5 : b < (default : Lim).n := h5
      omega
theorem mrow_keptM {u : Value} {l : List Ro} (h : MRow w u l) (hr : ∀ x ∈ l, rightF x.1 = true) (hN : (default : Lim).n ≤ base) (hn : n = R.length) (hs : Spare w base 51 zM v n (R.flatMap enM)) (hk : Kept w w' zM v n) (hsz : w.heap.size ≤ w'.heap.size) : MRow w' u l :=
  ⟨row_keptM h.row hr h.forms hs hk hsz, fun x hx => over_keptM (h.over x hx) hN hn hs hk hsz⟩
theorem lies_keptM {a b d : Value} {c : Con} (h : Lies w a b d c) (hr : ∀ m ∈ c.all, rightF m = true) (hN : (default : Lim).n ≤ base) (hn : n = R.length) (hs : Spare w base 51 zM v n (R.flatMap enM)) (hk : Kept w w' zM v n) (hsz : w.heap.size ≤ w'.heap.size) : Lies w' a b d c := by
  have key : ∀ {u : Value} {l : List Mu}, Reads w u l → (∀ m ∈ l, rightF m = true) → Reads w' u l := fun {u l} ⟨R', e1, hR⟩ h2 =>
    ⟨R', e1, mrow_keptM hR (fun x hx => h2 x.1 (by rw [← e1]; exact List.mem_map.2 ⟨x, hx, rfl⟩)) hN hn hs hk hsz⟩
  exact ⟨key h.cells fun m hm => hr m (Con.mem_all.2 (Or.inl hm)), key h.wipes fun m hm => hr m (Con.mem_all.2 (Or.inr (Or.inl hm))), key h.sibs fun m hm => hr m (Con.mem_all.2 (Or.inr (Or.inr hm)))⟩
end
end Go.Proofs.YtmfhmcegmeinnaaGreatDoor.Mut
