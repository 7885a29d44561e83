/- Rows of reports that grow by append (layer 25): contents stay readable beside them. -/
import Derived.Test.YthdbilggnjjkhaaGreatDoorPkRs
import Derived.Test.YthdbilggnjjkhaaGreatDoorCombine
set_option linter.unusedSimpArgs false
set_option linter.unusedVariables false
namespace Go.Proofs.YthdbilggnjjkhaaGreatDoor.Mut
open Go.RowKit Go.Sort Go.Proofs.YthdbilggnjjkhaaGreatDoor.Ord Go.Proofs.YthdbilggnjjkhaaGreatDoor.RegInv Go.Proofs.YthdbilggnjjkhaaGreatDoor.Spare
set_option linter.unusedSectionVars false
variable [Inhabited Lim]

def zR : List Value := [.slice none 0 0, .slice none 0 0, .slice none 0 0, .int .i64 0, .int .i64 0, .int .i64 0, .bool false]
theorem zR_str (k : Nat) (s : ByteArray) : zR[k]? ≠ some (.string s) := by
  rcases k with _ | _ | _ | _ | _ | _ | _ | k <;> simp [zR]
theorem zR_int (k : Nat) (i : Int) (h : zR[k]? = some (.int .i64 i)) : (k = 3 ∨ k = 4 ∨ k = 5) ∧ i = 0 := by
  rcases k with _ | _ | _ | _ | _ | _ | _ | k <;> simp [zR] at h <;> simp [h]
theorem spare_str {w : World} {base : Nat} {e : TypeId} {v : Value} {n : Nat} {xs : List Value} (h : Spare w base e zR v n xs) (hx : ∀ s, Value.string s ∉ xs) {g o : Nat} (hg : v.ownBlock = some g) (s : ByteArray) : w.cell? ⟨g, o, none⟩ ≠ some (.string s) := by
  intro hc
  rcases h.own.2 with ⟨rfl, _⟩ | ⟨g', cap, cur, rfl, h1, h2, h3, h4, h5, h6⟩
  · cases hg
  · simp [Value.ownBlock] at hg
    subst hg
    by_cases ho : o < n * zR.length
    · rw [cell_of_row _ _ _ _ _ _ h2] at hc
      have h7 : xs[o]? = some (.string s) := by rw [← h6, List.getElem?_take, if_pos ho]; simpa using hc
      exact hx s (List.mem_of_getElem? h7)
    · exact zR_str _ _ (h.rest g' n cap o _ rfl (by omega) hc)
theorem lst_kept10 {w w' : World} {base : Nat} {e : TypeId} {v u : Value} {n : Nat} {xs : List Value} {l : List Ro} (h : Lst 10 enM w u l) (hs : Spare w base e zR v n xs) (hx : ∀ s, Value.string s ∉ xs) (hk : Kept w w' zR v n) (hsz : w.heap.size ≤ w'.heap.size) : Lst 10 enM w' u l := by
  obtain ⟨ao, cap, e1, h1, h2, h3⟩ := h
  refine ⟨ao, cap, e1, h1, h2, h3.imp id ?_⟩
  rintro ⟨b, off, e2, hb, hc⟩
  refine ⟨b, off, e2, Nat.lt_of_lt_of_le hb hsz, fun i x hi j hj => ?_⟩
  have hj2 := hc i x hi 2 (by decide)
  have hj1 := hc i x hi j hj
  rw [List.getElem?_eq_getElem (by rw [enM_len]; exact hj)] at hj1 ⊢
  rcases hk _ _ _ hj1 with h4 | ⟨h4, -, -⟩
  · exact h4
  · exact absurd hj2 (spare_str hs hx h4 _)
theorem lst_kept3 {w w' : World} {base : Nat} {e : TypeId} {v u : Value} {n : Nat} {xs : List Value} {l : List Stp} (h : Lst 3 enS w u l) (hr : ∀ s ∈ l, stR s = true) (hs : Spare w base e zR v n xs) (hk : Kept w w' zR v n) (hsz : w.heap.size ≤ w'.heap.size) : Lst 3 enS w' u l := by
  obtain ⟨ao, cap, e1, h1, h2, h3⟩ := h
  refine ⟨ao, cap, e1, h1, h2, h3.imp id ?_⟩
  rintro ⟨b, off, e2, hb, hc⟩
  refine ⟨b, off, e2, Nat.lt_of_lt_of_le hb hsz, fun i x hi j hj => ?_⟩
  have hj1 := hc i x hi j hj
  have c0 : w.cell? ⟨b, off + i * 3 + 0, none⟩ = some (.int .i64 x.p) := hc i x hi 0 (by decide)
  have c1 : w.cell? ⟨b, off + i * 3 + 1, none⟩ = some (.int .i64 x.l) := hc i x hi 1 (by decide)
  have c2 : w.cell? ⟨b, off + i * 3 + 2, none⟩ = some (.int .i64 x.w) := hc i x hi 2 (by decide)
  rw [List.getElem?_eq_getElem (by rw [enS_len]; exact hj)] at hj1 ⊢
  rcases hk _ _ _ hj1 with h4 | ⟨h4, h5, -⟩
  · exact h4
  · exfalso
    have hz : zR.length = 7 := rfl
    rw [hz] at h5
    obtain ⟨g, m, cp, hv⟩ : ∃ g m cp, v = .slice (some ⟨g, 0, none⟩) m cp := by
      rcases hs.own.2 with ⟨rfl, _⟩ | ⟨g', cap', cur, rfl, _⟩
      · cases h4
      · exact ⟨_, _, _, rfl⟩
    have hg : g = b := by rw [hv] at h4; simpa [Value.ownBlock] using h4
    subst hg
    have r2 := zR_int _ _ (hs.rest g m cp _ _ hv (by rw [hz]; omega) c2)
    rw [hz] at r2
    by_cases hq : n * 7 ≤ off + i * 3
    · have r0 := zR_int _ _ (hs.rest g m cp _ _ hv (by rw [hz]; omega) c0)
      have r1 := zR_int _ _ (hs.rest g m cp _ _ hv (by rw [hz]; omega) c1)
      have h9 := hr x (List.mem_of_getElem? hi)
      unfold stR at h9
      simp [r0.2, r1.2, r2.2] at h9
    · have := r2.1
      omega
theorem reads_kept {w w' : World} {base : Nat} {e : TypeId} {v u : Value} {n : Nat} {xs : List Value} {l : List Mu} (h : Reads w u l) (hr : ∀ m ∈ l, rightF m = true) (hs : Spare w base e zR v n xs) (hx : ∀ s, Value.string s ∉ xs) (hk : Kept w w' zR v n) (hsz : w.heap.size ≤ w'.heap.size) : Reads w' u l := by
  obtain ⟨R, e1, hR⟩ := h
  exact ⟨R, e1, lst_kept10 hR.row hs hx hk hsz, fun x hx2 => ⟨lst_kept3 (hR.over x hx2).lst (right_over (hr x.1 (by rw [← e1]; exact List.mem_map.2 ⟨x, hx2, rfl⟩))) hs hk hsz, (hR.over x hx2).zn⟩⟩
theorem lies_kept {w w' : World} {base : Nat} {e : TypeId} {v a b d : Value} {n k : Nat} {xs : List Value} {c : Con} (h : Lies w a b d c) (hg : Good c k) (hs : Spare w base e zR v n xs) (hx : ∀ s, Value.string s ∉ xs) (hk : Kept w w' zR v n) (hsz : w.heap.size ≤ w'.heap.size) : Lies w' a b d c :=
  ⟨reads_kept h.cells (fun m hm => hg.okc.right m (by unfold Con.all; simp [hm])) hs hx hk hsz, reads_kept h.wipes (fun m hm => hg.okc.right m (by unfold Con.all; simp [hm])) hs hx hk hsz, reads_kept h.sibs (fun m hm => hg.okc.right m (by unfold Con.all; simp [hm])) hs hx hk hsz⟩

/-! ## Appending reports -/
def Forms (x : Rp) : Prop := (∃ ao n c, x.a = .slice ao n c) ∧ (∃ ao n c, x.b = .slice ao n c) ∧ ∃ ao n c, x.d = .slice ao n c
theorem Lies.forms {w : World} {x : Rp} (h : Lies w x.a x.b x.d x.c) : Forms x := ⟨h.cells.slice, h.wipes.slice, h.sibs.slice⟩
theorem flatR_str {R : List Rp} (h : ∀ x ∈ R, Forms x) (s : ByteArray) : Value.string s ∉ R.flatMap enR := by
  intro hm
  obtain ⟨x, hx, h1⟩ := List.mem_flatMap.1 hm
  obtain ⟨⟨_, _, _, e1⟩, ⟨_, _, _, e2⟩, ⟨_, _, _, e3⟩⟩ := h x hx
  unfold enR at h1
  simp [e1, e2, e3] at h1
theorem flatR_one {R : List Rp} (h : ∀ x ∈ R, Forms x) : ∀ u ∈ R.flatMap enR, u.oneCell' = true := by
  intro u hm
  obtain ⟨x, hx, h1⟩ := List.mem_flatMap.1 hm
  obtain ⟨⟨_, _, _, e1⟩, ⟨_, _, _, e2⟩, ⟨_, _, _, e3⟩⟩ := h x hx
  unfold enR at h1
  simp only [e1, e2, e3, List.mem_cons, List.not_mem_nil, or_false] at h1
  rcases h1 with rfl | rfl | rfl | rfl | rfl | rfl | rfl <;> rfl
theorem info_Rep : (Tryz.prog.info? 47).map (fun i => (i.zero, i.size, i.bytes)) = some (some (.agg ⟨zR⟩), 7, 104) := by kernel_rfl
theorem info_RefR : (Tryz.prog.info? 68).map (fun i => (i.zero, i.size, i.bytes)) = some (some (.agg ⟨zR⟩), 7, 104) := by kernel_rfl
theorem wpList_append_reps {w : World} {ops : Array Oper} {rest : List Oper} {o : Oper} {a : Act} {Q : Exit → Act → World → Prop} (hgd : o.guard = none) (s x : Operand) {t e : TypeId}
    (ho : o.op = .call { callee := .builtin .append, args := #[s, x], argTypes := #[t, t] }) (ht : Tryz.prog.underlying t = some (.slice e))
    (hinfo : (Tryz.prog.info? e).map (fun i => (i.zero, i.size, i.bytes)) = some (some (.agg ⟨zR⟩), 7, 104)) (base : Nat) (v : Value) (n : Nat) (xs : List Value) (hs : a.eval s = v) (hown : Spare w base e zR v n xs)
    (ad : Addr) (m c : Nat) (R : List Rp) (hx : a.eval x = .slice (some ad) m c) (hR : Lst 7 enR w (.slice (some ad) m c) R) (hF : ∀ x ∈ R, Forms x) (hm0 : 0 < m ∨ v ≠ .slice none 0 0) (hm : n + m ≤ 1000000) (hbase : base ≤ w.heap.size)
    (h : ∀ v' w', Spare w' base e zR v' (n + m) (xs ++ R.flatMap enR) → w.grownBy w' v.ownBlock → Kept w w' zR v n → SpareLoc w v v' → wpList Tryz.prog ops Q rest (a.put o.dst v') w') : wpList Tryz.prog ops Q (o :: rest) a w := by
  obtain ⟨i0, hi, hz0, hz1, hz2⟩ := info_parts hinfo
  have hmR : m = R.length := Lst.len hR
  subst hmR
  exact wpList_append_spare hgd s x t ho base e i0 (.agg ⟨zR⟩) zR 104 ht hi hz0 rfl hz1 hz2 (by decide) v n xs hs hown ad R.length c (R.flatMap enR) hx hm0 (flatMap_len enR_len R) (Lst.news enR_len (by decide) hR) (flatR_one hF) (by unfold maxLen; omega) (by omega) hbase h
/-- What two reports have alike. -/
def core (x : Rp) : Con × Stp × Bool := (x.c, x.f, x.q)
theorem baseF_core {R R' : List Rp} (h : R.map core = R'.map core) : baseF R = baseF R' := by
  have key : ∀ (R : List Rp) acc, R.foldl baseStep acc = (R.map core).foldl (fun acc x => if x.2.2 then acc else (maxS acc.1 x.2.1, true)) acc := by
    intro R
    induction R with
    | nil => intro acc; rfl
    | cons x R ih => intro acc; rw [List.foldl_cons, List.map_cons, List.foldl_cons, ih]; rfl
  unfold baseF
  rw [key, key, h]
theorem combC_core {R R' : List Rp} (h : R.map core = R'.map core) (s b : Stp) : combC R s b = combC R' s b := by
  unfold combC
  have e : ∀ R : List Rp, R.map (partR s b) = (R.map core).map fun x => (if (!x.2.2 && eqT x.2.1 b) = true then x.1 else x.1.filter (aboveB b)).filter (uptoB s) := fun R => by
    rw [List.map_map]; rfl
  rw [e, e, h]
theorem combF_core {R R' : List Rp} (h : R.map core = R'.map core) (s : Stp) : combF R s = combF R' s := by
  unfold combF
  rw [baseF_core h, combC_core h]
end Go.Proofs.YthdbilggnjjkhaaGreatDoor.Mut
