/- slices.Insert of one element, slices.Delete of one, into and out of rows that the call owns (Mut). PRINTED by wip/genins.py. -/
import Derived.Test.YtgcfhlleaekgfaaGreatDoorSlRow
namespace Go.Proofs.YtgcfhlleaekgfaaGreatDoor.SlMut
open Go.RowKit

theorem info_E : (Tryz.prog.info? 29).map (fun i => (i.zero, i.size, i.bytes)) = some (some (.agg #[.int .i64 0, .int .i64 0, .string ByteArray.empty, .string ByteArray.empty, .string ByteArray.empty, .int .i64 0, .int .i64 0, .int .i64 0, .int .i64 0, .slice none 0 0]), 10, 120) := by kernel_rfl
theorem size_E : (Tryz.prog.info? 29).map (·.size) = some 10 := by kernel_rfl
theorem sizeOf_E (w : World) : (Go.sizeOf 29).run Tryz.prog w = .ok 10 w := by kernel_rfl

set_option maxHeartbeats 4000000 in
set_option maxRecDepth 100000 in
/-- at the end. -/
theorem insert_end (base : Nat) (v : Value) (n vb : Nat) (xs news : List Value) (w : World) (hown : w.ownsRow base 29 10 v n xs) (hb : base ≤ w.heap.size) (hn : (n + 1) * 120 ≤ 140737488355328) (hl : news.length = 10)
    (hv : w.heap[vb]? = some (.cells ⟨news⟩ 29 (0, 0))) (h1v : ∀ u ∈ news, u.oneCell' = true) (ob : Option Nat) (hob : v.ownBlock = ob) :
    Calls Tryz.prog 89 #[v, .int .i64 n, .slice (some ⟨vb, 0, none⟩) 1 1] w (InsPost w base 29 10 ob n (xs ++ news)) := by
  obtain ⟨i0, hi, hz0, hz1, hz2⟩ := info_parts info_E
  obtain ⟨ao, cap, rfl⟩ := row_form hown
  have HO := Lib.hid hown
  have HV := Lib.hid hv
  have HB := Lib.hid hob
  have HL := Lib.hid hl
  have hcap : n ≤ cap := by
    rcases hown.2 with ⟨e, _⟩ | ⟨g, c, cur, e, _, _, h3, _⟩
    · cases e; omega
    · cases e; exact h3
  have hcm : cap ≤ 9223372036854775807 := by
    rcases hown.2 with ⟨e, _⟩ | ⟨g, c, cur, e, _, _, _, h4, _⟩
    · cases e; omega
    · cases e; unfold maxLen at h4; omega
  have hcs : ∀ j u, news[j]? = some u → w.cell? ((⟨vb, 0, none⟩ : Addr).add j) = some u := fun j u h => by rw [addr_add, Nat.zero_add, cells_at hv]; exact h
  have HC := Lib.hid hcs
  clear hown hv hl hcs hob
  go_enter Tryz.func89, Tryz.ntmps89
  go_wp2_with (at_builtin; refine wpList_append_lies _ rfl _ _ 22 rfl base 29 i0 (.agg #[.int .i64 0, .int .i64 0, .string ByteArray.empty, .string ByteArray.empty, .string ByteArray.empty, .int .i64 0, .int .i64 0, .int .i64 0, .int .i64 0, .slice none 0 0]) 10 120 Tryz.underlying22 hi hz0 hz1 hz2 rfl (by decide) (.slice ao n cap) n xs rfl HO.out ⟨vb, 0, none⟩ 1 1 news rfl (by rw [HL.out]) HC.out h1v (by decide) (by unfold maxLen; omega) (by omega) hb _ rfl ?_; rw [HB.out]; intro g c w1 ho hg hat hlt)
  all_goals
    go_ret
    exact ⟨g, c, rfl, ho, hg, hat.imp id fun e => by omega⟩

set_option maxHeartbeats 8000000 in
set_option maxRecDepth 100000 in
/-- inside, where there is room. -/
theorem insert_room (base g n cap i vb : Nat) (xs spare news : List Value) (w : World) (hb : base ≤ g) (hg : w.heap[g]? = some (.cells ⟨xs ++ spare⟩ 29 (0, 0))) (hx : xs.length = n * 10) (hsp : (xs ++ spare).length = cap * 10) (hin : i < n) (hcap : n + 1 ≤ cap) (hcm : cap ≤ maxLen) (hl : news.length = 10)
    (hv : w.heap[vb]? = some (.cells ⟨news⟩ 29 (0, 0))) (hvb : vb ≠ g) (h1x : ∀ u ∈ xs, u.oneCell' = true) (h1v : ∀ u ∈ news, u.oneCell' = true) :
    Calls Tryz.prog 89 #[.slice (some ⟨g, 0, none⟩) n cap, .int .i64 i, .slice (some ⟨vb, 0, none⟩) 1 1] w (InsPost w base 29 10 (some g) n (xs.take (i * 10) ++ news ++ xs.drop (i * 10))) := by
  have hlt : g < w.heap.size := (Array.getElem?_eq_some_iff.1 hg).1
  have hcap0 := hcm
  unfold maxLen at hcm
  have hov : ∀ q lb cb, (callFunc 121 #[.slice (some ⟨vb, 0, none⟩) 1 1, .slice (some ⟨g, q, none⟩) lb cb]).run Tryz.prog w = .ok (.value (.bool false)) w := fun q lb cb => by
    rw [run_callFunc_extern Tryz.func121 (by kernel_rfl) (by kernel_rfl) (by kernel_rfl) (e := Extern.SlicesOverlaps.overlaps #[22, 22] #[4]) (by kernel_rfl),
      Lib.run_overlaps_apart w 22 4 29 Tryz.underlying22 10 sizeOf_E ⟨vb, 0, none⟩ ⟨g, q, none⟩ 1 1 lb cb hvb 29 29 news.length (xs ++ spare).length (shape_at hv) (shape_at hg) (by rw [hsp]; omega) (free_at hv _) (free_at hv _)]
    rfl
  obtain ⟨cur, hcur⟩ : ∃ cur, cur = xs ++ spare := ⟨_, rfl⟩
  obtain ⟨cs, hcs⟩ : ∃ cs, cs = xs.drop (i * 10) := ⟨_, rfl⟩
  rw [← hcur] at hg hsp
  have hlc : cs.length = (n - i) * 10 := by rw [hcs, List.length_drop, hx]; omega
  have s1 : ∀ W : World, (∀ x, W.cell? x = w.cell? x) → ∀ j u, cs[j]? = some u → W.cell? ((⟨g, i * 10, none⟩ : Addr).add j) = some u := fun W hW j u h => by
    rw [addr_add, hW, cells_at hg, hcur, List.getElem?_append_left (by
      have := (List.getElem?_eq_some_iff.1 h).1
      rw [hcs, List.length_drop] at this; omega)]
    rw [hcs, List.getElem?_drop] at h
    exact h
  have s2 : ∀ W : World, W.heap[g]? = some (.cells ⟨cur⟩ 29 (0, 0)) → (W.setRow g ⟨splice cur ((i + 1) * 10) cs⟩).heap[g]? = some (.cells ⟨splice cur ((i + 1) * 10) cs⟩ 29 (0, 0)) := fun W hW => setRow_heap W g _ _ _ _ hW
  have s3 : ∀ W : World, W.heap[vb]? = some (.cells ⟨news⟩ 29 (0, 0)) → ∀ j u, news[j]? = some u → (W.setRow g ⟨splice cur ((i + 1) * 10) cs⟩).cell? ((⟨vb, 0, none⟩ : Addr).add j) = some u := fun W hW j u h => by
    rw [addr_add, Nat.zero_add, cells_at ((setRow_other W g vb _ hvb).trans hW)]
    exact h
  have h1c : ∀ u ∈ cs, u.oneCell' = true := fun u hu => h1x u (by rw [hcs] at hu; exact List.mem_of_mem_drop hu)
  have hft : (i + 1) * 10 + cs.length ≤ cur.length := by rw [hsp, hlc]; omega
  have hl1 : (splice cur ((i + 1) * 10) cs).length = cur.length := length_splice _ _ _ hft
  have hft2 : i * 10 + news.length ≤ (splice cur ((i + 1) * 10) cs).length := by rw [hl1, hl]; omega
  have hfin : splice (splice cur ((i + 1) * 10) cs) (i * 10) news = (xs.take (i * 10) ++ news ++ xs.drop (i * 10)) ++ cur.drop ((n + 1) * 10) := by
    have e1 : i * 10 ≤ xs.length := by rw [hx]; omega
    have e2 : (i + 1) * 10 ≤ cur.length := by rw [hsp]; omega
    have e3 : (cur.take ((i + 1) * 10)).length = (i + 1) * 10 := by rw [List.length_take]; omega
    have e4 : i * 10 + news.length = (i + 1) * 10 := by simp only [hl]; try omega
    unfold splice
    rw [e4, List.take_append_of_le_length (by rw [e3]; omega), List.take_take, Nat.min_eq_left (by omega), List.drop_append_of_le_length (by omega), List.drop_of_length_le (by omega), List.nil_append, hlc,
      show (i + 1) * 10 + (n - i) * 10 = (n + 1) * 10 by omega, hcs]
    rw [show cur.take (i * 10) = xs.take (i * 10) by rw [hcur, List.take_append_of_le_length e1]]
    simp only [List.append_assoc]
  have hly : (xs.take (i * 10) ++ news ++ xs.drop (i * 10)).length = (n + 1) * 10 := by
    rw [List.length_append, List.length_append, List.length_take, List.length_drop, hl, hx]; omega
  have hlz : ((xs.take (i * 10) ++ news ++ xs.drop (i * 10)) ++ cur.drop ((n + 1) * 10)).length = cap * 10 := by rw [List.length_append, hly, List.length_drop, hsp]; omega
  have HG := Lib.hid hg
  have HV := Lib.hid hv
  have HL := Lib.hid hl
  have HLC := Lib.hid hlc
  have HF := Lib.hid hfin
  have HY := Lib.hid hly
  have HZ := Lib.hid hlz
  have HFT := Lib.hid hft
  have HFT2 := Lib.hid hft2
  have S1 := Lib.hid s1
  have S2 := Lib.hid s2
  have S3 := Lib.hid s3
  have H1C := Lib.hid h1c
  have H1V := Lib.hid h1v
  have a1 : IntKind.i64.wrap ((i : Int) + 1) = (i : Int) + 1 := IntWalk.i64_in _ (by omega)
  have a2 : (0 : Int) ≤ (i : Int) + 1 := by omega
  have a3 : ((i : Int) + 1).toNat = i + 1 := by omega
  have a4 : (i : Int) ≤ (n : Int) := by omega
  have a5 : (i : Int) ≤ (n : Int) + 1 := by omega
  have b1 : ¬ (cap = i) := by omega
  have b2 : ¬ (cap = i + 1) := by omega
  have b3 : (i : Int) < (n : Int) := by omega
  have b4 : ¬ ((i : Int) = (n : Int)) := by omega
  have b5 : ¬ ((cap : Int) < (n : Int) + 1) := by omega
  clear hg hv hsp hl hlc hl1 hfin hx hcur hcs s1 s2 s3 hft hft2 hly hlz h1c h1v h1x
  go_enter Tryz.func89, Tryz.ntmps89
  go_wp2_with (simp only [hov])
  clear hov
  go_region_law (refine step_copy_k rfl _ _ 22 22 rfl 29 10 Tryz.underlying22 size_E g ((i + 1) * 10) (n - i) (cap - (i + 1)) ⟨g, i * 10, none⟩ (n + 1 - i) (cap - i) (by simp [Act.eval, Act.put]) (by simp [Act.eval, Act.put]) cur 29 HG.out (n - i) cs HLC.out (by simp only [Nat.min_def]; split <;> omega) (S1.out _ (fun _ => rfl)) HFT.out H1C.out ?_)
  go_wp2_with (refine wpList_copy_k _ rfl (.tmp 80) (.tmp 81) 22 22 rfl 29 10 Tryz.underlying22 size_E g (i * 10) _ _ ⟨vb, 0, none⟩ 1 1 rfl rfl (splice cur ((i + 1) * 10) cs) 29 (S2.out _ HG.out) 1 news HL.out (by simp only [Nat.min_def]; split <;> omega) (S3.out _ HV.out) HFT2.out H1V.out ?_)
  all_goals
    go_ret
    refine ⟨g, cap, rfl, own_mk hb (spare := cur.drop ((n + 1) * 10)) ?_ hcap hcap0 HZ.out HY.out, ?_, Or.inl rfl⟩
    · rw [← HF.out]
      exact setRow_heap _ g _ _ _ _ (S2.out _ HG.out)
    · exact grown_setRow (grown_setRow (grown_drew (grown_refl w (some g))) (Or.inl rfl) _) (Or.inl rfl) _

set_option maxHeartbeats 8000000 in
set_option maxRecDepth 100000 in
/-- inside, where there is none. -/
theorem insert_grow (base g n cap i vb : Nat) (xs spare news : List Value) (w : World) (hb : base ≤ w.heap.size) (hg : w.heap[g]? = some (.cells ⟨xs ++ spare⟩ 29 (0, 0))) (hx : xs.length = n * 10) (hin : i < n) (hnc : n ≤ cap) (hcap : cap < n + 1) (hcm : cap ≤ maxLen) (hbig : (n + 1) * 120 ≤ 140737488355328) (hl : news.length = 10)
    (hv : w.heap[vb]? = some (.cells ⟨news⟩ 29 (0, 0))) (h1x : ∀ u ∈ xs, u.oneCell' = true) (h1v : ∀ u ∈ news, u.oneCell' = true) :
    Calls Tryz.prog 89 #[.slice (some ⟨g, 0, none⟩) n cap, .int .i64 i, .slice (some ⟨vb, 0, none⟩) 1 1] w (InsPost w base 29 10 (some g) n (xs.take (i * 10) ++ news ++ xs.drop (i * 10))) := by
  obtain ⟨i0, hi, hz0, hz1, hz2⟩ := info_parts info_E
  have hlt : g < w.heap.size := (Array.getElem?_eq_some_iff.1 hg).1
  have hvt : vb < w.heap.size := (Array.getElem?_eq_some_iff.1 hv).1
  unfold maxLen at hcm
  obtain ⟨cs, hcs⟩ : ∃ cs, cs = xs.drop (i * 10) := ⟨_, rfl⟩
  have hlc : cs.length = (n - i) * 10 := by rw [hcs, List.length_drop, hx]; omega
  have hold : (Builtin.firstCells i0.size i (.slice (some ⟨g, 0, none⟩) i cap)).run Tryz.prog w.drew = .ok (xs.take (i * 10)).toArray w.drew := by
    rw [hz1]
    exact run_firstCells_some w.drew 10 i ⟨g, 0, none⟩ i cap (xs.take (i * 10)) (by rw [List.length_take, hx]; omega) (fun j v hj => by
      rw [addr_add, Nat.zero_add]
      show w.cell? _ = _
      rw [cells_at hg, List.getElem?_append_left (by have := (List.getElem?_eq_some_iff.1 hj).1; rw [List.length_take] at this; omega)]
      rw [List.getElem?_take] at hj
      split at hj
      · exact hj
      · cases hj)
  obtain ⟨G, hG⟩ : ∃ G, G = grownCap w (n + 1) cap 29 := ⟨_, rfl⟩
  obtain ⟨row, hrow⟩ : ∃ row : List Value, row = xs.take (i * 10) ++ ((Builtin.zeroCells (.agg #[.int .i64 0, .int .i64 0, .string ByteArray.empty, .string ByteArray.empty, .string ByteArray.empty, .int .i64 0, .int .i64 0, .int .i64 0, .int .i64 0, .slice none 0 0] : Value).cells (n + 1 - i)).toList ++ (Builtin.zeroCells (.agg #[.int .i64 0, .int .i64 0, .string ByteArray.empty, .string ByteArray.empty, .string ByteArray.empty, .int .i64 0, .int .i64 0, .int .i64 0, .int .i64 0, .slice none 0 0] : Value).cells (G - (n + 1))).toList) := ⟨_, rfl⟩
  have hGn : n + 1 ≤ G := by rw [hG]; exact grownCap_ge w _ _ _
  have hGm : G ≤ maxLen := by rw [hG]; exact grownCap_le_maxLen w (n + 1) cap 29 (by unfold maxLen; omega)
  have hrz : ∀ ty (q : Int), q = ((n + 1 - i : Nat) : Int) → (Builtin.append_ #[22, 3] ty #[.slice (some ⟨g, 0, none⟩) i cap, .int .i64 q]).run Tryz.prog w = .ok (.slice (some ⟨w.heap.size, 0, none⟩) (n + 1) G) (w.drew.alloc (.cells ⟨row⟩ 29)) := fun ty q hq => by
    have h := Lib.run_append_grow_zeros w 22 3 ty 29 i0 _ .i64 .i64 Tryz.underlying22 Tryz.underlying3 hi hz0 (some ⟨g, 0, none⟩) i cap (xs.take (i * 10)) hold (n + 1 - i) (by omega) (by omega) (by omega) (by omega) (by rw [hz2]; omega) (by rw [hz2, show i + (n + 1 - i) = n + 1 by omega]; exact growslice_fits hcap hbig)
    rw [show i + (n + 1 - i) = n + 1 by omega, ← hG] at h
    rw [hq, h, hrow]
    congr 4
    apply Array.ext'
    simp
  have hrl : row.length = G * 10 := by
    have e1 : ((.agg #[.int .i64 0, .int .i64 0, .string ByteArray.empty, .string ByteArray.empty, .string ByteArray.empty, .int .i64 0, .int .i64 0, .int .i64 0, .int .i64 0, .slice none 0 0] : Value).cells).size = 10 := rfl
    simp only [hrow, List.length_append, Array.length_toList, size_zeroCells, List.length_take, hx, e1]
    omega
  obtain ⟨H, hH⟩ : ∃ H, H = w.heap.size := ⟨_, rfl⟩
  have q0 : ∀ W : World, W.heap[H]? = some (.cells ⟨row⟩ 29 (0, 0)) → (W.setRow H ⟨splice row (i * 10) news⟩).heap[H]? = some (.cells ⟨splice row (i * 10) news⟩ 29 (0, 0)) := fun W hW => setRow_heap W H _ _ _ _ hW
  have q1 : ((w.alloc (.cells ⟨row⟩ 29)).drew).heap[H]? = some (.cells ⟨row⟩ 29 (0, 0)) := by rw [hH]; show (w.heap.push _)[w.heap.size]? = _; simp
  have q2 : ∀ j u, news[j]? = some u → ((w.alloc (.cells ⟨row⟩ 29)).drew).cell? ((⟨vb, 0, none⟩ : Addr).add j) = some u := fun j u h => by
    rw [addr_add, Nat.zero_add]
    have e : ((w.alloc (.cells ⟨row⟩ 29)).drew).heap[vb]? = w.heap[vb]? := Below.heap_alloc w _ vb hvt
    rw [cells_at (e.trans hv)]; exact h
  have q3 : ∀ W : World, W.heap[g]? = w.heap[g]? → ∀ j u, cs[j]? = some u → W.cell? ((⟨g, i * 10, none⟩ : Addr).add j) = some u := fun W hW j u h => by
    rw [addr_add, cells_at (hW.trans hg), List.getElem?_append_left (by
      have := (List.getElem?_eq_some_iff.1 h).1
      rw [hcs, List.length_drop] at this; omega)]
    rw [hcs, List.getElem?_drop] at h
    exact h
  have q4 : (((w.alloc (.cells ⟨row⟩ 29)).drew.setRow H ⟨splice row (i * 10) news⟩).drew).heap[g]? = w.heap[g]? := (setRow_other _ H g _ (by omega)).trans (Below.heap_alloc w _ g hlt)
  have h1c : ∀ u ∈ cs, u.oneCell' = true := fun u hu => h1x u (by rw [hcs] at hu; exact List.mem_of_mem_drop hu)
  have hft : i * 10 + news.length ≤ row.length := by rw [hrl, hl]; omega
  have hl1 : (splice row (i * 10) news).length = row.length := length_splice _ _ _ hft
  have hft2 : (i + 1) * 10 + cs.length ≤ (splice row (i * 10) news).length := by rw [hl1, hrl, hlc]; omega
  have hfin : splice (splice row (i * 10) news) ((i + 1) * 10) cs = (xs.take (i * 10) ++ news ++ xs.drop (i * 10)) ++ (splice row (i * 10) news).drop ((n + 1) * 10) := by
    have e1 : i * 10 ≤ xs.length := by rw [hx]; omega
    have e2 : (xs.take (i * 10)).length = i * 10 := by rw [List.length_take]; omega
    have e4 : i * 10 + news.length = (i + 1) * 10 := by simp only [hl]; try omega
    have e5 : row.take (i * 10) = xs.take (i * 10) := by rw [hrow, List.take_append_of_le_length (by omega), List.take_take, Nat.min_self]
    have e6 : (splice row (i * 10) news).take ((i + 1) * 10) = xs.take (i * 10) ++ news := by
      unfold splice
      rw [e5, ← List.append_assoc, List.take_append_of_le_length (by rw [List.length_append, e2, e4]; omega), List.take_of_length_le (by rw [List.length_append, e2, e4]; omega)]
    rw [show splice (splice row (i * 10) news) ((i + 1) * 10) cs = (splice row (i * 10) news).take ((i + 1) * 10) ++ (cs ++ (splice row (i * 10) news).drop ((i + 1) * 10 + cs.length)) from rfl, e6, hlc, show (i + 1) * 10 + (n - i) * 10 = (n + 1) * 10 by omega, hcs]
    simp only [List.append_assoc]
  have hly : (xs.take (i * 10) ++ news ++ xs.drop (i * 10)).length = (n + 1) * 10 := by
    rw [List.length_append, List.length_append, List.length_take, List.length_drop, hl, hx]; omega
  have hlz : ((xs.take (i * 10) ++ news ++ xs.drop (i * 10)) ++ (splice row (i * 10) news).drop ((n + 1) * 10)).length = G * 10 := by rw [List.length_append, hly, List.length_drop, hl1, hrl]; omega
  have HHH := Lib.hid hH
  have HG := Lib.hid hg
  have HV := Lib.hid hv
  have HL := Lib.hid hl
  have HLC := Lib.hid hlc
  have HF := Lib.hid hfin
  have HY := Lib.hid hly
  have HZ := Lib.hid hlz
  have HFT := Lib.hid hft
  have HFT2 := Lib.hid hft2
  have Q0 := Lib.hid q0
  have Q1 := Lib.hid q1
  have Q2 := Lib.hid q2
  have Q3 := Lib.hid q3
  have Q4 := Lib.hid q4
  have RZ := Lib.hid hrz
  have H1C := Lib.hid h1c
  have H1V := Lib.hid h1v
  have hGm' := hGm
  unfold maxLen at hGm'
  have a1 : IntKind.i64.wrap ((i : Int) + 1) = (i : Int) + 1 := IntWalk.i64_in _ (by omega)
  have a2 : (0 : Int) ≤ (i : Int) + 1 := by omega
  have a3 : ((i : Int) + 1).toNat = i + 1 := by omega
  have a4 : (i : Int) ≤ (n : Int) := by omega
  have a5 : (i : Int) ≤ (n : Int) + 1 := by omega
  have b1 : ¬ (cap = i) := by omega
  have b2 : ¬ (G = i + 1) := by omega
  have b6 : ¬ (G = i) := by omega
  have b3 : (i : Int) < (n : Int) := by omega
  have b4 : ¬ ((i : Int) = (n : Int)) := by omega
  have b5 : (cap : Int) < (n : Int) + 1 := by omega
  have hbH : base ≤ H := by omega
  have hw1 : (w.heap.size : Nat) = H := hH.symm
  clear hg hv hl hlc hl1 hfin hx hcs hold hrow hG hH hrz hrl q0 q1 q2 q3 q4 hft hft2 hly hlz h1c h1v h1x hi hz0 hz1 hz2
  rw [hw1] at RZ
  have HW1 := Lib.hid hw1
  clear hw1
  go_enter Tryz.func89, Tryz.ntmps89
  go_wp2_with (first
    | (at_builtin; refine Lib.wpList_append_run _ rfl _ _ 22 3 rfl _ _ rfl rfl _ _ (RZ.out _ _ (by omega)) ?_)
    | (refine wpList_copy_k _ rfl (.tmp 43) (.tmp 44) 22 22 rfl 29 10 Tryz.underlying22 size_E H (i * 10) _ _ ⟨vb, 0, none⟩ 1 1 rfl rfl row 29 Q1.out 1 news HL.out (by simp only [Nat.min_def]; split <;> omega) Q2.out HFT.out H1V.out ?_))
  go_region_law (refine step_copy_k rfl _ _ 22 22 rfl 29 10 Tryz.underlying22 size_E H ((i + 1) * 10) (n - i) (G - (i + 1)) ⟨g, i * 10, none⟩ (n - i) (cap - i) (by simp [Act.eval, Act.put]) (by simp [Act.eval, Act.put]) (splice row (i * 10) news) 29 (Q0.out _ Q1.out) (n - i) cs HLC.out (by simp only [Nat.min_def]; split <;> omega) (Q3.out _ Q4.out) HFT2.out H1C.out ?_)
  go_wp2_with fail
  go_ret
  refine ⟨H, G, rfl, own_mk hbH (spare := (splice row (i * 10) news).drop ((n + 1) * 10)) ?_ hGn hGm HZ.out HY.out, ?_, Or.inr (by rw [HHH.out]; exact Nat.le_refl _)⟩
  · rw [← HF.out]
    exact setRow_heap _ H _ _ _ _ (Q0.out _ Q1.out)
  · exact grown_setRow (grown_drew (grown_setRow (grown_drew (grown_alloc (grown_refl w (some g)) _)) (Or.inr (by rw [HHH.out]; exact Nat.le_refl _)) _)) (Or.inr (by rw [HHH.out]; exact Nat.le_refl _)) _

/-- slices.Insert of one element. -/
theorem insert_any (base : Nat) (v : Value) (n i vb : Nat) (xs news : List Value) (w : World) (hown : w.ownsRow base 29 10 v n xs) (hb : base ≤ w.heap.size) (hin : i ≤ n) (hn : (n + 1) * 120 ≤ 140737488355328) (hl : news.length = 10)
    (hv : w.heap[vb]? = some (.cells ⟨news⟩ 29 (0, 0))) (h1x : ∀ u ∈ xs, u.oneCell' = true) (h1v : ∀ u ∈ news, u.oneCell' = true) (ob : Option Nat) (hob : v.ownBlock = ob) (hvb : ob ≠ some vb) :
    Calls Tryz.prog 89 #[v, .int .i64 i, .slice (some ⟨vb, 0, none⟩) 1 1] w (InsPost w base 29 10 ob n (xs.take (i * 10) ++ news ++ xs.drop (i * 10))) := by
  by_cases h : i = n
  · subst h
    have hx := hown.1
    rw [List.take_of_length_le (by omega), List.drop_of_length_le (by omega), List.append_nil]
    exact insert_end base v i vb xs news w hown hb hn hl hv h1v ob hob
  · obtain ⟨g, cap, spare, rfl, h1, h2, h3, h4, h5, h6, h7⟩ := own_whole hown (by omega)
    subst hob
    by_cases hc : n + 1 ≤ cap
    · exact insert_room base g n cap i vb xs spare news w h1 h3 h7 h6 (by omega) hc h5 hl hv (fun e => hvb (by rw [e]; rfl)) h1x h1v
    · exact insert_grow base g n cap i vb xs spare news w hb h3 h7 (by omega) h4 (by omega) h5 hn hl hv h1x h1v

/-- What a deletion of one element says. -/
def DelPost (w : World) (base g cap n : Nat) (ys : List Value) (en : Ending) (w' : World) : Prop :=
  en = .returned (.slice (some ⟨g, 0, none⟩) n cap) ∧ w'.ownsRow base 29 10 (.slice (some ⟨g, 0, none⟩) n cap) n ys ∧ w.grownBy w' (some g)

theorem zero_E (w : World) : (zeroValue 29).run Tryz.prog w = .ok (.agg #[.int .i64 0, .int .i64 0, .string ByteArray.empty, .string ByteArray.empty, .string ByteArray.empty, .int .i64 0, .int .i64 0, .int .i64 0, .int .i64 0, .slice none 0 0]) w := by kernel_rfl
end Go.Proofs.YtgcfhlleaekgfaaGreatDoor.SlMut
