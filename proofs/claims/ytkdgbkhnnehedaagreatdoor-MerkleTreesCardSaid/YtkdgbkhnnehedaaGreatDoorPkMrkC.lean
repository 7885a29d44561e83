/- merkle.Of: the tree of any content (layer 24). PRINTED by wip/genmrkof.py. · merkle.Keys, and the document's: the keys of some leaves (layer 24). · cenotaphref24.Of: the tree of any content, by the document (layer 24). PRINTED by wip/genmrkrefof.py. · cenotaphref24.Keys: the keys of some leaves, by the document (layer 24). · The walk of the law's alive (layer 24). · Arrays whose elements are all the same: '==' gives true (any program). · The walk of the law MerkleTrees (layer 24). PRINTED by wip/genmrktrees.py. -/
import Derived.Test.YtkdgbkhnnehedaaGreatDoorPkMrkB
import Derived.Test.YtkdgbkhnnehedaaGreatDoorPkMrkA
import Derived.Laws.StructEq
import Derived.Laws.Entries
set_option linter.unusedSimpArgs false
set_option linter.unusedVariables false
namespace Go.Proofs.YtkdgbkhnnehedaaGreatDoor.Mrk
open Go.RowKit Go.Proofs.YtkdgbkhnnehedaaGreatDoor.Spare Go.Proofs.YtkdgbkhnnehedaaGreatDoor.RegInv Go.Proofs.YtkdgbkhnnehedaaGreatDoor.Mut Go.Proofs.YtkdgbkhnnehedaaGreatDoor.Ints
set_option linter.unusedSectionVars false
variable [Inhabited Lim]

/-- What the walk stands on: the content, the result's variable, the tree. -/
structure OfC (w : World) (N : Nat) (C : Array Value) (a : Nat → Nat) (W : World) : Prop where
  tree : TreeAt W 78 (N + 1 + 1) a
  res : TreeAt W 78 (N + 1) fun _ => 0
  con : W.heap[N]? = some (.cells C 47 (0, 0))
  below : Below N w W
theorem OfC.later {w W W' : World} {N : Nat} {C : Array Value} {a : Nat → Nat} (h : OfC w N C a W) (hb : Below W.heap.size W W') : OfC w N C a W' :=
  ⟨h.tree.below hb, h.res.below hb, (hb.block N (Array.getElem?_eq_some_iff.1 h.con).1).trans h.con, h.below.trans (hb.mono (Nat.le_of_lt (Array.getElem?_eq_some_iff.1 h.con).1))⟩
theorem OfC.grow {W : World} (N i x : Nat) : W.grownBy (W.setCell ⟨N + 1 + 1, i, none⟩ (.int .u64 x)) (some (N + 1 + 1)) := grown_setCell (World.grownBy.refl _ _) (Or.inl rfl) _
theorem OfC.set {w W : World} {N : Nat} {C : Array Value} {a : Nat → Nat} (h : OfC w N C a W) (i x : Nat) : OfC w N C (upd a i x) (W.setCell ⟨N + 1 + 1, i, none⟩ (.int .u64 x)) := by
  have hg := OfC.grow (W := W) N i x
  exact ⟨h.tree.set i x, h.res.kept hg (by simp), (hg.block N (Array.getElem?_eq_some_iff.1 h.con).1 (by simp; omega)).trans h.con, h.below.setCell (p := ⟨N + 1 + 1, i, none⟩) (by simp; omega) _⟩
theorem OfC.ext {w W : World} {N : Nat} {C : Array Value} {a a' : Nat → Nat} (h : OfC w N C a W) (e : ∀ i, i < 32 → a i = a' i) : OfC w N C a' W := ⟨h.tree.ext e, h.res, h.con, h.below⟩
theorem own_far {W W' : World} {base : Nat} {e : TypeId} {size n : Nat} {v : Value} {xs : List Value} {k : Nat} (h : W.ownsRow base e size v n xs) (hg : W.grownBy W' (some k)) (hk : k < base) : W'.ownsRow base e size v n xs := by
  refine h.kept hg ?_
  cases hv : v.ownBlock with
  | none => exact Or.inl rfl
  | some g =>
    refine Or.inr fun e => ?_
    have := (h.lt g hv).1
    have : g = k := by simpa using e
    omega
theorem copied_far {W W' : World} {base : Nat} {v : Value} {R : List Ro} {k : Nat} (h : Copied W v R base) (hg : W.grownBy W' (some k)) (hk : k < base) : Copied W' v R base :=
  ⟨own_far h.row hg hk, fun x hx => own_far (h.over x hx) hg hk⟩

set_option maxHeartbeats 8000000 in
set_option maxRecDepth 100000 in
theorem of_any {c : Con} {n : Nat} {v : Value} {w : World} (hv : IsC c v w) (h : Mut.Good c n) (hn : n ≤ 1000) : Calls Tryz.prog 26 #[v] w fun e w' => e = .returned (.agg (vT (treeF (allF c)))) ∧ Below w.heap.size w w' := by
  obtain ⟨o1, n1, k1, o2, n2, k2, o3, n3, k3, rfl, hlc⟩ := hv.form
  have HV := Lib.hid hlc
  have HGD := Lib.hid h
  have HNM := Lib.hid (show ∀ m ∈ allF c, NumM m from fun m hm => num_right (h.okc.right m (mem_allF.1 hm)))
  have hlen := len_allF c
  have hO := h.okc.len
  have HLN := Lib.hid (And.intro hlen hO)
  clear hlc hv h hlen hO
  obtain ⟨T, hT⟩ : ∃ T, T = treeF (allF c) := ⟨_, rfl⟩
  have HTT := Lib.hid hT
  rw [← hT]
  have HTW := Lib.hid (show Wide T from by rw [hT]; exact treeF_wide _)
  clear hT
  have hZs : (Tryz.prog.info? 78).map (·.size) = some (vT fun _ => 0).size := by rw [vT_size]; exact size52
  have hZ1 := vT_one (fun _ => 0)
  obtain ⟨Z, hZ⟩ : ∃ Z, Z = vT fun _ => 0 := ⟨_, rfl⟩
  rw [← hZ] at hZs hZ1
  have HZ := Lib.hid hZ
  have HZS := Lib.hid hZs
  have HZ1 := Lib.hid hZ1
  clear hZ hZs hZ1
  go_enter Tryz.func26, Tryz.ntmps26
  go_upto_region 1 with (first | (refine wp_alloc_tree rfl rfl Z HZ.out ?_))
  apply wp_region_lit
  refine wp_build_tree rfl rfl Z HZ.out ?_
  refine wp_alloc_tree rfl rfl Z HZ.out ?_
  refine wpList_store_row rfl 78 _ _ rfl _ Z rfl rfl 78 Z (heap_alloc_last _ _) HZS.out rfl HZ1.out ?_
  rw [World.setRow_alloc_new]
  obtain ⟨W, hW⟩ : ∃ W, W = ((w.alloc (.cells #[.slice o1 n1 k1, .slice o2 n2 k2, .slice o3 n3 k3] 47)).alloc (.cells Z 78)).alloc (.cells Z 78) := ⟨_, rfl⟩
  have hw3 : W.heap = ((w.heap.push (.cells #[.slice o1 n1 k1, .slice o2 n2 k2, .slice o3 n3 k3] 47)).push (.cells Z 78)).push (.cells Z 78) := by rw [hW]; rfl
  have hC : W.heap[w.heap.size]? = some (.cells #[.slice o1 n1 k1, .slice o2 n2 k2, .slice o3 n3 k3] 47 (0, 0)) := by rw [hw3]; exact (push3 w.heap _ _ _).1
  have hR : TreeAt W 78 (w.heap.size + 1) fun _ => 0 := by unfold TreeAt; rw [hw3, ← HZ.out]; exact (push3 w.heap _ _ _).2.1
  have hT : TreeAt W 78 (w.heap.size + 1 + 1) fun _ => 0 := by unfold TreeAt; rw [hw3, ← HZ.out]; exact (push3 w.heap _ _ _).2.2
  have hb0 : Below w.heap.size w W := by rw [hW]; exact (((Below.refl _ _).alloc (Nat.le_refl _) _).alloc (by simp) _).alloc (by simp; omega) _
  rw [← hW]
  have S0 : OfC w w.heap.size #[.slice o1 n1 k1, .slice o2 n2 k2, .slice o3 n3 k3] (fun _ => 0) W := ⟨hT, hR, hC, hb0⟩
  have S1 := Lib.hid (S0.ext (a' := leaves 0) (fun j _ => by unfold leaves; rw [if_neg (by omega)]))
  clear hW hw3 hC hR hT hb0 S0
  go_upto_region 3 with fail
  go_loopw [10] (fun iv wr => ∃ i : Nat, iv = .int .i64 i ∧ i ≤ 16 ∧ Hid (OfC w w.heap.size #[.slice o1 n1 k1, .slice o2 n2 k2, .slice o3 n3 k3] (leaves i) wr)) (fun iv _ => 16 - (intOf iv).toNat)
  case atStart => exact ⟨0, rfl, by omega, S1⟩
  case round =>
    obtain ⟨i, rfl, hi, hs⟩ := hrel
    by_cases hlt : i < 16
    · have m1 : IntKind.i64.wrap (16 + (i : Int)) = 16 + (i : Int) := IntWalk.i64_in _ (by omega)
      have m2 : (0 : Int) ≤ 16 + (i : Int) := by omega
      have m3 : (16 + (i : Int)).toNat = 16 + i := by omega
      have m4 : 16 + (i : Int) < 32 := by omega
      have m5 : 16 + i < 32 := by omega
      have c1 := hs.out.tree.cell (i := 16 + i) m5
      have f1 := hs.out.tree.frozen (16 + i)
      have S2 := Lib.hid ((hs.out.set (16 + i) (lev 0)).ext leaves_next)
      go_wp2_with fail
      go_roundw
      case rel => exact ⟨i + 1, by go_num, by omega, S2⟩
      case measure => simp [intOf]; omega
    · obtain rfl : i = 16 := by omega
      have S3 := hs
      have g0 : wr.cell? ⟨w.heap.size, 0, none⟩ = some (.slice o1 n1 k1) := by rw [cell_of_row wr w.heap.size 0 #[.slice o1 n1 k1, .slice o2 n2 k2, .slice o3 n3 k3] _ (0, 0) hs.out.con]; rfl
      have g1 : wr.cell? ⟨w.heap.size, 1, none⟩ = some (.slice o2 n2 k2) := by rw [cell_of_row wr w.heap.size 1 #[.slice o1 n1 k1, .slice o2 n2 k2, .slice o3 n3 k3] _ (0, 0) hs.out.con]; rfl
      have g2 : wr.cell? ⟨w.heap.size, 2, none⟩ = some (.slice o3 n3 k3) := by rw [cell_of_row wr w.heap.size 2 #[.slice o1 n1 k1, .slice o2 n2 k2, .slice o3 n3 k3] _ (0, 0) hs.out.con]; rfl
      have hal := Lib.hid (c_all (n := n) (HV.out.below hs.out.below).is HGD.out (by omega))
      have hbase : w.heap.size + 1 + 1 < wr.heap.size := hs.out.tree.lt
      obtain ⟨base, hbs⟩ : ∃ b, b = wr.heap.size := ⟨_, rfl⟩
      rw [← hbs] at hal hbase
      have HBS0 := Lib.hid hbs
      clear hbs
      go_wp2_with fail
      refine hal.out.mono ?_
      rintro e w2 ⟨g, cap, R, rfl, hcp, hm, hb2⟩
      have S4 := Lib.hid (S3.out.later (by rw [← HBS0.out]; exact hb2))
      have HCP := Lib.hid hcp
      have HM := Lib.hid hm
      have hl1 : R.length ≤ 1000 := by have h1 := congrArg List.length hm; rw [List.length_map] at h1; have := HLN.out; omega
      obtain ⟨nr, hnr⟩ : ∃ k, k = R.length := ⟨_, rfl⟩
      rw [← hnr] at HCP hl1 ⊢
      have HNR := Lib.hid hnr
      clear hcp hm hb2 hnr hal g0 g1 g2 hs S3
      go_wp2_with fail
      go_loopw [20] (fun iv wr => ∃ k : Nat, k ≤ nr ∧ iv = .int .i64 k ∧ Hid (OfC w w.heap.size #[.slice o1 n1 k1, .slice o2 n2 k2, .slice o3 n3 k3] (leafT ((R.take k).map (·.1))) wr) ∧ Hid (Copied wr (.slice (some ⟨g, 0, none⟩) nr cap) R base)) (fun iv _ => nr - (intOf iv).toNat)
      case atStart => exact ⟨0, by omega, rfl, S4, HCP⟩
      case round =>
        obtain ⟨k, hk, rfl, hs, hcp⟩ := hrel
        by_cases hlt : k < nr
        · obtain ⟨x, hx⟩ : ∃ x, R[k]? = some x := ⟨_, List.getElem?_eq_getElem (by have := HNR.out; omega)⟩
          have htk : (R.take (k + 1)).map (·.1) = (R.take k).map (·.1) ++ [x.1] := by rw [List.take_add_one, hx]; simp
          have hmr : MRow wr (.slice (some ⟨g, 0, none⟩) nr cap) R := hcp.out.mrow
          obtain ⟨xb, xoff, hao, hat⟩ := hmr.at_ hx
          cases hao
          rw [Nat.zero_add] at hat
          have hov := hmr.over x (List.mem_of_getElem? hx)
          obtain ⟨xo, xc, xe, -, -⟩ := Over.form hov
          have HNX := Lib.hid (HNM.out x.1 (by rw [← HM.out]; exact List.mem_map.2 ⟨x, List.mem_of_getElem? hx, rfl⟩))
          have HOV := Lib.hid hov
          have HXE := Lib.hid xe
          obtain ⟨t, ht⟩ : ∃ t, t = leafT ((R.take k).map (·.1)) := ⟨_, rfl⟩
          have HTK := Lib.hid (show leafT ((R.take (k + 1)).map (·.1)) = leafS t x.1 from by rw [htk, leafT_snoc, ht])
          have HWT := Lib.hid (show Wide t from by rw [ht]; exact leafT_wide _)
          rw [← ht] at hs
          clear hmr hx htk hov ht
          obtain ⟨hbl0, a0, a1, a2, a3, a4, a5, a6, a7, a8, a9⟩ := hat
          rw [xe] at a9
          clear xe
          have j0 : (0 : Int) ≤ (k : Int) := by omega
          have j1 : (k : Int) < (nr : Int) := by omega
          go_upto_region 10 with fail
          obtain ⟨W2, hW2⟩ : ∃ W, W = wr.alloc (.cells #[.int .i64 x.1.table, .int .i64 x.1.kind, .string x.1.key, .string x.1.fin, .string x.1.val, .int .i64 x.1.expiry, .int .i64 x.1.at_.p, .int .i64 x.1.at_.l, .int .i64 x.1.at_.w, .slice xo x.1.over.length xc] 28) := ⟨_, rfl⟩
          rw [← hW2]
          obtain ⟨nv, hnv⟩ : ∃ k, k = wr.heap.size := ⟨_, rfl⟩
          rw [← hnv]
          have hb2 : Below wr.heap.size wr W2 := by rw [hW2]; exact (Below.refl _ wr).alloc (Nat.le_refl _) _
          have hbx : W2.heap[nv]? = some (.cells #[.int .i64 x.1.table, .int .i64 x.1.kind, .string x.1.key, .string x.1.fin, .string x.1.val, .int .i64 x.1.expiry, .int .i64 x.1.at_.p, .int .i64 x.1.at_.l, .int .i64 x.1.at_.w, .slice xo x.1.over.length xc] 28 (0, 0)) := by rw [hW2, hnv]; exact heap_alloc_new wr _
          have S5 := Lib.hid (hs.out.later hb2)
          have C5 := Lib.hid (hcp.out.below hb2)
          have HO5 := Lib.hid (HOV.out.below hb2)
          have HBX := Lib.hid hbx
          have m2 : W2.cell? ⟨nv, 2, none⟩ = some (.string x.1.key) := by rw [cell_of_row W2 nv 2 _ _ (0, 0) hbx]; rfl
          have hnv2 : nv < W2.heap.size := (Array.getElem?_eq_some_iff.1 hbx).1
          clear hW2 hb2 hbx hnv a0 a1 a2 a3 a4 a5 a6 a7 a8 a9 hs hcp HOV hbl0
          obtain ⟨ib, hib⟩ : ∃ i, i = 16 + bucketF x.1.key := ⟨_, rfl⟩
          have hi32 : ib < 32 := by have := bucketF_lt x.1.key; omega
          obtain ⟨bk, hbk⟩ : ∃ i, i = bucketF x.1.key := ⟨_, rfl⟩
          have hbk2 : ib = 16 + bk := by rw [hib, hbk]
          have HBK := Lib.hid (bucket_any x.1.key W2 (by have := HNX.out.key; omega))
          rw [← hbk] at HBK
          have HIB := Lib.hid hib
          clear hib hbk
          go_wp2_with fail
          refine HBK.out.mono ?_
          rintro e W6 ⟨rfl, hb⟩
          have S6 := Lib.hid (S5.out.later hb)
          have C6 := Lib.hid (C5.out.below hb)
          have HO6 := Lib.hid (HO5.out.below hb)
          have HBX6 := Lib.hid ((hb.block nv hnv2).trans HBX.out)
          have hnv6 : nv < W6.heap.size := Nat.lt_of_lt_of_le hnv2 hb.size
          have q1 : IntKind.i64.wrap (16 + (bk : Int)) = (ib : Int) := by rw [IntWalk.i64_in _ (by omega)]; omega
          clear hb S5 C5 HO5 HBX m2 hnv2 HBK
          go_upto_region 11 with fail
          have q2 : (16 + (bk : Int)) = (ib : Int) := by omega
          rw [q2]
          clear q1 q2 hbk2
          obtain ⟨y, hy⟩ : ∃ y, y = t ib := ⟨_, rfl⟩
          obtain ⟨z, hz⟩ : ∃ z, z = sumF y (bytesM x.1) := ⟨_, rfl⟩
          have hy64 : y < 18446744073709551616 := by rw [hy]; exact HWT.out ib hi32
          have HZ2 := Lib.hid (show leafS t x.1 = upd t ib z from by unfold leafS; rw [hz, hy, HIB.out])
          have HSUM := Lib.hid (fun (v : Value) (W : World) (hv : BRow W v (bytesM x.1)) => show Calls Tryz.prog 71 #[.int .u64 y, v] W (fun e w' => e = .returned (.int .u64 (z : Nat)) ∧ W = w') from by
            rw [hz]
            exact sum_any y (bytesM x.1) v W hy64 hv (bytesM_byte _) (by have := bytesM_len HNX.out; omega))
          have HTC := Lib.hid (fun (W : World) (hW : Below W6.heap.size W6 W) => show W.cell? ⟨w.heap.size + 1 + 1, ib, none⟩ = some (.int .u64 (y : Nat)) from by rw [hy]; exact (S6.out.later hW).tree.cell hi32)
          have HMC := Lib.hid (fun (W : World) (hW : Below W6.heap.size W6 W) => show W.cell? ⟨nv, 0, none⟩ = some (.int .i64 x.1.table) ∧ W.cell? ⟨nv, 1, none⟩ = some (.int .i64 x.1.kind) ∧ W.cell? ⟨nv, 2, none⟩ = some (.string x.1.key) ∧ W.cell? ⟨nv, 3, none⟩ = some (.string x.1.fin) ∧ W.cell? ⟨nv, 4, none⟩ = some (.string x.1.val) ∧ W.cell? ⟨nv, 5, none⟩ = some (.int .i64 x.1.expiry) ∧ W.cell? ⟨nv, 6, none⟩ = some (.int .i64 x.1.at_.p) ∧ W.cell? ⟨nv, 7, none⟩ = some (.int .i64 x.1.at_.l) ∧ W.cell? ⟨nv, 8, none⟩ = some (.int .i64 x.1.at_.w) ∧ W.cell? ⟨nv, 9, none⟩ = some (.slice xo x.1.over.length xc) from by
            have h1 := (hW.block nv hnv6).trans HBX6.out
            exact ⟨cell_of_row W nv 0 _ _ _ h1, cell_of_row W nv 1 _ _ _ h1, cell_of_row W nv 2 _ _ _ h1, cell_of_row W nv 3 _ _ _ h1, cell_of_row W nv 4 _ _ _ h1, cell_of_row W nv 5 _ _ _ h1, cell_of_row W nv 6 _ _ _ h1, cell_of_row W nv 7 _ _ _ h1, cell_of_row W nv 8 _ _ _ h1, cell_of_row W nv 9 _ _ _ h1⟩)
          have HPUT := Lib.hid (fun (W : World) (hW : Below W6.heap.size W6 W) => show Calls Tryz.prog 72 #[.slice none 0 0, .agg #[.int .i64 x.1.table, .int .i64 x.1.kind, .string x.1.key, .string x.1.fin, .string x.1.val, .int .i64 x.1.expiry, .int .i64 x.1.at_.p, .int .i64 x.1.at_.l, .int .i64 x.1.at_.w, .slice xo x.1.over.length xc]] W (BytesPost W (bytesM x.1)) from by
            have h1 := mutbytes_any x W (HO6.out.below hW) HNX.out
            unfold vM at h1
            rw [HXE.out] at h1
            exact h1)
          have i0 : (0 : Int) ≤ (ib : Int) := by omega
          have i1 : (ib : Int) < 32 := by omega
          clear hy hz
          refine wp_region_told [] 8 [false, false, false, false, false, false, false, false, false, false, false, false, false, false, false, false, false, false, false, false, false, false, false, false, false, false, false, false, true, true, true, true, true, true, true, true, false, false, false, false, false, false, false, false, false, false, false, false, false, false, false, false, false, false]
            [sLit (.int .i64 ib),
    sLit (.int .i64 ib),
    sLit (.pointer (some ⟨w.heap.size + 1 + 1, ib, none⟩)),
    sLit (.int .u64 (y : Nat)),
    sLit (.agg #[.int .i64 x.1.table, .int .i64 x.1.kind, .string x.1.key, .string x.1.fin, .string x.1.val, .int .i64 x.1.expiry, .int .i64 x.1.at_.p, .int .i64 x.1.at_.l, .int .i64 x.1.at_.w, .slice xo x.1.over.length xc]),
    sOne (fun v W => BRow W v (bytesM x.1)) (fun _ _ _ h hb => Lst.below h hb),
    sLit (.int .u64 (z : Nat)),
    sLit (.pointer (some ⟨w.heap.size + 1 + 1, ib, none⟩))] (by kernel_rfl) (by kernel_rfl) (by kernel_rfl) (fun F hF => ?_)
          simp only [over, overL, Nat.reduceAdd] at hF
          obtain rfl := funext hF
          clear hF
          refine ⟨⟨?_, ?_, ?_, ?_, ?_, ?_, ?_, ?_, trivial⟩, ?_⟩
          · intro V W hb hd K hK _
            clear hd
            go_wp2_with fail
            refine hK _ _ ?_ ?_ ?_ ?_
            · rfl
            · exact Below.refl _ _
            · exact rfl
            · trivial
          · intro V W hb hd K hK _
            clear hd
            go_wp2_with fail
            refine hK _ _ ?_ ?_ ?_ ?_
            · rfl
            · exact Below.refl _ _
            · exact rfl
            · trivial
          · intro V W hb hd K hK _
            have h1 : (V 29) = .int .i64 ib := hd 1 (by kernel_rfl)
            clear hd
            go_wp2_with fail
            refine hK _ _ ?_ ?_ ?_ ?_
            · rfl
            · exact Below.refl _ _
            · exact rfl
            · trivial
          · intro V W hb hd K hK _
            have h2 : (V 30) = .pointer (some ⟨w.heap.size + 1 + 1, ib, none⟩) := hd 2 (by kernel_rfl)
            clear hd
            have c1 := HTC.out W hb
            go_wp2_with fail
            refine hK _ _ ?_ ?_ ?_ ?_
            · rfl
            · exact Below.refl _ _
            · exact rfl
            · trivial
          · intro V W hb hd K hK _
            clear hd
            obtain ⟨m0, m1, m2, m3, m4, m5, m6, m7, m8, m9⟩ := HMC.out W hb
            go_wp2_with fail
            refine hK _ _ ?_ ?_ ?_ ?_
            · rfl
            · exact Below.refl _ _
            · exact rfl
            · trivial
          · intro V W hb hd K hK _
            have h4 : (V 32) = .agg #[.int .i64 x.1.table, .int .i64 x.1.kind, .string x.1.key, .string x.1.fin, .string x.1.val, .int .i64 x.1.expiry, .int .i64 x.1.at_.p, .int .i64 x.1.at_.l, .int .i64 x.1.at_.w, .slice xo x.1.over.length xc] := hd 4 (by kernel_rfl)
            clear hd
            go_wp2_with fail
            refine (HPUT.out W hb).mono ?_
            rintro e w1 ⟨v1, rfl, hv1, hb1⟩
            go_wp2_with fail
            refine hK _ _ ?_ ?_ ?_ ?_
            · rfl
            · exact hb1
            · exact hv1
            · trivial
          · intro V W hb hd K hK _
            have h3 : (V 31) = .int .u64 (y : Nat) := hd 3 (by kernel_rfl)
            have h5 : BRow W (V 33) (bytesM x.1) := hd 5 (by kernel_rfl)
            clear hd
            go_wp2_with fail
            refine (HSUM.out _ W h5).mono ?_
            rintro e w1 ⟨rfl, rfl⟩
            go_wp2_with fail
            refine hK _ _ ?_ ?_ ?_ ?_
            · rfl
            · exact Below.refl _ _
            · exact rfl
            · trivial
          · intro V W hb hd K hK _
            have h0 : (V 28) = .int .i64 ib := hd 0 (by kernel_rfl)
            clear hd
            go_wp2_with fail
            refine hK _ _ ?_ ?_ ?_ ?_
            · rfl
            · exact Below.refl _ _
            · exact rfl
            · trivial
          · intro V W hb hd hap
            have h6 : (V 34) = .int .u64 (z : Nat) := hd 6 (by decide)
            have h7 : (V 35) = .pointer (some ⟨w.heap.size + 1 + 1, ib, none⟩) := hd 7 (by decide)
            clear hd hap
            simp only [List.drop_succ_cons, List.drop_zero]
            have S7 := S6.out.later hb
            have cq := S7.tree.cell (i := ib) hi32
            have fq := S7.tree.frozen ib
            have S8 := Lib.hid (show OfC w w.heap.size #[.slice o1 n1 k1, .slice o2 n2 k2, .slice o3 n3 k3] (leafT ((R.take (k + 1)).map (·.1))) (W.setCell ⟨w.heap.size + 1 + 1, ib, none⟩ (.int .u64 (z : Nat))) from by rw [HTK.out, HZ2.out]; exact S7.set ib z)
            have C8 := Lib.hid (copied_far (C6.out.below hb) (OfC.grow w.heap.size ib z) hbase)
            clear S7 hb
            go_wp2_with fail
            go_roundw
            case rel => exact ⟨k + 1, by omega, by go_num, S8, C8⟩
            case measure => simp [intOf]; omega
        · obtain rfl : k = nr := by omega
          have S9 := Lib.hid (show OfC w w.heap.size #[.slice o1 n1 k1, .slice o2 n2 k2, .slice o3 n3 k3] (leafT (allF c)) wr from by have h := hs.out; rw [List.take_of_length_le (by rw [← HNR.out]; exact Nat.le_refl _), HM.out] at h; exact h)
          have HW9 := Lib.hid (leafT_wide (allF c))
          have HT9 := Lib.hid (show nodesT 15 (leafT (allF c)) = T from by rw [HTT.out]; rfl)
          clear hs hcp
          go_wp2_with fail
          go_loopw [8] (fun iv wr => ∃ (i : Nat) (t : Nat → Nat), iv = .int .i64 i ∧ i ≤ 15 ∧ Hid (OfC w w.heap.size #[.slice o1 n1 k1, .slice o2 n2 k2, .slice o3 n3 k3] t wr) ∧ Hid (Wide t) ∧ Hid (nodesT i t = T)) (fun iv _ => (intOf iv).toNat)
          case atStart => exact ⟨15, _, rfl, by omega, S9, HW9, HT9⟩
          case round =>
            obtain ⟨i, t, rfl, hi, hs, hwt, htt⟩ := hrel
            by_cases h0 : 0 < i
            · obtain ⟨j, hj⟩ : ∃ j, j = 2 * i := ⟨_, rfl⟩
              have m1 : IntKind.i64.wrap (2 * (i : Int)) = (j : Int) := by rw [IntWalk.i64_in _ (by omega)]; omega
              have m2 : IntKind.i64.wrap ((j : Int) + 1) = (j : Int) + 1 := IntWalk.i64_in _ (by omega)
              have m3 : (0 : Int) ≤ (j : Int) + 1 := by omega
              have m4 : ((j : Int) + 1).toNat = j + 1 := by omega
              have m5 : j < 32 := by omega
              have m6 : j + 1 < 32 := by omega
              have m7 : (j : Int) + 1 < 32 := by omega
              have m8 : IntKind.i64.wrap ((i : Int) - 1) = ((i - 1 : Nat) : Int) := by rw [IntWalk.i64_in _ (by omega)]; omega
              have m9 : i < 32 := by omega
              have c2 := hs.out.tree.cell (i := j) m5
              have c3 := hs.out.tree.cell (i := j + 1) m6
              have hnd := fun w' => node_any (t j) (t (j + 1)) w' (hwt.out j m5) (hwt.out (j + 1) m6)
              obtain ⟨z, hz⟩ : ∃ z, z = nodeF (t j) (t (j + 1)) := ⟨_, rfl⟩
              have HTT2 := Lib.hid (show nodesT (i - 1) (upd t i z) = T from by
                have h := htt.out
                obtain ⟨i', rfl⟩ : ∃ k, i = k + 1 := ⟨i - 1, by omega⟩
                rw [hz, hj]
                exact h)
              have HWT2 := Lib.hid (show Wide (upd t i z) from upd_wide hwt.out _ _ (by rw [hz]; exact nodeF_lt _ _))
              rw [← hz] at hnd
              generalize t j = x at *
              generalize t (j + 1) = y at *
              have HND := Lib.hid hnd
              have hT := hs.out.tree.lt
              obtain ⟨W0, rfl⟩ : ∃ W0 : World, W0 = wr := ⟨_, rfl⟩
              clear hnd hz hj htt hwt
              go_wp2_with fail
              refine wp_region_calm_tail 12 (by kernel_rfl) (by kernel_rfl) ?_
              simp only [List.take_succ_cons, List.take_zero, List.drop_succ_cons, List.drop_zero]
              repeat (go_big_quiet_step ((go_at_call 73; exact calm (HND.out _))))
              refine wpQuiet_nil ?_
              rintro _ ⟨q, rfl⟩
              have hsq := hs.out.later q.below
              have cq := hsq.tree.cell (i := i) m9
              have fq := hsq.tree.frozen i
              have S5 := Lib.hid (hsq.set i z)
              clear hsq
              go_wp2_with fail
              go_roundw
              case rel => exact ⟨i - 1, _, by first | rfl | go_num, by omega, S5, HWT2, HTT2⟩
              case measure => simp [intOf]; omega
            · obtain rfl : i = 0 := by omega
              have htT : t = T := htt.out
              have S6 := Lib.hid (show OfC w w.heap.size #[.slice o1 n1 k1, .slice o2 n2 k2, .slice o3 n3 k3] T wr from by rw [← htT]; exact hs.out)
              clear hs hwt htt htT
              have hsz : (Tryz.prog.info? 78).map (·.size) = some (vT T).size := by rw [vT_size]; exact size52
              have hone := vT_one T
              have hq : (vT fun _ => 0).size = (vT T).size := by rw [vT_size, vT_size]
              obtain ⟨Y, hY⟩ : ∃ Y, Y = vT T := ⟨_, rfl⟩
              obtain ⟨Y0, hY0⟩ : ∃ Y, Y = vT fun _ => 0 := ⟨_, rfl⟩
              have h6t : wr.heap[w.heap.size + 1 + 1]? = some (.cells Y 78 (0, 0)) := by rw [hY]; exact S6.out.tree
              have h6r : wr.heap[w.heap.size + 1]? = some (.cells Y0 78 (0, 0)) := by rw [hY0]; exact S6.out.res
              rw [← hY] at hsz hone hq
              have HY := Lib.hid hY
              rw [← hY0] at hq
              have h7 : (wr.setRow (w.heap.size + 1) Y).heap[w.heap.size + 1]? = some (.cells Y 78 (0, 0)) := setRow_heap _ _ _ _ _ _ h6r
              have h8 : Below w.heap.size w (wr.setRow (w.heap.size + 1) Y) := below_setRow S6.out.below (by omega) _
              have HSZ := Lib.hid hsz
              have HONE := Lib.hid hone
              have HQ := Lib.hid hq
              have H6T := Lib.hid h6t
              have H6R := Lib.hid h6r
              have H7 := Lib.hid h7
              have H8 := Lib.hid h8
              clear hsz hone hq hY hY0 h6t h6r h7 h8
              go_upto_region 17 with fail
              apply wp_region_lit
              refine wpList_load_row rfl 78 _ rfl (w.heap.size + 1 + 1) rfl 78 Y (0, 0) _ H6T.out Tryz.underlying78 rfl HSZ.out ?_
              refine wpList_store_row rfl 78 _ _ rfl (w.heap.size + 1) Y rfl rfl 78 Y0 H6R.out HSZ.out HQ.out HONE.out ?_
              go_wp2_with fail
              refine bodyPost_ret (v := .agg Y) (results_cell_row rfl _ _ (w.heap.size + 1) 78 Y (0, 0) _ rfl H7.out Tryz.underlying78 rfl HSZ.out) rfl ⟨by rw [HY.out], H8.out⟩
end Go.Proofs.YtkdgbkhnnehedaaGreatDoor.Mrk

namespace Go.Proofs.YtkdgbkhnnehedaaGreatDoor.Mrk
open Go.RowKit Go.Proofs.YtkdgbkhnnehedaaGreatDoor.Spare Go.Proofs.YtkdgbkhnnehedaaGreatDoor.RegInv Go.Proofs.YtkdgbkhnnehedaaGreatDoor.Mut Go.Proofs.YtkdgbkhnnehedaaGreatDoor.Ints
set_option linter.unusedSectionVars false
variable [Inhabited Lim]

/-- Sixteen flags. -/
def lF (p : Nat → Bool) : List Value := (List.range 16).map fun i => .bool (p i)
def vF (p : Nat → Bool) : Array Value := (lF p).toArray
def FlagsAt (W : World) (b : Nat) (p : Nat → Bool) : Prop := W.heap[b]? = some (.cells (vF p) 135 (0, 0))
theorem FlagsAt.lt {W : World} {b : Nat} {p : Nat → Bool} (h : FlagsAt W b p) : b < W.heap.size := (Array.getElem?_eq_some_iff.1 h).1
theorem FlagsAt.cell {W : World} {b : Nat} {p : Nat → Bool} (h : FlagsAt W b p) {i : Nat} (hi : i < 16) : W.cell? ⟨b, i, none⟩ = some (.bool (p i)) := by
  rw [cell_of_row W b i (vF p) _ (0, 0) h]
  simp [vF, lF, hi]
theorem FlagsAt.frozen {W : World} {b : Nat} {p : Nat → Bool} (h : FlagsAt W b p) (i : Nat) : W.frozen? ⟨b, i, none⟩ = false := frozen_of_row W b i _ _ h
theorem FlagsAt.kept {W W' : World} {b : Nat} {p : Nat → Bool} {row : Option Nat} (h : FlagsAt W b p) (hg : W.grownBy W' row) (hne : some b ≠ row) : FlagsAt W' b p := (hg.block b h.lt hne).trans h
theorem FlagsAt.below {W W' : World} {b : Nat} {p : Nat → Bool} (h : FlagsAt W b p) (hb : Below W.heap.size W W') : FlagsAt W' b p := (hb.block b h.lt).trans h
theorem FlagsAt.not_row {W : World} {b : Nat} {p : Nat → Bool} (h : FlagsAt W b p) {e : TypeId} (hte : 135 ≠ e) {base size k : Nat} {v : Value} {xs : List Value} (hr : W.ownsRow base e size v k xs) : some b ≠ v.ownBlock := by
  intro e1
  rcases hr.2 with ⟨rfl, _⟩ | ⟨g, cap, cur, rfl, _, hg, _⟩
  · cases e1
  · have : b = g := by simpa [Value.ownBlock] using e1
    subst this
    have h1 := h.symm.trans hg
    simp at h1
    exact hte h1.2
theorem FlagsAt.ext {W : World} {b : Nat} {p q : Nat → Bool} (h : FlagsAt W b p) (e : ∀ i, i < 16 → p i = q i) : FlagsAt W b q := by
  have : vF p = vF q := by
    unfold vF lF
    congr 1
    apply List.map_congr_left
    intro i hi
    rw [e i (List.mem_range.1 hi)]
  unfold FlagsAt
  rw [← this]
  exact h
theorem FlagsAt.set {W : World} {b : Nat} {p : Nat → Bool} (h : FlagsAt W b p) (i : Nat) : FlagsAt (W.setCell ⟨b, i, none⟩ (.bool true)) b (fun j => p j || decide (j = i)) := by
  have h2 := heap_setCell_same W b i (vF p) _ (.bool true) h
  unfold FlagsAt
  rw [h2]
  congr 2
  apply Array.ext_getElem?
  intro j
  by_cases hj : j < 16
  · by_cases hij : i = j
    · subst hij
      simp [vF, lF, hj]
    · have hij' : ¬ j = i := fun e => hij e.symm
      rw [Array.getElem?_setIfInBounds_ne hij]
      simp [vF, lF, hj, hij']
  · simp [vF, lF, hj]
theorem zero_flags : (zeroValue 135).run Tryz.prog = fun w => .ok (.agg (vF fun _ => false)) w := by
  funext w
  exact (zero_of_info (P := Tryz.prog) (t := 135) (v := .agg (vF fun _ => false)) (n := 16) (by kernel_rfl)).1 w
theorem built_flags : Tryz.prog.built 135 [] = some (vF fun _ => false) := by kernel_rfl
theorem wp_alloc_flags {ops : Array Oper} {rest : List Oper} {o : Oper} {a : Act} {w : World} {Q : Exit → Act → World → Prop} (hg : o.guard = none) (hop : o.op = .alloc 135) (Z : Array Value) (hZ : Z = vF fun _ => false)
    (h : wpList Tryz.prog ops Q rest (a.put o.dst (.pointer (some ⟨w.heap.size, 0, none⟩))) (w.alloc (.cells Z 135))) : wpList Tryz.prog ops Q (o :: rest) a w := by
  subst hZ
  refine Great.wpList_allocTo hg o.dst rfl (.pointer (some ⟨w.heap.size, 0, none⟩)) (.cells (vF fun _ => false) 135) ?_ h
  unfold execOp
  simp only [hop, Instr.alloc, newVar, newRow, Sem.run_bind, Sem.run_pure, zero_flags, Result.andThen_ok, run_newObj_alloc, Value.cells]
theorem wp_build_flags {ops : Array Oper} {rest : List Oper} {o : Oper} {a : Act} {w : World} {Q : Exit → Act → World → Prop} (hg : o.guard = none) (hop : o.op = .build 135 #[]) (Z : Array Value) (hZ : Z = vF fun _ => false)
    (h : wpList Tryz.prog ops Q rest (a.put o.dst (.agg Z)) w) : wpList Tryz.prog ops Q (o :: rest) a w := by
  subst hZ
  exact wpList_buildTo hg 135 #[] hop o.dst rfl (vF fun _ => false) (by rw [Array.map_empty]; exact built_flags) h
theorem vF_one (p : Nat → Bool) : (vF p).all (·.oneCell') = true := by
  rw [Array.all_eq_true_iff_forall_mem]
  intro x hx
  simp [vF, lF] at hx
  obtain ⟨i, _, rfl⟩ := hx
  rfl
theorem size_flags : (Tryz.prog.info? 135).map (·.size) = some 16 := by kernel_rfl
theorem vF_size (p : Nat → Bool) : (vF p).size = 16 := by simp [vF, lF]

/-- What the walk of Keys stands on: the content, the flags. -/
structure KeyC (w : World) (N : Nat) (C : Array Value) (p : Nat → Bool) (W : World) : Prop where
  flags : FlagsAt W (N + 1) p
  con : W.heap[N]? = some (.cells C 47 (0, 0))
  below : Below N w W
theorem KeyC.later {w W W' : World} {N : Nat} {C : Array Value} {p : Nat → Bool} (h : KeyC w N C p W) (hb : Below W.heap.size W W') : KeyC w N C p W' :=
  ⟨h.flags.below hb, (hb.block N (Array.getElem?_eq_some_iff.1 h.con).1).trans h.con, h.below.trans (hb.mono (Nat.le_of_lt (Array.getElem?_eq_some_iff.1 h.con).1))⟩
theorem KeyC.set {w W : World} {N : Nat} {C : Array Value} {p : Nat → Bool} (h : KeyC w N C p W) (i : Nat) : KeyC w N C (fun j => p j || decide (j = i)) (W.setCell ⟨N + 1, i, none⟩ (.bool true)) := by
  have hg : W.grownBy (W.setCell ⟨N + 1, i, none⟩ (.bool true)) (some (N + 1)) := grown_setCell (World.grownBy.refl _ _) (Or.inl rfl) _
  exact ⟨h.flags.set i, (hg.block N (Array.getElem?_eq_some_iff.1 h.con).1 (by simp)).trans h.con, h.below.setCell (p := ⟨N + 1, i, none⟩) (by simp) _⟩
theorem KeyC.grown {w W W' : World} {N base : Nat} {C : Array Value} {p : Nat → Bool} {v : Value} {l : List ByteArray} (h : KeyC w N C p W) (ho : OwnT W base v l) (hb : N < base) (hg : W.grownBy W' v.ownBlock) : KeyC w N C p W' := by
  have hlt : ∀ k, v.ownBlock = some k → base ≤ k ∧ k < W.heap.size := fun k hk => World.ownsRow.lt ho k hk
  refine ⟨h.flags.kept hg (h.flags.not_row (by decide) ho), (hg.block N (Array.getElem?_eq_some_iff.1 h.con).1 (fun e => ?_)).trans h.con, h.below.grown hg (Nat.le_of_lt (Array.getElem?_eq_some_iff.1 h.con).1) (fun k hk => by have := (hlt k hk).1; omega)⟩
  have := (hlt N e.symm).1
  omega
theorem copied_apart {w w' : World} {base b2 : Nat} {v v2 : Value} {R : List Ro} {l : List ByteArray} (h : Copied w v R base) (ho : OwnT w b2 v2 l) (hg : w.grownBy w' v2.ownBlock) : Copied w' v R base :=
  ⟨h.row.kept hg (rows_apart h.row ho (by decide)), fun x hx => (h.over x hx).kept hg (rows_apart (h.over x hx) ho (by decide))⟩
theorem inK_snoc (l : List Int) (x : Int) (i : Nat) : inK (l ++ [x]) i = (inK l i || decide (x = i)) := by unfold inK; simp

set_option maxHeartbeats 8000000 in
set_option maxRecDepth 100000 in
theorem keys_any {c : Con} {n : Nat} {v lv : Value} {L : List Int} {w : World} (hv : IsC c v w) (h : Mut.Good c n) (hn : n ≤ 900) (hL : IRow w lv L) (hl : L.length ≤ 1000) :
    Calls Tryz.prog 33 #[v, lv] w (NewT (keysK (inK L) (allF c)) w) := by
  obtain ⟨o1, n1, k1, o2, n2, k2, o3, n3, k3, rfl, hlc⟩ := hv.form
  obtain ⟨lo, lcap, rfl, -, -⟩ := Lst.form hL
  have HV := Lib.hid hlc
  have HGD := Lib.hid h
  have HNM := Lib.hid (show ∀ m ∈ allF c, NumM m from fun m hm => num_right (h.okc.right m (mem_allF.1 hm)))
  have hlen := len_allF c
  have hO := h.okc.len
  have HLN := Lib.hid (And.intro hlen hO)
  obtain ⟨nl, hnl⟩ : ∃ k, k = L.length := ⟨_, rfl⟩
  rw [← hnl] at hL hl ⊢
  have HL := Lib.hid hL
  have HNL := Lib.hid hnl
  clear hlc hv h hlen hO hL hnl
  obtain ⟨T, hT⟩ : ∃ T, T = keysK (inK L) (allF c) := ⟨_, rfl⟩
  rw [← hT]
  have HTT := Lib.hid hT
  clear hT
  have hZs : (Tryz.prog.info? 135).map (·.size) = some (vF fun _ => false).size := by rw [vF_size]; exact size_flags
  have hZ1 := vF_one (fun _ => false)
  obtain ⟨Z, hZ⟩ : ∃ Z, Z = vF fun _ => false := ⟨_, rfl⟩
  rw [← hZ] at hZs hZ1
  have HZ := Lib.hid hZ
  have HZS := Lib.hid hZs
  have HZ1 := Lib.hid hZ1
  clear hZ hZs hZ1
  go_enter Tryz.func33, Tryz.ntmps33
  go_upto_region 2 with fail
  apply wp_region_lit
  refine wp_build_flags rfl rfl Z HZ.out ?_
  refine wp_alloc_flags rfl rfl Z HZ.out ?_
  refine wpList_store_row rfl 135 _ _ rfl _ Z rfl rfl 135 Z (heap_alloc_last _ _) HZS.out rfl HZ1.out ?_
  rw [World.setRow_alloc_new]
  obtain ⟨W, hW⟩ : ∃ W, W = (w.alloc (.cells #[.slice o1 n1 k1, .slice o2 n2 k2, .slice o3 n3 k3] 47)).alloc (.cells Z 135) := ⟨_, rfl⟩
  have hw3 : W.heap = (w.heap.push (.cells #[.slice o1 n1 k1, .slice o2 n2 k2, .slice o3 n3 k3] 47)).push (.cells Z 135) := by rw [hW]; rfl
  have hC : W.heap[w.heap.size]? = some (.cells #[.slice o1 n1 k1, .slice o2 n2 k2, .slice o3 n3 k3] 47 (0, 0)) := by rw [hw3]; simp [Array.getElem?_push]
  have hT : FlagsAt W (w.heap.size + 1) fun _ => false := by
    unfold FlagsAt
    rw [hW, ← HZ.out]
    have h := heap_alloc_last (w.alloc (.cells #[.slice o1 n1 k1, .slice o2 n2 k2, .slice o3 n3 k3] 47)) (.cells Z 135)
    simpa using h
  have hb0 : Below w.heap.size w W := by rw [hW]; exact ((Below.refl _ _).alloc (Nat.le_refl _) _).alloc (by simp) _
  rw [← hW]
  have S0 : KeyC w w.heap.size #[.slice o1 n1 k1, .slice o2 n2 k2, .slice o3 n3 k3] (fun _ => false) W := ⟨hT, hC, hb0⟩
  have S1 := Lib.hid (show KeyC w w.heap.size #[.slice o1 n1 k1, .slice o2 n2 k2, .slice o3 n3 k3] (inK (L.take 0)) W from S0)
  clear hW hw3 hC hT hb0 S0
  go_upto_region 3 with fail
  go_wp2_with fail
  go_loopw [14] (fun iv wr => ∃ j : Nat, iv = .int .i64 j ∧ j ≤ nl ∧ Hid (KeyC w w.heap.size #[.slice o1 n1 k1, .slice o2 n2 k2, .slice o3 n3 k3] (inK (L.take j)) wr)) (fun iv _ => nl - (intOf iv).toNat)
  case atStart => exact ⟨0, rfl, by omega, S1⟩
  case round =>
    obtain ⟨j, rfl, hj, hs⟩ := hrel
    by_cases hlt : j < nl
    · have hjl : j < L.length := by have := HNL.out; omega
      obtain ⟨b, off, ha, hb, hc⟩ := Lst.get (Lst.below HL.out hs.out.below) hjl
      subst ha
      have c0 := hc 0 (by decide)
      rw [Nat.mul_one] at c0
      obtain ⟨x, hx⟩ : ∃ x, x = L[j] := ⟨_, rfl⟩
      rw [← hx] at c0
      have c1 : wr.cell? ⟨b, off + j, none⟩ = some (.int .i64 x) := c0
      have htk : L.take (j + 1) = L.take j ++ [x] := by rw [List.take_add_one, List.getElem?_eq_getElem hjl, hx]; rfl
      have HTK := Lib.hid htk
      have j0 : (0 : Int) ≤ (j : Int) := by omega
      have j1 : (j : Int) < (nl : Int) := by omega
      clear hx hc c0 htk hjl
      by_cases hx0 : (0 : Int) ≤ x
      · by_cases hx1 : x < 16
        · obtain ⟨i, rfl⟩ := Int.eq_ofNat_of_zero_le hx0
          have hi : i < 16 := by omega
          have f1 := hs.out.flags.frozen i
          have c2 := hs.out.flags.cell hi
          have S2 := Lib.hid (show KeyC w w.heap.size #[.slice o1 n1 k1, .slice o2 n2 k2, .slice o3 n3 k3] (inK (L.take (j + 1))) (wr.setCell ⟨w.heap.size + 1, i, none⟩ (.bool true)) from by
            have h := hs.out.set i
            refine ⟨h.flags.ext fun q _ => ?_, h.con, h.below⟩
            rw [HTK.out, inK_snoc]
            congr 1
            rw [Bool.eq_iff_iff]
            simp only [decide_eq_true_eq]
            omega)
          clear hs
          go_wp2_with fail
          go_roundw
          case rel => exact ⟨j + 1, by go_num, by omega, S2⟩
          case measure => simp [intOf]; omega
        · have S2 := Lib.hid (show KeyC w w.heap.size #[.slice o1 n1 k1, .slice o2 n2 k2, .slice o3 n3 k3] (inK (L.take (j + 1))) wr from by
            have h := hs.out
            refine ⟨h.flags.ext fun q hq => ?_, h.con, h.below⟩
            rw [HTK.out, inK_snoc, show decide (x = (q : Int)) = false from by simp only [decide_eq_false_iff_not]; omega, Bool.or_false])
          clear hs
          go_wp2_with fail
          go_roundw
          case rel => exact ⟨j + 1, by go_num, by omega, S2⟩
          case measure => simp [intOf]; omega
      · have S2 := Lib.hid (show KeyC w w.heap.size #[.slice o1 n1 k1, .slice o2 n2 k2, .slice o3 n3 k3] (inK (L.take (j + 1))) wr from by
          have h := hs.out
          refine ⟨h.flags.ext fun q hq => ?_, h.con, h.below⟩
          rw [HTK.out, inK_snoc, show decide (x = (q : Int)) = false from by simp only [decide_eq_false_iff_not]; omega, Bool.or_false])
        clear hs
        go_wp2_with fail
        go_roundw
        case rel => exact ⟨j + 1, by go_num, by omega, S2⟩
        case measure => simp [intOf]; omega
    · obtain rfl : j = nl := by omega
      have S3 : Hid (KeyC w w.heap.size #[.slice o1 n1 k1, .slice o2 n2 k2, .slice o3 n3 k3] (inK L) wr) := Lib.hid (by have h := hs.out; rw [List.take_of_length_le (by rw [← HNL.out]; exact Nat.le_refl _)] at h; exact h)
      have g0 : wr.cell? ⟨w.heap.size, 0, none⟩ = some (.slice o1 n1 k1) := by rw [cell_of_row wr w.heap.size 0 #[.slice o1 n1 k1, .slice o2 n2 k2, .slice o3 n3 k3] _ (0, 0) hs.out.con]; rfl
      have g1 : wr.cell? ⟨w.heap.size, 1, none⟩ = some (.slice o2 n2 k2) := by rw [cell_of_row wr w.heap.size 1 #[.slice o1 n1 k1, .slice o2 n2 k2, .slice o3 n3 k3] _ (0, 0) hs.out.con]; rfl
      have g2 : wr.cell? ⟨w.heap.size, 2, none⟩ = some (.slice o3 n3 k3) := by rw [cell_of_row wr w.heap.size 2 #[.slice o1 n1 k1, .slice o2 n2 k2, .slice o3 n3 k3] _ (0, 0) hs.out.con]; rfl
      have hal := Lib.hid (c_all (n := n) (HV.out.below hs.out.below).is HGD.out (by omega))
      obtain ⟨p, hp⟩ : ∃ p, p = inK L := ⟨_, rfl⟩
      rw [← hp] at S3
      have HP := Lib.hid hp
      clear hp
      have hbase : w.heap.size + 1 < wr.heap.size := hs.out.flags.lt
      obtain ⟨base, hbs⟩ : ∃ b, b = wr.heap.size := ⟨_, rfl⟩
      rw [← hbs] at hal hbase
      have HBS0 := Lib.hid hbs
      clear hbs
      go_wp2_with fail
      refine hal.out.mono ?_
      rintro e w2 ⟨g, cap, R, rfl, hcp, hm, hb2⟩
      have S4 := Lib.hid (S3.out.later (by rw [← HBS0.out]; exact hb2))
      have hsz2 : base ≤ w2.heap.size := by rw [HBS0.out]; exact hb2.size
      have HCP := Lib.hid hcp
      have HM := Lib.hid hm
      have hl1 : R.length ≤ 900 := by have h1 := congrArg List.length hm; rw [List.length_map] at h1; have := HLN.out; omega
      obtain ⟨nr, hnr⟩ : ∃ k, k = R.length := ⟨_, rfl⟩
      rw [← hnr] at HCP hl1 ⊢
      have HNR := Lib.hid hnr
      clear hcp hm hb2 hnr hal g0 g1 g2 hs S3
      go_wp2_with fail
      go_loopw [5, 30] (fun ov iv wr => ∃ k : Nat, k ≤ nr ∧ iv = .int .i64 k ∧ base ≤ wr.heap.size ∧ Hid (KeyC w w.heap.size #[.slice o1 n1 k1, .slice o2 n2 k2, .slice o3 n3 k3] p wr) ∧ Hid (Copied wr (.slice (some ⟨g, 0, none⟩) nr cap) R base) ∧ Hid (OwnT wr base ov (keysK p ((R.take k).map (·.1))))) (fun _ iv _ => nr - (intOf iv).toNat)
      case atStart => exact ⟨0, by omega, rfl, hsz2, S4, HCP, Lib.hid (OwnT.nil _ _)⟩
      case round =>
        obtain ⟨k, hk, rfl, hbz, hs, hcp, hot⟩ := hrel
        by_cases hlt : k < nr
        · obtain ⟨x, hx⟩ : ∃ x, R[k]? = some x := ⟨_, List.getElem?_eq_getElem (by have := HNR.out; omega)⟩
          have htk : (R.take (k + 1)).map (·.1) = (R.take k).map (·.1) ++ [x.1] := by rw [List.take_add_one, hx]; simp
          have hmr : MRow wr (.slice (some ⟨g, 0, none⟩) nr cap) R := hcp.out.mrow
          obtain ⟨xb, xoff, hao, hat⟩ := hmr.at_ hx
          cases hao
          rw [Nat.zero_add] at hat
          have hov := hmr.over x (List.mem_of_getElem? hx)
          obtain ⟨xo, xc, xe, -, -⟩ := Over.form hov
          have HNX := Lib.hid (HNM.out x.1 (by rw [← HM.out]; exact List.mem_map.2 ⟨x, List.mem_of_getElem? hx, rfl⟩))
          obtain ⟨t, ht⟩ : ∃ t, t = keysK p ((R.take k).map (·.1)) := ⟨_, rfl⟩
          have HTK := Lib.hid (show keysK p ((R.take (k + 1)).map (·.1)) = if p (bucketF x.1.key) then insK x.1.key t else t from by rw [htk, keysK_snoc, ht])
          have HTL := Lib.hid (show t.length ≤ 1000 from by
            rw [ht]
            refine Nat.le_trans (keysK_len _ _) ?_
            rw [List.length_map, List.length_take]; omega)
          rw [← ht] at hot
          clear hmr hx htk hov ht
          obtain ⟨hbl0, a0, a1, a2, a3, a4, a5, a6, a7, a8, a9⟩ := hat
          rw [xe] at a9
          clear xe
          have j0 : (0 : Int) ≤ (k : Int) := by omega
          have j1 : (k : Int) < (nr : Int) := by omega
          go_upto_region 12 with fail
          obtain ⟨W2, hW2⟩ : ∃ W, W = wr.alloc (.cells #[.int .i64 x.1.table, .int .i64 x.1.kind, .string x.1.key, .string x.1.fin, .string x.1.val, .int .i64 x.1.expiry, .int .i64 x.1.at_.p, .int .i64 x.1.at_.l, .int .i64 x.1.at_.w, .slice xo x.1.over.length xc] 28) := ⟨_, rfl⟩
          rw [← hW2]
          obtain ⟨nv, hnv⟩ : ∃ k, k = wr.heap.size := ⟨_, rfl⟩
          rw [← hnv]
          have hb2 : Below wr.heap.size wr W2 := by rw [hW2]; exact (Below.refl _ wr).alloc (Nat.le_refl _) _
          have hbx : W2.heap[nv]? = some (.cells #[.int .i64 x.1.table, .int .i64 x.1.kind, .string x.1.key, .string x.1.fin, .string x.1.val, .int .i64 x.1.expiry, .int .i64 x.1.at_.p, .int .i64 x.1.at_.l, .int .i64 x.1.at_.w, .slice xo x.1.over.length xc] 28 (0, 0)) := by rw [hW2, hnv]; exact heap_alloc_new wr _
          have S5 := Lib.hid (hs.out.later hb2)
          have C5 := Lib.hid (hcp.out.below hb2)
          have O5 := Lib.hid (hot.out.below hb2)
          have hbz2 : base ≤ W2.heap.size := Nat.le_trans hbz hb2.size
          have HBX := Lib.hid hbx
          have m2 : W2.cell? ⟨nv, 2, none⟩ = some (.string x.1.key) := by rw [cell_of_row W2 nv 2 _ _ (0, 0) hbx]; rfl
          have hnv2 : nv < W2.heap.size := (Array.getElem?_eq_some_iff.1 hbx).1
          clear hW2 hb2 hbx hnv a0 a1 a2 a3 a4 a5 a6 a7 a8 a9 hs hcp hot hbl0
          obtain ⟨bk, hbk⟩ : ∃ i, i = bucketF x.1.key := ⟨_, rfl⟩
          have hbk16 : bk < 16 := by rw [hbk]; exact bucketF_lt _
          have HBK := Lib.hid (bucket_any x.1.key W2 (by have := HNX.out.key; omega))
          rw [← hbk] at HBK HTK
          clear hbk
          go_wp2_with fail
          refine HBK.out.mono ?_
          rintro e W6 ⟨rfl, hb⟩
          have S6 := Lib.hid (S5.out.later hb)
          have C6 := Lib.hid (C5.out.below hb)
          have O6 := Lib.hid (O5.out.below hb)
          have m6 : W6.cell? ⟨nv, 2, none⟩ = some (.string x.1.key) := (World.cell?_of_block (a := ⟨nv, 2, none⟩) (hb.block nv hnv2)).trans m2
          have hbz6 : base ≤ W6.heap.size := Nat.le_trans hbz2 hb.size
          have c2 := S6.out.flags.cell hbk16
          have i0 : (0 : Int) ≤ (bk : Int) := by omega
          have i1 : (bk : Int) < 16 := by omega
          clear hb S5 C5 O5 HBX m2 hnv2 HBK hbz hbz2
          cases hpb : p bk
          · rw [hpb] at c2
            have O7 := Lib.hid (show OwnT W6 base _ (keysK p ((R.take (k + 1)).map (·.1))) from by rw [HTK.out, if_neg (by simp [hpb])]; exact O6.out)
            clear O6
            go_wp2_with fail
            go_roundw
            case rel => exact ⟨k + 1, by omega, by go_num, hbz6, S6, C6, O7⟩
            case measure => simp [intOf]; omega
          · rw [hpb] at c2
            have HPT := Lib.hid (put_own x.1.key base _ t W6 O6.out hbz6 HTL.out)
            go_wp2_with fail
            refine HPT.out.mono ?_
            rintro e W7 ⟨v7, rfl, g1, g2⟩
            have S7 := Lib.hid (S6.out.grown O6.out (by omega) g2)
            have C7 := Lib.hid (copied_apart C6.out O6.out g2)
            have O7 := Lib.hid (show OwnT W7 base v7 (keysK p ((R.take (k + 1)).map (·.1))) from by rw [HTK.out, if_pos hpb]; exact g1)
            have hbz7 : base ≤ W7.heap.size := Nat.le_trans hbz6 g2.size
            clear g1 g2 O6 S6 C6 HPT
            go_wp2_with fail
            go_roundw
            case rel => exact ⟨k + 1, by omega, by go_num, hbz7, S7, C7, O7⟩
            case measure => simp [intOf]; omega
        · obtain rfl : k = nr := by omega
          have O9 := Lib.hid (show OwnT wr base _ T from by
            have h := hot.out
            rw [List.take_of_length_le (by rw [← HNR.out]; exact Nat.le_refl _), HM.out, HP.out, ← HTT.out] at h
            exact h)
          clear hot
          go_wp2_with fail
          go_ret
          exact ⟨_, rfl, own_base O9.out (by omega), hs.out.below⟩
end Go.Proofs.YtkdgbkhnnehedaaGreatDoor.Mrk

namespace Go.Proofs.YtkdgbkhnnehedaaGreatDoor.Mrk
open Go.RowKit Go.Proofs.YtkdgbkhnnehedaaGreatDoor.Spare Go.Proofs.YtkdgbkhnnehedaaGreatDoor.RegInv Go.Proofs.YtkdgbkhnnehedaaGreatDoor.Mut Go.Proofs.YtkdgbkhnnehedaaGreatDoor.Ints
set_option linter.unusedSectionVars false
variable [Inhabited Lim]

theorem sizeU : (Tryz.prog.info? 77).map (·.size) = some 32 := by kernel_rfl
theorem zero_treeU : (zeroValue 77).run Tryz.prog = fun w => .ok (.agg (vT fun _ => 0)) w := by
  funext w
  exact (zero_of_info (P := Tryz.prog) (t := 77) (v := .agg (vT fun _ => 0)) (n := 32) (by kernel_rfl)).1 w
theorem wp_alloc_treeU {ops : Array Oper} {rest : List Oper} {o : Oper} {a : Act} {w : World} {Q : Exit → Act → World → Prop} (hg : o.guard = none) (hop : o.op = .alloc 77) (Z : Array Value) (hZ : Z = vT fun _ => 0)
    (h : wpList Tryz.prog ops Q rest (a.put o.dst (.pointer (some ⟨w.heap.size, 0, none⟩))) (w.alloc (.cells Z 77))) : wpList Tryz.prog ops Q (o :: rest) a w := by
  subst hZ
  refine Great.wpList_allocTo hg o.dst rfl (.pointer (some ⟨w.heap.size, 0, none⟩)) (.cells (vT fun _ => 0) 77) ?_ h
  unfold execOp
  simp only [hop, Instr.alloc, newVar, newRow, Sem.run_bind, Sem.run_pure, zero_treeU, Result.andThen_ok, run_newObj_alloc, Value.cells]
/-- What the walk stands on: the content, the result's variable, the tree. -/
structure OfU (w : World) (N : Nat) (C : Array Value) (a : Nat → Nat) (W : World) : Prop where
  tree : TreeAt W 77 (N + 1 + 1) a
  res : TreeAt W 77 (N + 1) fun _ => 0
  con : W.heap[N]? = some (.cells C 74 (0, 0))
  below : Below N w W
theorem OfU.later {w W W' : World} {N : Nat} {C : Array Value} {a : Nat → Nat} (h : OfU w N C a W) (hb : Below W.heap.size W W') : OfU w N C a W' :=
  ⟨h.tree.below hb, h.res.below hb, (hb.block N (Array.getElem?_eq_some_iff.1 h.con).1).trans h.con, h.below.trans (hb.mono (Nat.le_of_lt (Array.getElem?_eq_some_iff.1 h.con).1))⟩
theorem growU {W : World} (b i x : Nat) : W.grownBy (W.setCell ⟨b, i, none⟩ (.int .u64 x)) (some b) := grown_setCell (World.grownBy.refl _ _) (Or.inl rfl) _
theorem OfU.set {w W : World} {N : Nat} {C : Array Value} {a : Nat → Nat} (h : OfU w N C a W) (i x : Nat) : OfU w N C (upd a i x) (W.setCell ⟨N + 1 + 1, i, none⟩ (.int .u64 x)) := by
  have hg := growU (W := W) (N + 1 + 1) i x
  exact ⟨h.tree.set i x, h.res.kept hg (by simp), (hg.block N (Array.getElem?_eq_some_iff.1 h.con).1 (by simp; omega)).trans h.con, h.below.setCell (p := ⟨N + 1 + 1, i, none⟩) (by simp; omega) _⟩
theorem OfU.ext {w W : World} {N : Nat} {C : Array Value} {a a' : Nat → Nat} (h : OfU w N C a W) (e : ∀ i, i < 32 → a i = a' i) : OfU w N C a' W := ⟨h.tree.ext e, h.res, h.con, h.below⟩
/-- A tree's cells are numbers of 64 bits alone: no row of others lies there. -/
theorem lst_tree {α : Type} {sz : Nat} {en : α → List Value} {W W' : World} {v : Value} {l : List α} {t : TypeId} {b : Nat} {a : Nat → Nat} (h : Lst sz en W v l) (ht : TreeAt W t b a) (hg : W.grownBy W' (some b)) (hsz : 0 < sz) (hlen : ∀ x ∈ l, (en x).length = sz)
    (hen : ∀ x ∈ l, ∀ u ∈ en x, ∀ n, u ≠ .int .u64 n) : Lst sz en W' v l := by
  obtain ⟨ao, cap, e1, h1, h2, h3⟩ := h
  refine ⟨ao, cap, e1, h1, h2, h3.imp id ?_⟩
  rintro ⟨g, off, e2, hb, hc⟩
  refine ⟨g, off, e2, Nat.lt_of_lt_of_le hb hg.size, fun i x hi j hj => ?_⟩
  by_cases e : g = b
  · exfalso
    subst e
    have hx := List.mem_of_getElem? hi
    have h4 := hc i x hi j hj
    rw [List.getElem?_eq_getElem (by rw [hlen x hx]; exact hj), cell_of_row W g _ (vT a) t (0, 0) ht] at h4
    have h5 := hen x hx _ (List.getElem_mem (by rw [hlen x hx]; exact hj))
    have h6 : (lT a)[off + i * sz + j]? = some ((en x)[j]'(by rw [hlen x hx]; exact hj)) := by simpa [vT] using h4
    obtain ⟨h7, h8⟩ := List.getElem?_eq_some_iff.1 h6
    refine h5 (a (off + i * sz + j) : Nat) ?_
    rw [← h8]
    simp [lT]
  · exact (World.cell?_of_block (a := ⟨g, off + i * sz + j, none⟩) (hg.block g hb (by simpa using e))).trans (hc i x hi j hj)
theorem mrow_tree {W W' : World} {v : Value} {R : List Ro} {t : TypeId} {b : Nat} {a : Nat → Nat} (h : MRow W v R) (ht : TreeAt W t b a) (hg : W.grownBy W' (some b)) : MRow W' v R := by
  refine ⟨lst_tree h.row ht hg (by decide) (fun x _ => enM_len x) (fun x hx u hu n e => ?_), fun x hx => ⟨lst_tree (h.over x hx).lst ht hg (by decide) (fun s _ => enS_len s) (fun s _ u hu n e => ?_), (h.over x hx).zn⟩⟩
  · subst e
    obtain ⟨xo, xc, xe, -, -⟩ := Over.form (h.over x hx)
    unfold enM at hu
    rw [xe] at hu
    simp at hu
  · subst e
    unfold enS at hu
    simp at hu

set_option maxHeartbeats 8000000 in
set_option maxRecDepth 100000 in
theorem refof24_any {c : Con} {n : Nat} {v : Value} {w : World} (hv : IsC c v w) (h : Mut.Good c n) (hn : n ≤ 1000) : Calls Tryz.prog 27 #[v] w fun e w' => e = .returned (.agg (vT (treeF (allF c)))) ∧ Below w.heap.size w w' := by
  obtain ⟨o1, n1, k1, o2, n2, k2, o3, n3, k3, rfl, hlc⟩ := hv.form
  have HV := Lib.hid hlc
  have HGD := Lib.hid h
  have HNM := Lib.hid (show ∀ m ∈ allF c, NumM m from fun m hm => num_right (h.okc.right m (mem_allF.1 hm)))
  have hlen := len_allF c
  have hO := h.okc.len
  have HLN := Lib.hid (And.intro hlen hO)
  clear hlc hv h hlen hO
  obtain ⟨T, hT⟩ : ∃ T, T = treeF (allF c) := ⟨_, rfl⟩
  have HTT := Lib.hid hT
  rw [← hT]
  have HTW := Lib.hid (show Wide T from by rw [hT]; exact treeF_wide _)
  clear hT
  have hZs : (Tryz.prog.info? 77).map (·.size) = some (vT fun _ => 0).size := by rw [vT_size]; exact sizeU
  have hZ1 := vT_one (fun _ => 0)
  obtain ⟨Z, hZ⟩ : ∃ Z, Z = vT fun _ => 0 := ⟨_, rfl⟩
  rw [← hZ] at hZs hZ1
  have HZ := Lib.hid hZ
  have HZS := Lib.hid hZs
  have HZ1 := Lib.hid hZ1
  clear hZ hZs hZ1
  go_enter Tryz.func27, Tryz.ntmps27
  go_upto_region 1 with (first | (refine wp_alloc_treeU rfl rfl Z HZ.out ?_))
  apply wp_region_lit
  refine wp_alloc_treeU rfl rfl Z HZ.out ?_
  obtain ⟨W, hW⟩ : ∃ W, W = ((w.alloc (.cells #[.slice o1 n1 k1, .slice o2 n2 k2, .slice o3 n3 k3] 74)).alloc (.cells Z 77)).alloc (.cells Z 77) := ⟨_, rfl⟩
  have hw3 : W.heap = ((w.heap.push (.cells #[.slice o1 n1 k1, .slice o2 n2 k2, .slice o3 n3 k3] 74)).push (.cells Z 77)).push (.cells Z 77) := by rw [hW]; rfl
  have hC : W.heap[w.heap.size]? = some (.cells #[.slice o1 n1 k1, .slice o2 n2 k2, .slice o3 n3 k3] 74 (0, 0)) := by rw [hw3]; exact (push3 w.heap _ _ _).1
  have hR : TreeAt W 77 (w.heap.size + 1) fun _ => 0 := by unfold TreeAt; rw [hw3, ← HZ.out]; exact (push3 w.heap _ _ _).2.1
  have hT : TreeAt W 77 (w.heap.size + 1 + 1) fun _ => 0 := by unfold TreeAt; rw [hw3, ← HZ.out]; exact (push3 w.heap _ _ _).2.2
  have hb0 : Below w.heap.size w W := by rw [hW]; exact (((Below.refl _ _).alloc (Nat.le_refl _) _).alloc (by simp) _).alloc (by simp; omega) _
  rw [← hW]
  have S0 : OfU w w.heap.size #[.slice o1 n1 k1, .slice o2 n2 k2, .slice o3 n3 k3] (fun _ => 0) W := ⟨hT, hR, hC, hb0⟩
  have S1 := Lib.hid (S0.ext (a' := leaves 0) (fun j _ => by unfold leaves; rw [if_neg (by omega)]))
  clear hW hw3 hC hR hT hb0 S0
  go_wp2_with fail
  go_loopw [4] (fun iv wr => ∃ i : Nat, iv = .int .i64 ((i : Int) + 16) ∧ i ≤ 16 ∧ Hid (OfU w w.heap.size #[.slice o1 n1 k1, .slice o2 n2 k2, .slice o3 n3 k3] (leaves i) wr)) (fun iv _ => 32 - (intOf iv).toNat)
  case atStart => exact ⟨0, rfl, by omega, S1⟩
  case round =>
    obtain ⟨i, rfl, hi, hs⟩ := hrel
    by_cases hlt : i < 16
    · have m1 : IntKind.i64.wrap ((i : Int) + 16 + 1) = (i : Int) + 1 + 16 := by rw [IntWalk.i64_in _ (by omega)]; omega
      have m2 : (0 : Int) ≤ (i : Int) + 16 := by omega
      have m3 : ((i : Int) + 16).toNat = 16 + i := by omega
      have m4 : (i : Int) + 16 < 32 := by omega
      have m5 : 16 + i < 32 := by omega
      have c1 := hs.out.tree.cell (i := 16 + i) m5
      have f1 := hs.out.tree.frozen (16 + i)
      have S2 := Lib.hid ((hs.out.set (16 + i) (lev 0)).ext leaves_next)
      have HF := Lib.hid (fun w => first_any w)
      go_wp2_with fail
      refine (HF.out _).mono ?_
      rintro e w1 ⟨rfl, rfl⟩
      go_wp2_with fail
      go_roundw
      case rel => exact ⟨i + 1, by first | rfl | go_num, by omega, S2⟩
      case measure => simp [intOf]; omega
    · obtain rfl : i = 16 := by omega
      have S3 := hs
      have g0 : wr.cell? ⟨w.heap.size, 0, none⟩ = some (.slice o1 n1 k1) := by rw [cell_of_row wr w.heap.size 0 #[.slice o1 n1 k1, .slice o2 n2 k2, .slice o3 n3 k3] _ (0, 0) hs.out.con]; rfl
      have g1 : wr.cell? ⟨w.heap.size, 1, none⟩ = some (.slice o2 n2 k2) := by rw [cell_of_row wr w.heap.size 1 #[.slice o1 n1 k1, .slice o2 n2 k2, .slice o3 n3 k3] _ (0, 0) hs.out.con]; rfl
      have g2 : wr.cell? ⟨w.heap.size, 2, none⟩ = some (.slice o3 n3 k3) := by rw [cell_of_row wr w.heap.size 2 #[.slice o1 n1 k1, .slice o2 n2 k2, .slice o3 n3 k3] _ (0, 0) hs.out.con]; rfl
      have hal := Lib.hid (c_refall (n := n) (HV.out.below hs.out.below).is HGD.out (by omega))
      go_wp2_with fail
      refine hal.out.mono ?_
      rintro e w2 ⟨vr, rfl, ⟨R, hm, hmr⟩, hb2⟩
      obtain ⟨ro, cap, rfl, -, -⟩ := hmr.form
      have S4 := Lib.hid (S3.out.later hb2)
      have HCP := Lib.hid hmr
      have HM := Lib.hid hm
      have hl1 : R.length ≤ 1000 := by have h1 := congrArg List.length hm; rw [List.length_map] at h1; have := HLN.out; omega
      obtain ⟨nr, hnr⟩ : ∃ k, k = R.length := ⟨_, rfl⟩
      rw [← hnr] at HCP hl1 ⊢
      have HNR := Lib.hid hnr
      clear hmr hm hb2 hnr hal g0 g1 g2 hs S3
      go_wp2_with fail
      go_loopw [6] (fun iv wr => ∃ k : Nat, k ≤ nr ∧ iv = .int .i64 k ∧ Hid (OfU w w.heap.size #[.slice o1 n1 k1, .slice o2 n2 k2, .slice o3 n3 k3] (leafT ((R.take k).map (·.1))) wr) ∧ Hid (MRow wr (.slice ro nr cap) R)) (fun iv _ => nr - (intOf iv).toNat)
      case atStart => exact ⟨0, by omega, rfl, S4, HCP⟩
      case round =>
        obtain ⟨k, hk, rfl, hs, hcp⟩ := hrel
        by_cases hlt : k < nr
        · obtain ⟨x, hx⟩ : ∃ x, R[k]? = some x := ⟨_, List.getElem?_eq_getElem (by have := HNR.out; omega)⟩
          have htk : (R.take (k + 1)).map (·.1) = (R.take k).map (·.1) ++ [x.1] := by rw [List.take_add_one, hx]; simp
          have hmr : MRow wr (.slice ro nr cap) R := hcp.out
          obtain ⟨xb, xoff, hao, hat⟩ := hmr.at_ hx
          cases hao
          have hov := hmr.over x (List.mem_of_getElem? hx)
          obtain ⟨xo, xc, xe, -, -⟩ := Over.form hov
          have HNX := Lib.hid (HNM.out x.1 (by rw [← HM.out]; exact List.mem_map.2 ⟨x, List.mem_of_getElem? hx, rfl⟩))
          have HO5 := Lib.hid hov
          have HXE := Lib.hid xe
          have HAT := Lib.hid hat
          obtain ⟨t, ht⟩ : ∃ t, t = leafT ((R.take k).map (·.1)) := ⟨_, rfl⟩
          have HTK := Lib.hid (show leafT ((R.take (k + 1)).map (·.1)) = leafS t x.1 from by rw [htk, leafT_snoc, ht])
          have HWT := Lib.hid (show Wide t from by rw [ht]; exact leafT_wide _)
          rw [← ht] at hs
          obtain ⟨hbl0, a0, a1, m2, -, -, -, -, -, -, -⟩ := hat
          clear hmr hx htk hov ht a0 a1 xe
          have j0 : (0 : Int) ≤ (k : Int) := by omega
          have j1 : (k : Int) < (nr : Int) := by omega
          obtain ⟨ib, hib⟩ : ∃ i, i = 16 + bucketF x.1.key := ⟨_, rfl⟩
          have hi32 : ib < 32 := by have := bucketF_lt x.1.key; omega
          obtain ⟨bk, hbk⟩ : ∃ i, i = bucketF x.1.key := ⟨_, rfl⟩
          have hbk2 : ib = 16 + bk := by rw [hib, hbk]
          have HBK := Lib.hid (refbucket_any x.1.key wr (by have := HNX.out.key; omega))
          rw [← hbk] at HBK
          have HIB := Lib.hid hib
          clear hib hbk
          go_wp2_with fail
          refine HBK.out.mono ?_
          rintro e W6 ⟨rfl, hb⟩
          have S6 := Lib.hid (hs.out.later hb)
          have C6 := Lib.hid (hcp.out.below hb)
          have HO6 := Lib.hid (HO5.out.below hb)
          have HAT6 := Lib.hid (HAT.out.below hb)
          have q1 : IntKind.i64.wrap (16 + (bk : Int)) = (ib : Int) := by rw [IntWalk.i64_in _ (by omega)]; omega
          clear hb hs hcp HO5 HAT m2 HBK hbl0
          go_upto_region 11 with fail
          have q2 : (16 + (bk : Int)) = (ib : Int) := by omega
          rw [q2]
          clear q1 q2 hbk2
          obtain ⟨y, hy⟩ : ∃ y, y = t ib := ⟨_, rfl⟩
          obtain ⟨z, hz⟩ : ∃ z, z = sumF y (bytesM x.1) := ⟨_, rfl⟩
          have hy64 : y < 18446744073709551616 := by rw [hy]; exact HWT.out ib hi32
          have HZ2 := Lib.hid (show leafS t x.1 = upd t ib z from by unfold leafS; rw [hz, hy, HIB.out])
          have HSUM := Lib.hid (fun (v : Value) (W : World) (hv : BRow W v (bytesM x.1)) => show Calls Tryz.prog 75 #[.int .u64 y, v] W (fun e w' => e = .returned (.int .u64 (z : Nat)) ∧ W = w') from by
            rw [hz]
            exact on_any y (bytesM x.1) v W hy64 hv (bytesM_byte _) (by have := bytesM_len HNX.out; omega))
          have HTC := Lib.hid (fun (W : World) (hW : Below W6.heap.size W6 W) => show W.cell? ⟨w.heap.size + 1 + 1, ib, none⟩ = some (.int .u64 (y : Nat)) from by rw [hy]; exact (S6.out.later hW).tree.cell hi32)
          have HMC := Lib.hid (fun (W : World) (hW : Below W6.heap.size W6 W) => HAT6.out.below hW)
          have HPUT := Lib.hid (fun (W : World) (hW : Below W6.heap.size W6 W) => show Calls Tryz.prog 76 #[.agg #[.int .i64 x.1.table, .int .i64 x.1.kind, .string x.1.key, .string x.1.fin, .string x.1.val, .int .i64 x.1.expiry, .int .i64 x.1.at_.p, .int .i64 x.1.at_.l, .int .i64 x.1.at_.w, .slice xo x.1.over.length xc]] W (BytesPost W (bytesM x.1)) from by
            have h1 := refmutbytes_any x W (HO6.out.below hW) HNX.out
            unfold vM at h1
            rw [HXE.out] at h1
            exact h1)
          have i0 : (0 : Int) ≤ (ib : Int) := by omega
          have i1 : (ib : Int) < 32 := by omega
          clear hy hz
          refine wp_region_told [] 11 [false, false, false, false, false, false, false, false, false, false, false, false, false, false, false, false, false, false, false, false, false, false, false, false, false, false, false, false, false, false, false, true, true, true, true, true, true, true, true, true, true, true, false, false, false, false, false, false, false, false, false, false, false, false, false, false, false, false, false]
            [sLit (.int .i64 ib),
    sLit (.int .i64 ib),
    sLit (.pointer (some ⟨w.heap.size + 1 + 1, ib, none⟩)),
    sLit (.int .u64 (y : Nat)),
    sLit (.slice (some ⟨xb, xoff, none⟩) nr cap),
    sLit (.int .i64 k),
    sLit (.pointer (some ⟨xb, xoff + k * 10, none⟩)),
    sLit (.agg #[.int .i64 x.1.table, .int .i64 x.1.kind, .string x.1.key, .string x.1.fin, .string x.1.val, .int .i64 x.1.expiry, .int .i64 x.1.at_.p, .int .i64 x.1.at_.l, .int .i64 x.1.at_.w, .slice xo x.1.over.length xc]),
    sOne (fun v W => BRow W v (bytesM x.1)) (fun _ _ _ h hb => Lst.below h hb),
    sLit (.int .u64 (z : Nat)),
    sLit (.pointer (some ⟨w.heap.size + 1 + 1, ib, none⟩))] (by kernel_rfl) (by kernel_rfl) (by kernel_rfl) (fun F hF => ?_)
          simp only [over, overL, Nat.reduceAdd] at hF
          obtain rfl := funext hF
          clear hF
          refine ⟨⟨?_, ?_, ?_, ?_, ?_, ?_, ?_, ?_, ?_, ?_, ?_, trivial⟩, ?_⟩
          · intro V W hb hd K hK _
            clear hd
            go_wp2_with fail
            refine hK _ _ ?_ ?_ ?_ ?_
            · rfl
            · exact Below.refl _ _
            · exact rfl
            · trivial
          · intro V W hb hd K hK _
            clear hd
            go_wp2_with fail
            refine hK _ _ ?_ ?_ ?_ ?_
            · rfl
            · exact Below.refl _ _
            · exact rfl
            · trivial
          · intro V W hb hd K hK _
            have h1 : (V 32) = .int .i64 ib := hd 1 (by kernel_rfl)
            clear hd
            go_wp2_with fail
            refine hK _ _ ?_ ?_ ?_ ?_
            · rfl
            · exact Below.refl _ _
            · exact rfl
            · trivial
          · intro V W hb hd K hK _
            have h2 : (V 33) = .pointer (some ⟨w.heap.size + 1 + 1, ib, none⟩) := hd 2 (by kernel_rfl)
            clear hd
            have c1 := HTC.out W hb
            go_wp2_with fail
            refine hK _ _ ?_ ?_ ?_ ?_
            · rfl
            · exact Below.refl _ _
            · exact rfl
            · trivial
          · intro V W hb hd K hK _
            clear hd
            go_wp2_with fail
            refine hK _ _ ?_ ?_ ?_ ?_
            · rfl
            · exact Below.refl _ _
            · exact rfl
            · trivial
          · intro V W hb hd K hK _
            clear hd
            go_wp2_with fail
            refine hK _ _ ?_ ?_ ?_ ?_
            · rfl
            · exact Below.refl _ _
            · exact rfl
            · trivial
          · intro V W hb hd K hK _
            have h4 : (V 35) = .slice (some ⟨xb, xoff, none⟩) nr cap := hd 4 (by kernel_rfl)
            have h5 : (V 36) = .int .i64 k := hd 5 (by kernel_rfl)
            clear hd
            go_wp2_with fail
            refine hK _ _ ?_ ?_ ?_ ?_
            · rfl
            · exact Below.refl _ _
            · exact rfl
            · trivial
          · intro V W hb hd K hK _
            have h6 : (V 37) = .pointer (some ⟨xb, xoff + k * 10, none⟩) := hd 6 (by kernel_rfl)
            clear hd
            obtain ⟨hbl, m0, m1, m2, m3, m4, m5, m6, m7, m8, m9⟩ := HMC.out W hb
            rw [HXE.out] at m9
            go_wp2_with fail
            refine hK _ _ ?_ ?_ ?_ ?_
            · rfl
            · exact Below.refl _ _
            · exact rfl
            · trivial
          · intro V W hb hd K hK _
            have h7 : (V 38) = .agg #[.int .i64 x.1.table, .int .i64 x.1.kind, .string x.1.key, .string x.1.fin, .string x.1.val, .int .i64 x.1.expiry, .int .i64 x.1.at_.p, .int .i64 x.1.at_.l, .int .i64 x.1.at_.w, .slice xo x.1.over.length xc] := hd 7 (by kernel_rfl)
            clear hd
            go_wp2_with fail
            refine (HPUT.out W hb).mono ?_
            rintro e w1 ⟨v1, rfl, hv1, hb1⟩
            go_wp2_with fail
            refine hK _ _ ?_ ?_ ?_ ?_
            · rfl
            · exact hb1
            · exact hv1
            · trivial
          · intro V W hb hd K hK _
            have h3 : (V 34) = .int .u64 (y : Nat) := hd 3 (by kernel_rfl)
            have h8 : BRow W (V 39) (bytesM x.1) := hd 8 (by kernel_rfl)
            clear hd
            go_wp2_with fail
            refine (HSUM.out _ W h8).mono ?_
            rintro e w1 ⟨rfl, rfl⟩
            go_wp2_with fail
            refine hK _ _ ?_ ?_ ?_ ?_
            · rfl
            · exact Below.refl _ _
            · exact rfl
            · trivial
          · intro V W hb hd K hK _
            have h0 : (V 31) = .int .i64 ib := hd 0 (by kernel_rfl)
            clear hd
            go_wp2_with fail
            refine hK _ _ ?_ ?_ ?_ ?_
            · rfl
            · exact Below.refl _ _
            · exact rfl
            · trivial
          · intro V W hb hd hap
            have h9 : (V 40) = .int .u64 (z : Nat) := hd 9 (by decide)
            have h10 : (V 41) = .pointer (some ⟨w.heap.size + 1 + 1, ib, none⟩) := hd 10 (by decide)
            clear hd hap
            simp only [List.drop_succ_cons, List.drop_zero]
            have S7 := S6.out.later hb
            have cq := S7.tree.cell (i := ib) hi32
            have fq := S7.tree.frozen ib
            have S8 := Lib.hid (show OfU w w.heap.size #[.slice o1 n1 k1, .slice o2 n2 k2, .slice o3 n3 k3] (leafT ((R.take (k + 1)).map (·.1))) (W.setCell ⟨w.heap.size + 1 + 1, ib, none⟩ (.int .u64 (z : Nat))) from by rw [HTK.out, HZ2.out]; exact S7.set ib z)
            have C8 := Lib.hid (mrow_tree (C6.out.below hb) S7.tree (growU (w.heap.size + 1 + 1) ib z))
            clear S7 hb
            go_wp2_with fail
            go_roundw
            case rel => exact ⟨k + 1, by omega, by go_num, S8, C8⟩
            case measure => simp [intOf]; omega
        · obtain rfl : k = nr := by omega
          have S9 := Lib.hid (show OfU w w.heap.size #[.slice o1 n1 k1, .slice o2 n2 k2, .slice o3 n3 k3] (leafT (allF c)) wr from by have h := hs.out; rw [List.take_of_length_le (by rw [← HNR.out]; exact Nat.le_refl _), HM.out] at h; exact h)
          have HW9 := Lib.hid (leafT_wide (allF c))
          have HT9 := Lib.hid (show nodesT 15 (leafT (allF c)) = T from by rw [HTT.out]; rfl)
          clear hs hcp
          go_wp2_with fail
          go_loopw [8] (fun iv wr => ∃ (i : Nat) (t : Nat → Nat), iv = .int .i64 i ∧ i ≤ 15 ∧ Hid (OfU w w.heap.size #[.slice o1 n1 k1, .slice o2 n2 k2, .slice o3 n3 k3] t wr) ∧ Hid (Wide t) ∧ Hid (nodesT i t = T)) (fun iv _ => (intOf iv).toNat)
          case atStart => exact ⟨15, _, rfl, by omega, S9, HW9, HT9⟩
          case round =>
            obtain ⟨i, t, rfl, hi, hs, hwt, htt⟩ := hrel
            by_cases h0 : 0 < i
            · obtain ⟨j, hj⟩ : ∃ j, j = 2 * i := ⟨_, rfl⟩
              have m1 : IntKind.i64.wrap (2 * (i : Int)) = (j : Int) := by rw [IntWalk.i64_in _ (by omega)]; omega
              have m2 : IntKind.i64.wrap ((j : Int) + 1) = (j : Int) + 1 := IntWalk.i64_in _ (by omega)
              have m3 : (0 : Int) ≤ (j : Int) + 1 := by omega
              have m4 : ((j : Int) + 1).toNat = j + 1 := by omega
              have m5 : j < 32 := by omega
              have m6 : j + 1 < 32 := by omega
              have m7 : (j : Int) + 1 < 32 := by omega
              have m8 : IntKind.i64.wrap ((i : Int) - 1) = ((i - 1 : Nat) : Int) := by rw [IntWalk.i64_in _ (by omega)]; omega
              have m9 : i < 32 := by omega
              have c2 := hs.out.tree.cell (i := j) m5
              have c3 := hs.out.tree.cell (i := j + 1) m6
              have hnd := fun w' => refnode_any (t j) (t (j + 1)) w' (hwt.out j m5) (hwt.out (j + 1) m6)
              obtain ⟨z, hz⟩ : ∃ z, z = nodeF (t j) (t (j + 1)) := ⟨_, rfl⟩
              have HTT2 := Lib.hid (show nodesT (i - 1) (upd t i z) = T from by
                have h := htt.out
                obtain ⟨i', rfl⟩ : ∃ k, i = k + 1 := ⟨i - 1, by omega⟩
                rw [hz, hj]
                exact h)
              have HWT2 := Lib.hid (show Wide (upd t i z) from upd_wide hwt.out _ _ (by rw [hz]; exact nodeF_lt _ _))
              rw [← hz] at hnd
              generalize t j = x at *
              generalize t (j + 1) = y at *
              have HND := Lib.hid hnd
              have hT := hs.out.tree.lt
              obtain ⟨W0, rfl⟩ : ∃ W0 : World, W0 = wr := ⟨_, rfl⟩
              clear hnd hz hj htt hwt
              go_wp2_with fail
              refine wp_region_calm_tail 12 (by kernel_rfl) (by kernel_rfl) ?_
              simp only [List.take_succ_cons, List.take_zero, List.drop_succ_cons, List.drop_zero]
              repeat (go_big_quiet_step ((go_at_call 77; exact calm (HND.out _))))
              refine wpQuiet_nil ?_
              rintro _ ⟨q, rfl⟩
              have hsq := hs.out.later q.below
              have cq := hsq.tree.cell (i := i) m9
              have fq := hsq.tree.frozen i
              have S5 := Lib.hid (hsq.set i z)
              clear hsq
              go_wp2_with fail
              go_roundw
              case rel => exact ⟨i - 1, _, by first | rfl | go_num, by omega, S5, HWT2, HTT2⟩
              case measure => simp [intOf]; omega
            · obtain rfl : i = 0 := by omega
              have htT : t = T := htt.out
              have S6 := Lib.hid (show OfU w w.heap.size #[.slice o1 n1 k1, .slice o2 n2 k2, .slice o3 n3 k3] T wr from by rw [← htT]; exact hs.out)
              clear hs hwt htt htT
              have hsz : (Tryz.prog.info? 77).map (·.size) = some (vT T).size := by rw [vT_size]; exact sizeU
              have hone := vT_one T
              have hq : (vT fun _ => 0).size = (vT T).size := by rw [vT_size, vT_size]
              obtain ⟨Y, hY⟩ : ∃ Y, Y = vT T := ⟨_, rfl⟩
              obtain ⟨Y0, hY0⟩ : ∃ Y, Y = vT fun _ => 0 := ⟨_, rfl⟩
              have h6t : wr.heap[w.heap.size + 1 + 1]? = some (.cells Y 77 (0, 0)) := by rw [hY]; exact S6.out.tree
              have h6r : wr.heap[w.heap.size + 1]? = some (.cells Y0 77 (0, 0)) := by rw [hY0]; exact S6.out.res
              rw [← hY] at hsz hone hq
              have HY := Lib.hid hY
              rw [← hY0] at hq
              have h7 : (wr.setRow (w.heap.size + 1) Y).heap[w.heap.size + 1]? = some (.cells Y 77 (0, 0)) := setRow_heap _ _ _ _ _ _ h6r
              have h8 : Below w.heap.size w (wr.setRow (w.heap.size + 1) Y) := below_setRow S6.out.below (by omega) _
              have HSZ := Lib.hid hsz
              have HONE := Lib.hid hone
              have HQ := Lib.hid hq
              have H6T := Lib.hid h6t
              have H6R := Lib.hid h6r
              have H7 := Lib.hid h7
              have H8 := Lib.hid h8
              clear hsz hone hq hY hY0 h6t h6r h7 h8
              go_upto_region 16 with fail
              apply wp_region_lit
              refine wpList_load_row rfl 77 _ rfl (w.heap.size + 1 + 1) rfl 77 Y (0, 0) _ H6T.out Tryz.underlying77 rfl HSZ.out ?_
              refine wpList_store_row rfl 77 _ _ rfl (w.heap.size + 1) Y rfl rfl 77 Y0 H6R.out HSZ.out HQ.out HONE.out ?_
              go_wp2_with fail
              refine bodyPost_ret (v := .agg Y) (results_cell_row rfl _ _ (w.heap.size + 1) 77 Y (0, 0) _ rfl H7.out Tryz.underlying77 rfl HSZ.out) rfl ⟨by rw [HY.out], H8.out⟩
end Go.Proofs.YtkdgbkhnnehedaaGreatDoor.Mrk

namespace Go.Proofs.YtkdgbkhnnehedaaGreatDoor.Mrk
open Go.RowKit Go.Proofs.YtkdgbkhnnehedaaGreatDoor.Spare Go.Proofs.YtkdgbkhnnehedaaGreatDoor.RegInv Go.Proofs.YtkdgbkhnnehedaaGreatDoor.Mut Go.Proofs.YtkdgbkhnnehedaaGreatDoor.Ints
set_option linter.unusedSectionVars false
variable [Inhabited Lim]

set_option maxHeartbeats 8000000 in
set_option maxRecDepth 100000 in
theorem refkeys_any {c : Con} {n : Nat} {v lv : Value} {L : List Int} {w : World} (hv : IsC c v w) (h : Mut.Good c n) (hn : n ≤ 900) (hL : IRow w lv L) (hl : L.length ≤ 1000) :
    Calls Tryz.prog 34 #[v, lv] w (NewT (keysK (inK L) (allF c)) w) := by
  obtain ⟨o1, n1, k1, o2, n2, k2, o3, n3, k3, rfl, hlc⟩ := hv.form
  obtain ⟨lo, lcap, rfl, -, -⟩ := Lst.form hL
  have HV := Lib.hid hlc
  have HGD := Lib.hid h
  have HNM := Lib.hid (show ∀ m ∈ allF c, NumM m from fun m hm => num_right (h.okc.right m (mem_allF.1 hm)))
  have hlen := len_allF c
  have hO := h.okc.len
  have HLN := Lib.hid (And.intro hlen hO)
  obtain ⟨nl, hnl⟩ : ∃ k, k = L.length := ⟨_, rfl⟩
  rw [← hnl] at hL hl ⊢
  have HL := Lib.hid hL
  have HNL := Lib.hid hnl
  clear hlc hv h hlen hO hL hnl
  obtain ⟨T, hT⟩ : ∃ T, T = keysK (inK L) (allF c) := ⟨_, rfl⟩
  rw [← hT]
  have HTT := Lib.hid hT
  clear hT
  obtain ⟨W, hW⟩ : ∃ W, W = w.alloc (.cells #[.slice o1 n1 k1, .slice o2 n2 k2, .slice o3 n3 k3] 74) := ⟨_, rfl⟩
  have hC : W.heap[w.heap.size]? = some (.cells #[.slice o1 n1 k1, .slice o2 n2 k2, .slice o3 n3 k3] 74 (0, 0)) := by rw [hW]; exact heap_alloc_new w _
  have hb0 : Below w.heap.size w W := by rw [hW]; exact (Below.refl _ _).alloc (Nat.le_refl _) _
  have HW := Lib.hid hW
  have HC0 := Lib.hid hC
  have HB0 := Lib.hid hb0
  clear hW hC hb0
  go_enter Tryz.func34, Tryz.ntmps34
  go_upto_region 2 with fail
  rw [← HW.out]
  have g0 : W.cell? ⟨w.heap.size, 0, none⟩ = some (.slice o1 n1 k1) := by rw [cell_of_row W w.heap.size 0 #[.slice o1 n1 k1, .slice o2 n2 k2, .slice o3 n3 k3] _ (0, 0) HC0.out]; rfl
  have g1 : W.cell? ⟨w.heap.size, 1, none⟩ = some (.slice o2 n2 k2) := by rw [cell_of_row W w.heap.size 1 #[.slice o1 n1 k1, .slice o2 n2 k2, .slice o3 n3 k3] _ (0, 0) HC0.out]; rfl
  have g2 : W.cell? ⟨w.heap.size, 2, none⟩ = some (.slice o3 n3 k3) := by rw [cell_of_row W w.heap.size 2 #[.slice o1 n1 k1, .slice o2 n2 k2, .slice o3 n3 k3] _ (0, 0) HC0.out]; rfl
  have hal := Lib.hid (c_refall (n := n) (HV.out.below HB0.out).is HGD.out (by omega))
  go_wp2_with fail
  refine hal.out.mono ?_
  rintro e w2 ⟨vr, rfl, ⟨R, hm, hmr⟩, hb2⟩
  obtain ⟨ro, cap, rfl, -, -⟩ := hmr.form
  have HB2 := Lib.hid (below_then HB0.out (Nat.le_refl _) hb2)
  have HCP := Lib.hid hmr
  have HM := Lib.hid hm
  have hl1 : R.length ≤ 900 := by have h1 := congrArg List.length hm; rw [List.length_map] at h1; have := HLN.out; omega
  obtain ⟨nr, hnr⟩ : ∃ k, k = R.length := ⟨_, rfl⟩
  rw [← hnr] at HCP hl1 ⊢
  have HNR := Lib.hid hnr
  obtain ⟨p, hp⟩ : ∃ p, p = inK L := ⟨_, rfl⟩
  have HP := Lib.hid hp
  clear hmr hm hb2 hnr hal g0 g1 g2 hp
  go_wp2_with fail
  go_loopw [5, 7] (fun ov iv wr => ∃ k : Nat, k ≤ nr ∧ iv = .int .i64 k ∧ Hid (Below w.heap.size w wr) ∧ Hid (MRow wr (.slice ro nr cap) R) ∧ Hid (OwnT wr w.heap.size ov (keysK p ((R.take k).map (·.1))))) (fun _ iv _ => nr - (intOf iv).toNat)
  case atStart => exact ⟨0, by omega, rfl, HB2, HCP, Lib.hid (OwnT.nil _ _)⟩
  case round =>
    obtain ⟨k, hk, rfl, hbw, hcp, hot⟩ := hrel
    by_cases hlt : k < nr
    · obtain ⟨x, hx⟩ : ∃ x, R[k]? = some x := ⟨_, List.getElem?_eq_getElem (by have := HNR.out; omega)⟩
      have htk : (R.take (k + 1)).map (·.1) = (R.take k).map (·.1) ++ [x.1] := by rw [List.take_add_one, hx]; simp
      have hmr : MRow wr (.slice ro nr cap) R := hcp.out
      obtain ⟨xb, xoff, hao, hat⟩ := hmr.at_ hx
      cases hao
      have HNX := Lib.hid (HNM.out x.1 (by rw [← HM.out]; exact List.mem_map.2 ⟨x, List.mem_of_getElem? hx, rfl⟩))
      obtain ⟨t, ht⟩ : ∃ t, t = keysK p ((R.take k).map (·.1)) := ⟨_, rfl⟩
      have HTR := Lib.hid (show RiseK t from by rw [ht]; exact keysK_rise _ _)
      have HTK := Lib.hid (show keysK p ((R.take (k + 1)).map (·.1)) = if p (bucketF x.1.key) then insK x.1.key t else t from by rw [htk, keysK_snoc, ht])
      have HTL := Lib.hid (show t.length ≤ 1000 from by
        rw [ht]
        refine Nat.le_trans (keysK_len _ _) ?_
        rw [List.length_map, List.length_take]; omega)
      rw [← ht] at hot
      have HAT := Lib.hid hat
      obtain ⟨hbl0, a0, a1, a2, a3, a4, a5, a6, a7, a8, a9⟩ := hat
      clear hmr hx htk ht a0 a1 a3 a4 a5 a6 a7 a8 a9
      have j0 : (0 : Int) ≤ (k : Int) := by omega
      have j1 : (k : Int) < (nr : Int) := by omega
      obtain ⟨bk, hbk⟩ : ∃ i, i = bucketF x.1.key := ⟨_, rfl⟩
      have HBK := Lib.hid (refbucket_any x.1.key wr (by have := HNX.out.key; omega))
      rw [← hbk] at HBK HTK
      clear hbk
      go_wp2_with fail
      refine HBK.out.mono ?_
      rintro e W6 ⟨rfl, hb⟩
      have hbw6 := Lib.hid (below_then hbw.out (Nat.le_refl _) hb)
      have C6 := Lib.hid (hcp.out.below hb)
      have O6 := Lib.hid (hot.out.below hb)
      have HAT6 := Lib.hid (HAT.out.below hb)
      have HIN := Lib.hid (in24_any (bk : Int) (.slice lo nl lcap) L W6 (Lst.below HL.out hbw6.out) (by have := HNL.out; omega))
      have HPB := Lib.hid (show (L.any fun y => y == (bk : Int)) = p bk from by
        rw [HP.out]
        unfold inK
        congr 1)
      rw [HPB.out] at HIN
      clear hb hbw hcp hot HBK a2 hbl0
      cases hpb : p bk
      · rw [hpb] at HIN
        have O7 := Lib.hid (show OwnT W6 w.heap.size _ (keysK p ((R.take (k + 1)).map (·.1))) from by rw [HTK.out, if_neg (by simp [hpb])]; exact O6.out)
        clear O6
        go_wp2_with fail
        refine HIN.out.mono ?_
        rintro e W7 ⟨rfl, rfl⟩
        go_wp2_with fail
        go_roundw
        case rel => exact ⟨k + 1, by omega, by go_num, hbw6, C6, O7⟩
        case measure => simp [intOf]; omega
      · rw [hpb] at HIN
        have HPT := Lib.hid (word_any x.1.key _ t W6 O6.out.row HTL.out)
        obtain ⟨-, -, -, m2, -, -, -, -, -, -, -⟩ := HAT6.out
        go_wp2_with fail
        refine HIN.out.mono ?_
        rintro e W7 ⟨rfl, rfl⟩
        go_wp2_with fail
        refine HPT.out.mono ?_
        rintro e W7 ⟨v7, rfl, g1, g2⟩
        have hbw7 := Lib.hid (below_then hbw6.out (Nat.le_refl _) g2)
        have C7 := Lib.hid (C6.out.below g2)
        have O7 := Lib.hid (show OwnT W7 w.heap.size v7 (keysK p ((R.take (k + 1)).map (·.1))) from by
          rw [HTK.out, if_pos hpb, ← word_put _ _ HTR.out]
          exact own_base g1 hbw6.out.size)
        clear g1 g2 O6 C6 HPT hbw6 m2
        go_wp2_with fail
        go_roundw
        case rel => exact ⟨k + 1, by omega, by go_num, hbw7, C7, O7⟩
        case measure => simp [intOf]; omega
    · obtain rfl : k = nr := by omega
      have O9 := Lib.hid (show OwnT wr w.heap.size _ T from by
        have h := hot.out
        rw [List.take_of_length_le (by rw [← HNR.out]; exact Nat.le_refl _), HM.out, HP.out, ← HTT.out] at h
        exact h)
      clear hot
      go_wp2_with fail
      go_ret
      exact ⟨_, rfl, O9.out, hbw.out⟩
end Go.Proofs.YtkdgbkhnnehedaaGreatDoor.Mrk

namespace Go.Proofs.YtkdgbkhnnehedaaGreatDoor.Mrk
open Go.RowKit Go.Proofs.YtkdgbkhnnehedaaGreatDoor.Ints

theorem wpList_load_row_w {P : Program} {ops : Array Oper} {rest : List Oper} {o : Oper} {a : Act} {w : World} {Q : Exit → Act → World → Prop} (hw : Region.wanted o (yielded ops a.tmps) = true) (ty : TypeId) (x : Operand) (ho : o.op = .load ty x)
    (g : Nat) (hx : a.eval x = .pointer (some ⟨g, 0, none⟩)) (t : TypeId) (cs : Array Value) (fr : Nat × Nat) (d : TypeDesc) (hg : w.heap[g]? = some (.cells cs t fr))
    (hu : P.underlying ty = some d) (hd : (match d with | .struct _ | .array _ _ => true | _ => false) = true) (hi : (P.info? ty).map (·.size) = some cs.size)
    (h : wpList P ops Q rest (a.put o.dst (.agg cs)) w) : wpList P ops Q (o :: rest) a w :=
  wpList_step fun _ hK => by rw [if_pos hw]; exact wp_load_row ty x ho g hx t cs fr d hg hu hd hi (hK _ _ h)
theorem same_down (a : Nat → Nat) : downF (sameAt a a) 4 1 = ([], 1) := by
  unfold downF
  rw [show sameAt a a 1 = true by simp [sameAt]]
  rfl
theorem noneT_sound : soundF noneT = true := soundF_yes noneT_ok
theorem noneT_root : noneT 1 = lev 4 := rfl

set_option maxHeartbeats 4000000 in
set_option maxRecDepth 100000 in
theorem alive_any (w : World) : Calls Tryz.prog 35 #[] w fun e w' => e = .returned (.bool true) ∧ Below w.heap.size w w' := by
  have hsz : (Tryz.prog.info? 78).map (·.size) = some (vT noneT).size := by rw [vT_size]; exact size52
  have hone := vT_one noneT
  have hzs : (vT fun _ => 0).size = (vT noneT).size := by rw [vT_size, vT_size]
  have hof := of_none
  have hdf := differ_any noneT noneT
  rw [same_down] at hdf
  have hso := fun w => sound_any noneT w noneT_wide
  rw [noneT_sound] at hso
  have hro := root_any noneT
  rw [noneT_root] at hro
  have hr0 : ¬ lev 4 = 0 := lev4
  obtain ⟨r, hr⟩ : ∃ r, r = lev 4 := ⟨_, rfl⟩
  rw [← hr] at hro hr0
  obtain ⟨Y, hY⟩ : ∃ Y, Y = vT noneT := ⟨_, rfl⟩
  obtain ⟨Z, hZ⟩ : ∃ Y, Y = vT fun _ => 0 := ⟨_, rfl⟩
  rw [← hY] at hsz hone hof hdf hso hro
  rw [← hY, ← hZ] at hzs
  unfold vNone at hof
  have HSZ := Lib.hid hsz
  have HONE := Lib.hid hone
  have HZS := Lib.hid hzs
  have HOF := Lib.hid hof
  have HDF := Lib.hid hdf
  have HSO := Lib.hid hso
  have HRO := Lib.hid hro
  have HZ := Lib.hid hZ
  have hrd : decide ((r : Int) = 0) = false := by simp; omega
  clear hsz hone hof hdf hso hro hr hY hZ hzs
  go_enter Tryz.func35, Tryz.ntmps35
  go_wp2_with fail
  refine (HOF.out _).mono ?_
  rintro e w1 ⟨rfl, hb1⟩
  go_upto_region 2 with (first | (refine wp_alloc_tree rfl rfl Z HZ.out ?_) | (refine wpList_store_row rfl 78 _ _ rfl w1.heap.size Y rfl rfl 78 Z (heap_alloc_last w1 _) HSZ.out HZS.out HONE.out ?_))
  rw [World.setRow_alloc_new]
  have hT : (w1.alloc (.cells Y 78)).heap[w1.heap.size]? = some (.cells Y 78 (0, 0)) := heap_alloc_last w1 _
  have hb2 : Below w.heap.size w (w1.alloc (.cells Y 78)) := hb1.alloc hb1.size _
  obtain ⟨W, hW⟩ : ∃ W, W = w1.alloc (.cells Y 78) := ⟨_, rfl⟩
  rw [← hW] at hT hb2 ⊢
  obtain ⟨g, hg⟩ : ∃ g, g = w1.heap.size := ⟨_, rfl⟩
  rw [← hg] at hT ⊢
  have HT := Lib.hid hT
  have hlt : g < W.heap.size := (Array.getElem?_eq_some_iff.1 hT).1
  clear hT hg hW
  go_wp2_with (refine wpList_load_row rfl 78 _ rfl g rfl 78 Y (0, 0) _ HT.out Tryz.underlying78 rfl HSZ.out ?_)
  refine (HDF.out _).mono ?_
  rintro e w3 ⟨v, rfl, hrow, hb3⟩
  obtain ⟨ao, cap, rfl⟩ := row_form hrow
  have HT3 : Hid (w3.heap[g]? = some (.cells Y 78 (0, 0))) := Lib.hid ((hb3.block g hlt).trans HT.out)
  have hlt3 : g < w3.heap.size := Nat.lt_of_lt_of_le hlt hb3.size
  clear hrow
  go_wp2_with (refine wpList_load_row_w rfl 78 _ rfl g rfl 78 Y (0, 0) _ HT3.out Tryz.underlying78 rfl HSZ.out ?_)
  refine (HSO.out _).mono ?_
  rintro e w4 ⟨rfl, hb4⟩
  have HT4 : Hid (w4.heap[g]? = some (.cells Y 78 (0, 0))) := Lib.hid ((hb4.block g hlt3).trans HT3.out)
  go_wp2_with (refine wpList_load_row_w rfl 78 _ rfl g rfl 78 Y (0, 0) _ HT4.out Tryz.underlying78 rfl HSZ.out ?_)
  refine (HRO.out _).mono ?_
  rintro e w5 ⟨rfl, hb5⟩
  go_wp2_with fail
  go_ret
  exact ⟨ret_bool (by simp; omega), ((hb2.trans (hb3.mono hb2.size)).trans (hb4.mono (Nat.le_trans hb2.size hb3.size))).trans (hb5.mono (Nat.le_trans hb2.size (Nat.le_trans hb3.size hb4.size)))⟩
end Go.Proofs.YtkdgbkhnnehedaaGreatDoor.Mrk

namespace Go.Proofs.YtkdgbkhnnehedaaGreatDoor.ArrEq
open Go

theorem run_equalIn_array {P : Program} (w : World) (d len : Nat) (t e : TypeId) (xs ys : Array Value) (i1 : TypeInfo) (ht : P.underlying t = some (.array len e)) (hi : P.info? e = some i1) (hs : i1.size = 1)
    (h : ∀ i, i < len → ∃ a b, (∀ w, (part e xs i).run P w = .ok a w) ∧ (∀ w, (part e ys i).run P w = .ok b w) ∧ ∀ w, (Op.equalIn d e a b).run P w = .ok true w) :
    (Op.equalIn (d + 1) t (.agg xs) (.agg ys)).run P w = .ok true w := by
  simp only [Op.equalIn, Sem.run_bind, run_underlying ht, Result.andThen_ok, sizeOf, typeInfo, run_program, hi, Sem.run_pure]
  simp only [hs, Nat.mul_one]
  rw [Std.Legacy.Range.forIn_eq_forIn_range']
  have key : ∀ (l : List Nat), (∀ i ∈ l, i < len) → ∀ w, ((forIn (m := Sem) l ((none, ()) : Option Bool × Unit) fun i r => do
      let a ← part e xs i
      let b ← part e ys i
      let r ← Op.equalIn d e a b
      if (!r) = true then pure (ForInStep.done (some false, ())) else pure (ForInStep.yield (none, ())))).run P w = .ok (none, ()) w := by
    intro l
    induction l with
    | nil => intro _ w; simp
    | cons i l ih =>
      intro hl w
      obtain ⟨a, b, h1, h2, h3⟩ := h i (hl i (by simp))
      simp only [List.forIn_cons, Sem.run_bind, h1, h2, h3, Result.andThen_ok, Bool.not_true, Bool.false_eq_true, if_false, Sem.run_pure, Sem.run_ite]
      exact ih (fun j hj => hl j (by simp [hj])) w
  have := key (List.range' 0 len 1) (fun i hi => by simpa using hi) w
  have e : ([:len] : Std.Legacy.Range).size = len := by simp [Std.Legacy.Range.size]
  rw [e]
  show ((Sem.run P (forIn (List.range' 0 len 1) _ _) w).andThen _) = _
  rw [this]
  simp
theorem run_part_int {P : Program} (w : World) (e : TypeId) (k : IntKind) (cs : Array Value) (i : Nat) (v : Value) (he : P.underlying e = some (.int k)) (h : cs[i]? = some v) : (part e cs i).run P w = .ok v w := by
  simp [part, isAgg, run_underlying he, h]
theorem run_part_string {P : Program} (w : World) (e : TypeId) (cs : Array Value) (i : Nat) (v : Value) (he : P.underlying e = some .string) (h : cs[i]? = some v) : (part e cs i).run P w = .ok v w := by
  simp [part, isAgg, run_underlying he, h]
/-- An array of numbers is the same as itself. -/
theorem run_eql_ints {P : Program} (w : World) (len : Nat) (t e : TypeId) (k : IntKind) (xs : Array Value) (ht : P.underlying t = some (.array len e)) (hi : (P.info? e).map (·.size) = some 1) (he : P.underlying e = some (.int k))
    (h : ∀ i, i < len → ∃ x, xs[i]? = some (.int k x)) : (binOp .eql t (.agg xs) (.agg xs)).run P w = .ok (.bool true) w := by
  cases hq : P.info? e with
  | none => simp [hq] at hi
  | some i1 =>
    rw [run_eql_struct, run_equalIn_array w 9999 len t e xs xs i1 ht hq (by simpa [hq] using hi) (fun i hl => by
      obtain ⟨x, hx⟩ := h i hl
      exact ⟨_, _, fun w => run_part_int w e k xs i _ he hx, fun w => run_part_int w e k xs i _ he hx, fun w => by rw [run_equalIn_int w 9998 e k k x x he]; simp⟩)]
    rfl
theorem run_eql_strings {P : Program} (w : World) (len : Nat) (t e : TypeId) (xs : Array Value) (ht : P.underlying t = some (.array len e)) (hi : (P.info? e).map (·.size) = some 1) (he : P.underlying e = some .string)
    (h : ∀ i, i < len → ∃ x, xs[i]? = some (.string x)) : (binOp .eql t (.agg xs) (.agg xs)).run P w = .ok (.bool true) w := by
  cases hq : P.info? e with
  | none => simp [hq] at hi
  | some i1 =>
    rw [run_eql_struct, run_equalIn_array w 9999 len t e xs xs i1 ht hq (by simpa [hq] using hi) (fun i hl => by
      obtain ⟨x, hx⟩ := h i hl
      exact ⟨_, _, fun w => run_part_string w e xs i _ he hx, fun w => run_part_string w e xs i _ he hx, fun w => by rw [run_equalIn_string w 9998 e x x he]; simp⟩)]
    rfl
end Go.Proofs.YtkdgbkhnnehedaaGreatDoor.ArrEq

namespace Go.Proofs.YtkdgbkhnnehedaaGreatDoor.Mrk
open Go.RowKit Go.Proofs.YtkdgbkhnnehedaaGreatDoor.Spare Go.Proofs.YtkdgbkhnnehedaaGreatDoor.RegInv Go.Proofs.YtkdgbkhnnehedaaGreatDoor.Mut Go.Proofs.YtkdgbkhnnehedaaGreatDoor.Ints
set_option linter.unusedSectionVars false
variable [Inhabited Lim]

theorem equalT {w : World} {v v' : Value} {l : List ByteArray} (h : TxRow w v l) (h' : TxRow w v' l) (hl : l.length ≤ 100000) : Calls Tryz.prog 32 #[v, v'] w (RetB true w) := by
  obtain ⟨ao, ac, rfl, -, -⟩ := Lst.form h
  obtain ⟨bo, bc, rfl, -, -⟩ := Lst.form h'
  exact equalS_lit true ao bo ac bc l l w (eqTx_self l) h h' hl hl
theorem eql_U (a : Nat → Nat) (w : World) : (binOp .eql 77 (.agg (vT a)) (.agg (vT a))).run Tryz.prog w = .ok (.bool true) w :=
  ArrEq.run_eql_ints w 32 _ 76 .u64 (vT a) Tryz.underlying77 (by kernel_rfl) Tryz.underlying76 (fun i hi => ⟨_, by show (lT a).toArray[i]? = _; rw [List.getElem?_toArray]; exact lT_at a hi⟩)
theorem guard_U (a b : Operand) (xs ys : Array Value) (w : World) : (eqGuard .eql 77 a b (.agg xs) (.agg ys)).run Tryz.prog w = .ok () w := run_eqGuard_agg w .eql _ a b xs ys (by kernel_rfl)

set_option maxHeartbeats 8000000 in
set_option maxRecDepth 100000 in
theorem trees_any (v1 v3 : Value) (A : List Ro) (key : ByteArray) (L : List Int) (w : World) (hT : Tabs w) (hA : MRow w v1 A) (zA : ∀ x ∈ A, x.1.key.size ≤ maxLen ∧ x.1.fin.size ≤ maxLen ∧ x.1.val.size ≤ maxLen) (hL : IRow w v3 L) :
    Calls Tryz.prog 5 #[v1, .string key, v3] w (RetB true w) := by
  have HGa := Lib.hid (great_any v1 A 40 w hA (by decide) zA)
  obtain ⟨ga, hga⟩ : ∃ q, q = greatF (A.map (·.1)) 40 := ⟨_, rfl⟩
  rw [← hga] at HGa
  obtain ⟨la, hla⟩ : ∃ l, l = A.map (·.1) := ⟨_, rfl⟩
  rw [← hla] at hga
  have HRA := Lib.hid (show Reads w v1 la from ⟨A, hla.symm, hA⟩)
  obtain ⟨ao, ac, rfl, -, -⟩ := hA.form
  obtain ⟨na, hna⟩ : ∃ k, k = A.length := ⟨_, rfl⟩
  rw [← hna] at HGa HRA ⊢
  obtain ⟨lo, lc, rfl, -, -⟩ := Lst.form hL
  obtain ⟨nl, hnl⟩ : ∃ k, k = L.length := ⟨_, rfl⟩
  rw [← hnl] at hL ⊢
  have HL := Lib.hid hL
  have HNL := Lib.hid hnl
  have HT := Lib.hid hT
  have HGG := Lib.hid hga
  clear hT hA zA hga hna hla hL hnl
  obtain ⟨cx, hx⟩ : ∃ x, x = Mut.leftOf la := ⟨_, rfl⟩
  have HXY := Lib.hid hx
  clear hx
  go_enter Tryz.func5, Tryz.ntmps5
  go_wp2_with fail
  refine HGa.out.mono ?_
  rintro e w1 ⟨rfl, rfl⟩
  cases ga
  case true =>
    go_wp2_with fail
    go_ret
    exact ⟨rfl, Below.refl _ _⟩
  obtain ⟨lA, sA⟩ := great_small HGG.out.symm
  cases hks : decide ((key.size : Int) > 500)
  case true =>
    have hks' : (500 : Int) < key.size := by simpa using hks
    clear hks
    go_wp2_with fail
    go_ret
    exact ⟨rfl, Below.refl _ _⟩
  have hks' : (key.size : Int) ≤ 500 := by simp at hks; omega
  clear hks
  by_cases hns : 40 < nl
  · go_wp2_with fail
    go_ret
    exact ⟨rfl, Below.refl _ _⟩
  have HO := Lib.hid (show ∀ W, RowKit.Below w.heap.size w W → Calls Tryz.prog 9 #[.slice ao na ac] W (RetC cx W) ∧ Calls Tryz.prog 25 #[.slice ao na ac] W (RetC cx W) from by
    rw [HXY.out]
    exact fun W h => ⟨c_of (HT.out.below h) (HRA.out.below h) (by omega) sA, c_refof (HT.out.below h) (HRA.out.below h) (by omega) sA⟩)
  have HG := Lib.hid (show Mut.Good cx 40 from by rw [HXY.out]; exact (leftOf_good la).more lA)
  have HLR := Lib.hid (show ∀ W, RowKit.Below w.heap.size w W → IRow W (.slice lo nl lc) L from fun W h => Lst.below HL.out h)
  have HLL := Lib.hid (show L.length ≤ 1000 from by have := HNL.out; omega)
  clear lA sA HGG HGa HRA HXY HL HNL
  go_wp2_with fail
  refine (HO.out _ (Below.refl _ _)).2.mono ?_
  rintro e w2 ⟨vv, rfl, hl, hb⟩
  obtain ⟨p4, q4, r4, p5, q5, r5, p6, q6, r6, rfl, hl1⟩ := hl.form
  have HLu0 := Lib.hid hl1
  have HB2 := Lib.hid hb
  clear hl hb hl1
  go_upto_region 4 with fail
  obtain ⟨W3, hW⟩ : ∃ W, W = w2.alloc (.cells #[.slice p4 q4 r4, .slice p5 q5 r5, .slice p6 q6 r6] 74) := ⟨_, rfl⟩
  rw [← hW]
  have hb3 : RowKit.Below w2.heap.size w2 W3 := by rw [hW]; exact (Below.refl _ _).alloc (Nat.le_refl _) _
  have u3 : C3 W3 w2.heap.size (.slice p4 q4 r4) (.slice p5 q5 r5) (.slice p6 q6 r6) := by rw [hW]; exact C3.newR w2 (.slice p4 q4 r4) (.slice p5 q5 r5) (.slice p6 q6 r6)
  have HLu := Lib.hid (HLu0.out.below hb3)
  have HB3 := Lib.hid (below_then HB2.out (Nat.le_refl _) hb3)
  obtain ⟨n2, hn⟩ : ∃ n, n = w2.heap.size := ⟨_, rfl⟩
  rw [← hn] at u3 ⊢
  have HCu := Lib.hid u3
  clear hW hb3 u3 hn HLu0 HB2
  obtain ⟨T, hTT⟩ : ∃ T, T = treeF (allF cx) := ⟨_, rfl⟩
  have HTW := Lib.hid (show Wide T from by rw [hTT]; exact treeF_wide _)
  have HTS := Lib.hid (show soundF T = true from by rw [hTT]; exact treeF_sound _)
  have HOF := Lib.hid (fun (W : World) (v : Value) (h : IsC cx v W) => show Calls Tryz.prog 26 #[v] W (fun e w' => e = .returned (.agg (vT T)) ∧ Below W.heap.size W w') from by rw [hTT]; exact of_any h HG.out (by decide))
  have HRO := Lib.hid (fun (W : World) (v : Value) (h : IsC cx v W) => show Calls Tryz.prog 27 #[v] W (fun e w' => e = .returned (.agg (vT T)) ∧ Below W.heap.size W w') from by rw [hTT]; exact refof24_any h HG.out (by decide))
  clear hTT
  have hsz1 : (Tryz.prog.info? 78).map (·.size) = some (vT T).size := by rw [vT_size]; exact size52
  have hsz2 : (Tryz.prog.info? 77).map (·.size) = some (vT T).size := by rw [vT_size]; exact sizeU
  have hone := vT_one T
  have hq : (vT fun _ => 0).size = (vT T).size := by rw [vT_size, vT_size]
  have heq := eql_U T
  have hrt := fun W => root_any T W
  have hsd := fun W => sound_any T W HTW.out
  rw [HTS.out] at hsd
  have hc1 := fun (W : World) (t : TypeId) (b : Nat) (h : TreeAt W t b T) => h.cell (i := 1) (by decide)
  obtain ⟨rt, hrt1⟩ : ∃ r, r = T 1 := ⟨_, rfl⟩
  rw [← hrt1] at hrt
  have hc2 : ∀ (W : World) (b : Nat) (t : TypeId), W.heap[b]? = some (.cells (vT T) t (0, 0)) → W.cell? ⟨b, 1, none⟩ = some (.int .u64 (rt : Nat)) := fun W b t h => by rw [hrt1]; exact hc1 W t b h
  obtain ⟨Y, hY⟩ : ∃ Y, Y = vT T := ⟨_, rfl⟩
  obtain ⟨Z, hZ⟩ : ∃ Y, Y = vT fun _ => 0 := ⟨_, rfl⟩
  rw [← hY] at hsz1 hsz2 hone hq heq hrt hsd hc2 HOF HRO
  rw [← hZ] at hq
  have HZ := Lib.hid hZ
  have HSZ1 := Lib.hid hsz1
  have HSZ2 := Lib.hid hsz2
  have HONE := Lib.hid hone
  have HQ := Lib.hid hq
  have HEQ := Lib.hid heq
  have HRT := Lib.hid hrt
  have HSD := Lib.hid hsd
  have HC1 := Lib.hid hc2
  clear hZ hY hsz1 hsz2 hone hq heq hrt hsd hc1 hc2 hrt1 HTW HTS
  have HI := Lib.hid (fun W (h : RowKit.Below W3.heap.size W3 W) => (HLu.out.below h).is)
  have HBW := Lib.hid (fun W (h : RowKit.Below W3.heap.size W3 W) => below_then HB3.out (Nat.le_refl _) h)
  refine wp_region_told [5, 6] 7 [false, false, false, false, false, false, false, false, true, true, false, false, false, false, false, false, false, false, false, false, false, false, false, false, true, true, true, true, true, false, false, false, false, false, false, false, false, false, false, false, false, false, false, false, false, false, false, false, false, false, false, false, false, false, false, false, false, false, false, false, false, false, false]
    [sLit (.slice ao na ac),
    sOne (IsC (cx)) (fun _ _ _ h hb => h.below hb),
    sLit (.agg Y),
    sLit (.agg #[.slice p4 q4 r4, .slice p5 q5 r5, .slice p6 q6 r6]),
    sLit (.agg Y),
    sOne (fun v W => ∃ k, v = .pointer (some ⟨k, 0, none⟩) ∧ W.heap[k]? = some (.cells Z 78 (0, 0)) ∧ W3.heap.size ≤ k) (fun _ _ _ h hb => h.elim fun k h => ⟨k, h.1, (hb.block k (Array.getElem?_eq_some_iff.1 h.2.1).1).trans h.2.1, h.2.2⟩),
    sOne (fun v W => ∃ k, v = .pointer (some ⟨k, 0, none⟩) ∧ W.heap[k]? = some (.cells Z 77 (0, 0)) ∧ W3.heap.size ≤ k) (fun _ _ _ h hb => h.elim fun k h => ⟨k, h.1, (hb.block k (Array.getElem?_eq_some_iff.1 h.2.1).1).trans h.2.1, h.2.2⟩)] (by kernel_rfl) (by kernel_rfl) (by kernel_rfl) (fun F hF => ?_)
  simp only [over, overL, Nat.reduceAdd] at hF
  obtain rfl := funext hF
  clear hF
  refine ⟨⟨?_, ?_, ?_, ?_, ?_, ?_, ?_, trivial⟩, ?_⟩
  · intro V W hb hd K hK _
    clear hd
    go_wp2_with fail
    refine hK _ _ ?_ ?_ ?_ ?_
    · rfl
    · exact Below.refl _ _
    · exact rfl
    · trivial
  · intro V W hb hd K hK _
    have h0 : (V 24) = .slice ao na ac := hd 0 (by kernel_rfl)
    clear hd
    go_wp2_with fail
    refine ((HO.out W (HBW.out W hb)).1).mono ?_
    rintro e w1 ⟨v1, rfl, hv1, hb1⟩
    go_wp2_with fail
    refine hK _ _ ?_ ?_ ?_ ?_
    · rfl
    · exact hb1
    · exact hv1
    · trivial
  · intro V W hb hd K hK _
    have h1 : IsC (cx) (V 25) W := hd 1 (by kernel_rfl)
    clear hd
    go_wp2_with fail
    refine (HOF.out W _ h1).mono ?_
    rintro e w1 ⟨rfl, hb1⟩
    go_wp2_with fail
    refine hK _ _ ?_ ?_ ?_ ?_
    · rfl
    · exact hb1
    · exact rfl
    · trivial
  · intro V W hb hd K hK _
    clear hd
    obtain ⟨-, s0, s1, s2, -⟩ := HCu.out.below hb
    go_wp2_with fail
    refine hK _ _ ?_ ?_ ?_ ?_
    · rfl
    · exact Below.refl _ _
    · exact rfl
    · trivial
  · intro V W hb hd K hK _
    have h3 : (V 27) = .agg #[.slice p4 q4 r4, .slice p5 q5 r5, .slice p6 q6 r6] := hd 3 (by kernel_rfl)
    clear hd
    go_wp2_with fail
    refine (HRO.out W _ (HI.out W hb)).mono ?_
    rintro e w1 ⟨rfl, hb1⟩
    go_wp2_with fail
    refine hK _ _ ?_ ?_ ?_ ?_
    · rfl
    · exact hb1
    · exact rfl
    · trivial
  · intro V W hb hd K hK _
    clear hd
    go_wp2_with (first | (refine wp_alloc_tree rfl rfl Z HZ.out ?_))
    refine hK _ _ ?_ ?_ ?_ ?_
    · rfl
    · exact (Below.refl _ _).alloc (Nat.le_refl _) _
    · exact ⟨_, rfl, heap_alloc_last _ _, hb.size⟩
    · exact ⟨rfl, by simp⟩
  · intro V W hb hd K hK _
    clear hd
    go_wp2_with (first | (refine wp_alloc_treeU rfl rfl Z HZ.out ?_))
    refine hK _ _ ?_ ?_ ?_ ?_
    · rfl
    · exact (Below.refl _ _).alloc (Nat.le_refl _) _
    · exact ⟨_, rfl, heap_alloc_last _ _, hb.size⟩
    · exact ⟨rfl, by simp⟩
  · intro V W hb hd hap
    have h2 : (V 26) = .agg Y := hd 2 (by decide)
    have h4 : (V 28) = .agg Y := hd 4 (by decide)
    have h5 : ∃ k, (V 8) = .pointer (some ⟨k, 0, none⟩) ∧ W.heap[k]? = some (.cells Z 78 (0, 0)) ∧ W3.heap.size ≤ k := hd 5 (by decide)
    have h6 : ∃ k, (V 9) = .pointer (some ⟨k, 0, none⟩) ∧ W.heap[k]? = some (.cells Z 77 (0, 0)) ∧ W3.heap.size ≤ k := hd 6 (by decide)
    clear hd
    simp only [List.drop_succ_cons, List.drop_zero]
    obtain ⟨k8, e8, c8, g8⟩ := h5
    obtain ⟨k9, e9, c9, g9⟩ := h6
    have hne : ¬ k8 = k9 := fun e => hap 5 6 (by decide) (by decide) (by decide) (by decide) (by decide) (by show V 8 = V 9; rw [e8, e9, e])
    have HC8 := Lib.hid c8
    have HC9 := Lib.hid (show (W.setRow k8 Y).heap[k9]? = some (.cells Z 77 (0, 0)) from (setRow_other W k8 k9 Y (fun e => hne e.symm)).trans c9)
    have HBB := Lib.hid hb
    clear hap c8 c9 hb
    go_wp2_with (first
      | (refine wpList_store_row rfl 78 _ _ rfl k8 Y (by first | rfl | exact e8) (by first | rfl | exact h2) 78 Z HC8.out HSZ1.out HQ.out HONE.out ?_)
      | (refine wpList_store_row rfl 77 _ _ rfl k9 Y (by first | rfl | exact e9) (by first | rfl | exact h4) 77 Z HC9.out HSZ2.out HQ.out HONE.out ?_))
    simp only [Act.put, e8, e9]
    go_upto_region 5 with fail
    obtain ⟨W5, hW5⟩ : ∃ W5, W5 = (W.setRow k8 Y).setRow k9 Y := ⟨_, rfl⟩
    rw [← hW5]
    have t8 : W5.heap[k8]? = some (.cells Y 78 (0, 0)) := by rw [hW5]; exact (setRow_other _ k9 k8 Y hne).trans (setRow_heap _ _ _ _ _ _ HC8.out)
    have t9 : W5.heap[k9]? = some (.cells Y 77 (0, 0)) := by rw [hW5]; exact setRow_heap _ _ _ _ _ _ HC9.out
    have hb5 : RowKit.Below W3.heap.size W3 W5 := by rw [hW5]; exact below_setRow (below_setRow HBB.out g8 _) g9 _
    have HB5 := Lib.hid hb5
    have k8l : k8 < W5.heap.size := (Array.getElem?_eq_some_iff.1 t8).1
    have k9l : k9 < W5.heap.size := (Array.getElem?_eq_some_iff.1 t9).1
    have H8 := Lib.hid (fun W (h : RowKit.Below W5.heap.size W5 W) => (h.block k8 k8l).trans t8)
    have H9 := Lib.hid (fun W (h : RowKit.Below W5.heap.size W5 W) => (h.block k9 k9l).trans t9)
    clear hW5 t8 t9 hb5 k8l k9l e8 e9 h2 h4 hne HBB HC8 HC9 g8 g9
    have HI5 := Lib.hid (fun W (h : RowKit.Below W5.heap.size W5 W) => HI.out W (below_then HB5.out (Nat.le_refl _) h))
    have HU5 := Lib.hid (fun W (h : RowKit.Below W5.heap.size W5 W) => HCu.out.below (below_then HB5.out (Nat.le_refl _) h))
    have HW5 := Lib.hid (fun W (h : RowKit.Below W5.heap.size W5 W) => HBW.out W (below_then HB5.out (Nat.le_refl _) h))
    obtain ⟨bk, hbk⟩ : ∃ i, i = bucketF key := ⟨_, rfl⟩
    have HBK := Lib.hid (show ∀ W, Calls Tryz.prog 30 #[.string key] W (fun e w' => e = .returned (.int .i64 bk) ∧ Below W.heap.size W w') ∧ Calls Tryz.prog 31 #[.string key] W (fun e w' => e = .returned (.int .i64 bk) ∧ Below W.heap.size W w') from fun W => by
      rw [hbk]
      exact ⟨bucket_any key W (by omega), refbucket_any key W (by omega)⟩)
    obtain ⟨KK, hK⟩ : ∃ K, K = keysK (inK L) (allF cx) := ⟨_, rfl⟩
    have HKL := Lib.hid (show KK.length ≤ 100000 from by
      rw [hK]
      refine Nat.le_trans (keysK_len _ _) ?_
      rw [len_allF]
      have := HG.out.okc.len
      omega)
    have HKY := Lib.hid (fun (W : World) (v : Value) (h : IsC cx v W) (hW : RowKit.Below W5.heap.size W5 W) => show Calls Tryz.prog 33 #[v, .slice lo nl lc] W (NewT KK W) ∧ Calls Tryz.prog 34 #[v, .slice lo nl lc] W (NewT KK W) from by
      rw [hK]
      exact ⟨keys_any h HG.out (by decide) (HLR.out W (HW5.out W hW)) HLL.out, refkeys_any h HG.out (by decide) (HLR.out W (HW5.out W hW)) HLL.out⟩)
    have HGD := Lib.hid guard_U
    clear hbk hK
    refine wp_region_told [] 34 [false, false, false, false, false, false, false, false, false, false, false, false, false, false, false, false, false, false, false, false, false, false, false, false, false, false, false, false, false, true, true, true, true, true, true, true, true, true, true, true, true, true, true, true, true, true, true, true, true, true, true, true, true, true, true, true, true, true, true, true, true, true, true]
      [sLit (.agg Y),
    sLit (.agg Y),
    sLit (.bool true),
    sLit (.bool true),
    sLit (.agg Y),
    sLit (.int .u64 (rt : Nat)),
    sLit (.pointer (some ⟨k9, 1, none⟩)),
    sLit (.int .u64 (rt : Nat)),
    sLit (.bool true),
    sLit (.bool true),
    sLit (.bool true),
    sLit (.agg Y),
    sLit (.bool true),
    sLit (.bool true),
    sLit (.bool true),
    sLit (.string key),
    sLit (.int .i64 bk),
    sLit (.string key),
    sLit (.int .i64 bk),
    sLit (.bool true),
    sLit (.bool true),
    sLit (.bool true),
    sLit (.slice ao na ac),
    sOne (IsC (cx)) (fun _ _ _ h hb => h.below hb),
    sLit (.slice lo nl lc),
    sOne (fun v W => TxRow W v KK) (fun _ _ _ h hb => Lst.below h hb),
    sLit (.agg #[.slice p4 q4 r4, .slice p5 q5 r5, .slice p6 q6 r6]),
    sLit (.slice lo nl lc),
    sOne (fun v W => TxRow W v KK) (fun _ _ _ h hb => Lst.below h hb),
    sLit (.bool true),
    sLit (.bool true),
    sLit (.bool true),
    sLit (.bool true),
    sLit (.bool true)] (by kernel_rfl) (by kernel_rfl) (by kernel_rfl) (fun F hF => ?_)
    simp only [over, overL, Nat.reduceAdd] at hF
    obtain rfl := funext hF
    clear hF
    refine ⟨⟨?_, ?_, ?_, ?_, ?_, ?_, ?_, ?_, ?_, ?_, ?_, ?_, ?_, ?_, ?_, ?_, ?_, ?_, ?_, ?_, ?_, ?_, ?_, ?_, ?_, ?_, ?_, ?_, ?_, ?_, ?_, ?_, ?_, ?_, trivial⟩, ?_⟩
    · intro V W hb hd K hK _
      clear hd
      go_wp2_with (first | (refine wpList_load_row rfl 78 _ rfl k8 rfl 78 Y (0, 0) _ (H8.out W hb) Tryz.underlying78 rfl HSZ1.out ?_))
      refine hK _ _ ?_ ?_ ?_ ?_
      · rfl
      · exact Below.refl _ _
      · exact rfl
      · trivial
    · intro V W hb hd K hK _
      clear hd
      go_wp2_with (first | (refine wpList_load_row rfl 77 _ rfl k9 rfl 77 Y (0, 0) _ (H9.out W hb) Tryz.underlying77 rfl HSZ2.out ?_))
      refine hK _ _ ?_ ?_ ?_ ?_
      · rfl
      · exact Below.refl _ _
      · exact rfl
      · trivial
    · intro V W hb hd K hK _
      have h0 : (V 29) = .agg Y := hd 0 (by kernel_rfl)
      have h1 : (V 30) = .agg Y := hd 1 (by kernel_rfl)
      clear hd
      have q1 := HEQ.out
      have q2 := HGD.out
      go_wp2_with fail
      refine hK _ _ ?_ ?_ ?_ ?_
      · rfl
      · exact Below.refl _ _
      · first | rfl | simp
      · trivial
    · intro V W hb hd K hK _
      have h2 : (V 31) = .bool true := hd 2 (by kernel_rfl)
      clear hd
      go_wp2_with fail
      refine hK _ _ ?_ ?_ ?_ ?_
      · rfl
      · exact Below.refl _ _
      · exact rfl
      · trivial
    · intro V W hb hd K hK _
      have h3 : (V 32) = .bool true := hd 3 (by kernel_rfl)
      clear hd
      go_wp2_with (first | (refine wpList_load_row_w (by first | rfl | (rw [h3]; rfl) | (simp only [h3]; rfl)) 78 _ rfl k8 rfl 78 Y (0, 0) _ (H8.out W hb) Tryz.underlying78 rfl HSZ1.out ?_))
      refine hK _ _ ?_ ?_ ?_ ?_
      · rfl
      · exact Below.refl _ _
      · exact rfl
      · trivial
    · intro V W hb hd K hK _
      have h3 : (V 32) = .bool true := hd 3 (by kernel_rfl)
      have h4 : (V 33) = .agg Y := hd 4 (by kernel_rfl)
      clear hd
      go_wp2_with fail
      refine (HRT.out W).mono ?_
      rintro e w1 ⟨rfl, hb1⟩
      go_wp2_with fail
      refine hK _ _ ?_ ?_ ?_ ?_
      · rfl
      · exact hb1
      · exact rfl
      · trivial
    · intro V W hb hd K hK _
      have h3 : (V 32) = .bool true := hd 3 (by kernel_rfl)
      clear hd
      go_wp2_with fail
      refine hK _ _ ?_ ?_ ?_ ?_
      · rfl
      · exact Below.refl _ _
      · first | rfl | simp
      · trivial
    · intro V W hb hd K hK _
      have h3 : (V 32) = .bool true := hd 3 (by kernel_rfl)
      have h6 : (V 35) = .pointer (some ⟨k9, 1, none⟩) := hd 6 (by kernel_rfl)
      clear hd
      have q1 := HC1.out W k9 _ (H9.out W hb)
      go_wp2_with fail
      refine hK _ _ ?_ ?_ ?_ ?_
      · rfl
      · exact Below.refl _ _
      · first | rfl | simp
      · trivial
    · intro V W hb hd K hK _
      have h3 : (V 32) = .bool true := hd 3 (by kernel_rfl)
      have h5 : (V 34) = .int .u64 (rt : Nat) := hd 5 (by kernel_rfl)
      have h7 : (V 36) = .int .u64 (rt : Nat) := hd 7 (by kernel_rfl)
      clear hd
      go_wp2_with fail
      refine hK _ _ ?_ ?_ ?_ ?_
      · rfl
      · exact Below.refl _ _
      · first | rfl | simp
      · trivial
    · intro V W hb hd K hK _
      have h3 : (V 32) = .bool true := hd 3 (by kernel_rfl)
      have h8 : (V 37) = .bool true := hd 8 (by kernel_rfl)
      clear hd
      go_wp2_with fail
      refine hK _ _ ?_ ?_ ?_ ?_
      · rfl
      · exact Below.refl _ _
      · exact rfl
      · trivial
    · intro V W hb hd K hK _
      have h9 : (V 38) = .bool true := hd 9 (by kernel_rfl)
      clear hd
      go_wp2_with fail
      refine hK _ _ ?_ ?_ ?_ ?_
      · rfl
      · exact Below.refl _ _
      · exact rfl
      · trivial
    · intro V W hb hd K hK _
      have h10 : (V 39) = .bool true := hd 10 (by kernel_rfl)
      clear hd
      go_wp2_with (first | (refine wpList_load_row_w (by first | rfl | (rw [h10]; rfl) | (simp only [h10]; rfl)) 78 _ rfl k8 rfl 78 Y (0, 0) _ (H8.out W hb) Tryz.underlying78 rfl HSZ1.out ?_))
      refine hK _ _ ?_ ?_ ?_ ?_
      · rfl
      · exact Below.refl _ _
      · exact rfl
      · trivial
    · intro V W hb hd K hK _
      have h10 : (V 39) = .bool true := hd 10 (by kernel_rfl)
      have h11 : (V 40) = .agg Y := hd 11 (by kernel_rfl)
      clear hd
      go_wp2_with fail
      refine (HSD.out W).mono ?_
      rintro e w1 ⟨rfl, hb1⟩
      go_wp2_with fail
      refine hK _ _ ?_ ?_ ?_ ?_
      · rfl
      · exact hb1
      · exact rfl
      · trivial
    · intro V W hb hd K hK _
      have h10 : (V 39) = .bool true := hd 10 (by kernel_rfl)
      have h12 : (V 41) = .bool true := hd 12 (by kernel_rfl)
      clear hd
      go_wp2_with fail
      refine hK _ _ ?_ ?_ ?_ ?_
      · rfl
      · exact Below.refl _ _
      · exact rfl
      · trivial
    · intro V W hb hd K hK _
      have h13 : (V 42) = .bool true := hd 13 (by kernel_rfl)
      clear hd
      go_wp2_with fail
      refine hK _ _ ?_ ?_ ?_ ?_
      · rfl
      · exact Below.refl _ _
      · exact rfl
      · trivial
    · intro V W hb hd K hK _
      have h14 : (V 43) = .bool true := hd 14 (by kernel_rfl)
      clear hd
      go_wp2_with fail
      refine hK _ _ ?_ ?_ ?_ ?_
      · rfl
      · exact Below.refl _ _
      · exact rfl
      · trivial
    · intro V W hb hd K hK _
      have h14 : (V 43) = .bool true := hd 14 (by kernel_rfl)
      have h15 : (V 44) = .string key := hd 15 (by kernel_rfl)
      clear hd
      go_wp2_with fail
      refine ((HBK.out W).1).mono ?_
      rintro e w1 ⟨rfl, hb1⟩
      go_wp2_with fail
      refine hK _ _ ?_ ?_ ?_ ?_
      · rfl
      · exact hb1
      · exact rfl
      · trivial
    · intro V W hb hd K hK _
      have h14 : (V 43) = .bool true := hd 14 (by kernel_rfl)
      clear hd
      go_wp2_with fail
      refine hK _ _ ?_ ?_ ?_ ?_
      · rfl
      · exact Below.refl _ _
      · exact rfl
      · trivial
    · intro V W hb hd K hK _
      have h14 : (V 43) = .bool true := hd 14 (by kernel_rfl)
      have h17 : (V 46) = .string key := hd 17 (by kernel_rfl)
      clear hd
      go_wp2_with fail
      refine ((HBK.out W).2).mono ?_
      rintro e w1 ⟨rfl, hb1⟩
      go_wp2_with fail
      refine hK _ _ ?_ ?_ ?_ ?_
      · rfl
      · exact hb1
      · exact rfl
      · trivial
    · intro V W hb hd K hK _
      have h14 : (V 43) = .bool true := hd 14 (by kernel_rfl)
      have h16 : (V 45) = .int .i64 bk := hd 16 (by kernel_rfl)
      have h18 : (V 47) = .int .i64 bk := hd 18 (by kernel_rfl)
      clear hd
      go_wp2_with fail
      refine hK _ _ ?_ ?_ ?_ ?_
      · rfl
      · exact Below.refl _ _
      · first | rfl | simp
      · trivial
    · intro V W hb hd K hK _
      have h14 : (V 43) = .bool true := hd 14 (by kernel_rfl)
      have h19 : (V 48) = .bool true := hd 19 (by kernel_rfl)
      clear hd
      go_wp2_with fail
      refine hK _ _ ?_ ?_ ?_ ?_
      · rfl
      · exact Below.refl _ _
      · exact rfl
      · trivial
    · intro V W hb hd K hK _
      have h20 : (V 49) = .bool true := hd 20 (by kernel_rfl)
      clear hd
      go_wp2_with fail
      refine hK _ _ ?_ ?_ ?_ ?_
      · rfl
      · exact Below.refl _ _
      · exact rfl
      · trivial
    · intro V W hb hd K hK _
      have h21 : (V 50) = .bool true := hd 21 (by kernel_rfl)
      clear hd
      go_wp2_with fail
      refine hK _ _ ?_ ?_ ?_ ?_
      · rfl
      · exact Below.refl _ _
      · exact rfl
      · trivial
    · intro V W hb hd K hK _
      have h21 : (V 50) = .bool true := hd 21 (by kernel_rfl)
      have h22 : (V 51) = .slice ao na ac := hd 22 (by kernel_rfl)
      clear hd
      go_wp2_with fail
      refine ((HO.out W (HW5.out W hb)).1).mono ?_
      rintro e w1 ⟨v1, rfl, hv1, hb1⟩
      go_wp2_with fail
      refine hK _ _ ?_ ?_ ?_ ?_
      · rfl
      · exact hb1
      · exact hv1
      · trivial
    · intro V W hb hd K hK _
      have h21 : (V 50) = .bool true := hd 21 (by kernel_rfl)
      clear hd
      go_wp2_with fail
      refine hK _ _ ?_ ?_ ?_ ?_
      · rfl
      · exact Below.refl _ _
      · exact rfl
      · trivial
    · intro V W hb hd K hK _
      have h21 : (V 50) = .bool true := hd 21 (by kernel_rfl)
      have h23 : IsC (cx) (V 52) W := hd 23 (by kernel_rfl)
      have h24 : (V 53) = .slice lo nl lc := hd 24 (by kernel_rfl)
      clear hd
      go_wp2_with fail
      refine ((HKY.out W _ h23 hb).1).mono ?_
      rintro e w1 ⟨v1, rfl, hv1, hb1⟩
      go_wp2_with fail
      refine hK _ _ ?_ ?_ ?_ ?_
      · rfl
      · exact hb1
      · exact hv1.row
      · trivial
    · intro V W hb hd K hK _
      have h21 : (V 50) = .bool true := hd 21 (by kernel_rfl)
      clear hd
      obtain ⟨-, s0, s1, s2, -⟩ := HU5.out W hb
      go_wp2_with fail
      refine hK _ _ ?_ ?_ ?_ ?_
      · rfl
      · exact Below.refl _ _
      · exact rfl
      · trivial
    · intro V W hb hd K hK _
      have h21 : (V 50) = .bool true := hd 21 (by kernel_rfl)
      clear hd
      go_wp2_with fail
      refine hK _ _ ?_ ?_ ?_ ?_
      · rfl
      · exact Below.refl _ _
      · exact rfl
      · trivial
    · intro V W hb hd K hK _
      have h21 : (V 50) = .bool true := hd 21 (by kernel_rfl)
      have h26 : (V 55) = .agg #[.slice p4 q4 r4, .slice p5 q5 r5, .slice p6 q6 r6] := hd 26 (by kernel_rfl)
      have h27 : (V 56) = .slice lo nl lc := hd 27 (by kernel_rfl)
      clear hd
      go_wp2_with fail
      refine ((HKY.out W _ (HI5.out W hb) hb).2).mono ?_
      rintro e w1 ⟨v1, rfl, hv1, hb1⟩
      go_wp2_with fail
      refine hK _ _ ?_ ?_ ?_ ?_
      · rfl
      · exact hb1
      · exact hv1.row
      · trivial
    · intro V W hb hd K hK _
      have h21 : (V 50) = .bool true := hd 21 (by kernel_rfl)
      have h25 : TxRow W (V 54) KK := hd 25 (by kernel_rfl)
      have h28 : TxRow W (V 57) KK := hd 28 (by kernel_rfl)
      clear hd
      go_wp2_with fail
      refine (equalT h25 h28 HKL.out).mono ?_
      rintro e w1 ⟨rfl, hb1⟩
      go_wp2_with fail
      refine hK _ _ ?_ ?_ ?_ ?_
      · rfl
      · exact hb1
      · exact rfl
      · trivial
    · intro V W hb hd K hK _
      have h21 : (V 50) = .bool true := hd 21 (by kernel_rfl)
      have h29 : (V 58) = .bool true := hd 29 (by kernel_rfl)
      clear hd
      go_wp2_with fail
      refine hK _ _ ?_ ?_ ?_ ?_
      · rfl
      · exact Below.refl _ _
      · exact rfl
      · trivial
    · intro V W hb hd K hK _
      have h30 : (V 59) = .bool true := hd 30 (by kernel_rfl)
      clear hd
      go_wp2_with fail
      refine hK _ _ ?_ ?_ ?_ ?_
      · rfl
      · exact Below.refl _ _
      · exact rfl
      · trivial
    · intro V W hb hd K hK _
      have h31 : (V 60) = .bool true := hd 31 (by kernel_rfl)
      clear hd
      go_wp2_with fail
      refine (alive_any W).mono ?_
      rintro e w1 ⟨rfl, hb1⟩
      go_wp2_with fail
      refine hK _ _ ?_ ?_ ?_ ?_
      · rfl
      · exact hb1
      · exact rfl
      · trivial
    · intro V W hb hd K hK _
      have h31 : (V 60) = .bool true := hd 31 (by kernel_rfl)
      have h32 : (V 61) = .bool true := hd 32 (by kernel_rfl)
      clear hd
      go_wp2_with fail
      refine hK _ _ ?_ ?_ ?_ ?_
      · rfl
      · exact Below.refl _ _
      · exact rfl
      · trivial
    · intro V W hb hd hap
      have h33 : (V 62) = .bool true := hd 33 (by decide)
      clear hd hap
      simp only [List.drop_succ_cons, List.drop_zero]
      have HFB := Lib.hid (HW5.out W hb)
      clear hb
      go_wp2_with fail
      go_ret
      exact ⟨rfl, HFB.out⟩
end Go.Proofs.YtkdgbkhnnehedaaGreatDoor.Mrk
