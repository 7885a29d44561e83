/- The trie's walks: Drop, Len. -/
import Derived.Test.YtehoanpjlinfaaaTriPrune
namespace Go.Proofs.Ytehoanpjlinfaaa.Tri
open Go.RowKit

theorem del_none {D : Dict} {l : Tx} (h : D l = none) : del D l = D := by
  funext k
  unfold del
  by_cases e : k = l
  · rw [if_pos e, e, h]
  · rw [if_neg e]

/-- What a trie says: memory, nodes, texts. -/
structure Says (w : World) (β t d N : Nat) (σ : Store) (D : Dict) (many : Int) : Prop where
  at_ : TrieAt w β t σ many
  rep : Rep d σ t D
  nodup : (foot d σ t).Nodup
  slim : Slim σ N

def DropPost (σ : Store) (t : Nat) (l : Tx) (D : Dict) (d β N : Nat) (many : Int) (w : World) (e : Ending) (w' : World) : Prop :=
  ∃ τ, e = .returned (.bool (D l).isSome) ∧ Says w' β t d N τ (del D l) (if (D l).isSome then many - 1 else many) ∧ Moves σ w τ w'

theorem TrieAt.below {w w' : World} {β t : Nat} {σ : Store} {many : Int} (H : TrieAt w β t σ many) (hb : Below w.heap.size w w') : TrieAt w' β t σ many := by
  refine ⟨H.heap.below hb, H.root, ?_⟩
  cases hq : σ t with
  | none => exact absurd hq H.root
  | some x => exact (hb.cell (p := ⟨t, 4, none⟩) (H.heap.at_ t x hq).lt).trans H.many

set_option maxHeartbeats 8000000 in
set_option maxRecDepth 100000 in
theorem drop_any (t : Nat) (s : ByteArray) (D : Dict) (d β N : Nat) (many : Int) (σ : Store) (w : World) (H : Says w β t d N σ D many) (hN : N ≤ 99999) (hz : s.size ≤ 1000000) (hm : 0 ≤ many ∧ many ≤ 1000000) :
    Calls Try.prog 44 #[enP t, .string s] w (DropPost σ t (runesOf s) D d β N many w) := by
  have hfind := find_any t s β N σ w H.at_.heap H.at_.root H.slim hN
  obtain ⟨hf1, hf2⟩ := H.rep.find (s := runesOf s)
  have HF := Lib.hid hfind
  have HH := Lib.hid H
  clear hfind H
  cases hfc : findF σ t (runesOf s) with
  | none =>
    rw [hfc] at HF
    have hD := Lib.hid (hf1 hfc)
    clear hf1 hf2 hfc
    go_enter Try.func44, Try.ntmps44
    go_wp2_with fail
    refine HF.out.mono ?_
    rintro en w1 ⟨rfl, hb⟩
    have HB := Lib.hid hb
    clear hb
    unfold ptr
    go_wp2_with fail
    go_ret
    exact ⟨σ, by rw [hD.out]; rfl, by rw [hD.out, del_none hD.out]; exact ⟨HH.out.at_.below HB.out, HH.out.rep, HH.out.nodup, HH.out.slim⟩, Moves.below HB.out⟩
  | some c =>
    rw [hfc] at HF
    obtain ⟨x, hx, ho⟩ := hf2 c hfc
    have HFC := Lib.hid hfc
    clear hf1 hf2 hfc
    cases his : x.is
    · have hD := Lib.hid (show D (runesOf s) = none by rw [← ho]; simp [Node.own, his])
      have HX := Lib.hid hx
      have HI := Lib.hid his
      clear ho hx his
      go_enter Try.func44, Try.ntmps44
      go_wp2_with fail
      refine HF.out.mono ?_
      rintro en w1 ⟨rfl, hb⟩
      have hxn := (HH.out.at_.heap.below hb).at_ c x HX.out
      have hc3 := hxn.c3
      rw [HI.out] at hc3
      have HB := Lib.hid hb
      clear hb hxn
      unfold ptr
      go_wp2_with fail
      go_ret
      exact ⟨σ, by rw [hD.out]; rfl, by rw [hD.out, del_none hD.out]; exact ⟨HH.out.at_.below HB.out, HH.out.rep, HH.out.nodup, HH.out.slim⟩, Moves.below HB.out⟩
    · have hD := Lib.hid (show (D (runesOf s)).isSome = true by rw [← ho]; simp [Node.own, his])
      obtain ⟨G, C, hcv, hG, hC⟩ := runes_row (P := Try.prog) 9 24 21 s Try.underlying9 Try.underlying24 Try.underlying21 (by omega)
      have HG := Lib.hid hG
      have HC := Lib.hid hC
      have HX := Lib.hid hx
      have HI := Lib.hid his
      have hl := runesOf_len s
      have hm1 : IntKind.i64.wrap (many - 1) = many - 1 := IntWalk.i64_in _ (by omega)
      clear ho hx his hG hC
      go_enter Try.func44, Try.ntmps44
      go_wp2_with fail
      refine HF.out.mono ?_
      rintro en w1 ⟨rfl, hb⟩
      have HA := HH.out.at_.below hb
      have hxn := HA.heap.at_ c x HX.out
      have hc2 := hxn.c2
      have hc3 := hxn.c3
      rw [HI.out] at hc3
      have f2 := hxn.free 2
      have f3 := hxn.free 3
      have hlc := hxn.lt
      have hmn := HA.many
      have hft : w1.frozen? ⟨t, 4, none⟩ = false ∧ t < w1.heap.size := by
        cases hq : σ t with
        | none => exact absurd hq HA.root
        | some z => exact ⟨(HA.heap.at_ t z hq).free 4, (HA.heap.at_ t z hq).lt⟩
      obtain ⟨f4, htl⟩ := hft
      have HB := Lib.hid hb
      have HAA := Lib.hid HA
      clear hb hxn HA
      unfold ptr
      go_wp2_with fail
      obtain ⟨b1, b2, b3, b4⟩ := store_own HAA.out.heap HX.out 0 false HH.out.slim
      have TA : TrieAt _ β t _ many := ⟨b1, (b4 t HAA.out.root).1, ((b4 t HAA.out.root).2 4 (by omega)).trans HAA.out.many⟩
      obtain ⟨a1, a2⟩ := store_many TA (many - 1)
      have hM1 := (Moves.below HB.out).trans (b2.trans a2)
      obtain ⟨r1, r2, r3⟩ := Rep.clear (x1 := { x with n := 0, is := false }) HH.out.rep HH.out.nodup HFC.out HX.out HI.out rfl rfl rfl
      obtain ⟨W, hW⟩ : ∃ W, W = ((w1.setCell ⟨c, 2, none⟩ (.int .i64 0)).setCell ⟨c, 3, none⟩ (.bool false)).setCell ⟨t, 4, none⟩ (.int .i64 (many - 1)) := ⟨_, rfl⟩
      rw [← hW] at a1 hM1 ⊢
      have hWs : W.heap.size = w1.heap.size := by rw [hW]; simp
      have hnew : ∀ i, ((W.alloc (.cells (C W) 21)).drew).cell? ⟨W.heap.size, i, none⟩ = (C W)[i]? := fun i => by
        have e1 : ((W.alloc (.cells (C W) 21)).drew).heap[W.heap.size]? = some (.cells (C W) 21 (0, 0)) := by show (W.heap.push _)[W.heap.size]? = _; simp
        unfold World.cell?; rw [e1]; simp
      have hbel : Below W.heap.size W ((W.alloc (.cells (C W) 21)).drew) := ((Below.refl _ _).alloc (Nat.le_refl _) _).drew
      have hun : ¬ Uses (σ.set c { x with n := 0, is := false }) W.heap.size := fun e => by have := (a1.heap.uses_lt e).2; omega
      refine (prune_any (runesOf s) d (σ.set c { x with n := 0, is := false }) t (del D (runesOf s)) β N (G W) (some ⟨w1.heap.size, 0, none⟩) ((W.alloc (.cells (C W) 21)).drew) (a1.heap.below hbel) r1 (by rw [r2]; exact HH.out.nodup) b3 hN (fun i y hi => ⟨W.heap.size, 0, by rw [hWs], by rw [Nat.zero_add]; exact (hnew i).trans (HC.out W i y hi), hun, by show W.heap.size < (W.heap.push _).size; simp⟩) (HG.out W).1 (HG.out W).2.1).mono ?_
      rintro en w3 ⟨rfl, τ, k1, k2, k3, k4, k5, k6, k7, k8⟩
      have k9 := k8 t a1.root
      have hfin : Says w3 β t d N τ (del D (runesOf s)) (many - 1) := ⟨⟨k1, k9.1, (k9.2 4 (by omega)).trans (a1.below hbel).many⟩, k2, k3, k7⟩
      have hmv : Moves σ w τ w3 := hM1.trans ((Moves.below hbel).trans k6)
      have HFIN := Lib.hid hfin
      have HMV := Lib.hid hmv
      clear hWs hfin hmv k1 k2 k3 k4 k5 k6 k7 k8 k9 hnew hbel hun r1 r2 r3 a1 hM1 hW b1 b2 b3 b4 TA a2
      go_wp2_with fail
      go_ret
      exact ⟨τ, by rw [hD.out]; rfl, by rw [hD.out, if_pos rfl]; exact HFIN.out, HMV.out⟩

theorem len_any (t : Nat) (β : Nat) (many : Int) (σ : Store) (w : World) (H : TrieAt w β t σ many) :
    Calls Try.prog 9 #[enP t] w fun e w' => e = .returned (.int .i64 many) ∧ w = w' := by
  have hc := H.many
  clear H
  go_enter Try.func9, Try.ntmps9
  go_wp2
  go_ret
  exact ⟨rfl, rfl⟩
end Go.Proofs.Ytehoanpjlinfaaa.Tri
