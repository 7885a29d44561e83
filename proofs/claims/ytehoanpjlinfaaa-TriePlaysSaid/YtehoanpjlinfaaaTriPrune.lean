/- The trie's walks: prune, Drop. -/
import Derived.Test.YtehoanpjlinfaaaTriCut
namespace Go.Proofs.Ytehoanpjlinfaaa.Tri
open Go.RowKit

def PrunePost (d : Nat) (σ : Store) (b : Nat) (D : Dict) (β N : Nat) (w : World) (e : Ending) (w' : World) : Prop :=
  e = .returned (.tuple #[]) ∧ ∃ τ, Heap w' β τ ∧ Rep d τ b D ∧ (foot d τ b).Nodup ∧ (∀ k ∈ foot d τ b, k ∈ foot d σ b) ∧ (∀ k, k ∉ foot d σ b → τ k = σ k) ∧ Moves σ w τ w' ∧ Slim τ N ∧ Tail σ τ w w'
theorem prunePost_mk {d : Nat} {σ : Store} {b : Nat} {D : Dict} {β N : Nat} {w w' : World} (τ : Store) (h1 : Heap w' β τ) (h2 : Rep d τ b D ∧ (foot d τ b).Nodup ∧ (∀ k ∈ foot d τ b, k ∈ foot d σ b) ∧ ∀ k, k ∉ foot d σ b → τ k = σ k) (h3 : Moves σ w τ w') (h4 : Slim τ N) (h5 : Tail σ τ w w') :
    PrunePost d σ b D β N w (.returned (.tuple #[])) w' := ⟨rfl, τ, h1, h2.1, h2.2.1, h2.2.2.1, h2.2.2.2, h3, h4, h5⟩

/-- A row of runes that lies apart from a trie. -/
def Row (σ : Store) (w : World) (ao : Option Addr) (l : Tx) : Prop := ∀ i x, l[i]? = some x → ∃ bk off, ao = some ⟨bk, off, none⟩ ∧ w.cell? ⟨bk, off + i, none⟩ = some (enR x) ∧ ¬ Uses σ bk ∧ bk < w.heap.size

set_option maxHeartbeats 8000000 in
set_option maxRecDepth 100000 in
theorem prune_step (r : Int) (l : Tx) (ih : ∀ (d : Nat) (σ : Store) (b : Nat) (D : Dict) (β N cap : Nat) (ao : Option Addr) (w : World), Heap w β σ → RepC d σ b D l → (foot d σ b).Nodup → Slim σ N → N ≤ 99999 → Row σ w ao l → l.length ≤ cap → cap ≤ maxLen →
      Calls Try.prog 89 #[enP b, .slice ao l.length cap] w (PrunePost d σ b D β N w))
    (d : Nat) (σ : Store) (b : Nat) (D : Dict) (β N cap : Nat) (ao : Option Addr) (w : World) (H : Heap w β σ) (hR : RepC d σ b D (r :: l)) (hn : (foot d σ b).Nodup) (hS : Slim σ N) (hN : N ≤ 99999) (hr : Row σ w ao (r :: l)) (hcap : l.length + 1 ≤ cap) (hcm : cap ≤ maxLen) :
    Calls Try.prog 89 #[enP b, .slice ao (l.length + 1) cap] w (PrunePost d σ b D β N w) := by
  obtain ⟨e, x, i, c, rfl, hx, hok, hto, hi, hc, hRc, hnc, hbc⟩ := hR.step hn
  obtain ⟨bk, off, rfl, hcell, hbk, hbkl⟩ := hr 0 r rfl
  have hxn := H.at_ b x hx
  have hsl : x.runes.length ≤ 100000 := by have := hS b x hx; omega
  have hnx := next_in b x r c β w hxn hsl hto
  have hcm' := hcm
  unfold maxLen at hcm
  have hrec : ∀ (ao' : Option Addr) (cap' : Nat), cap' = cap - 1 → (cap ≠ 1 → ao' = some ⟨bk, off + 1, none⟩) → Calls Try.prog 89 #[enP c, .slice ao' l.length cap'] w (PrunePost e σ c (sub D r) β N w) := fun ao' cap' hc' ha =>
    ih e σ c (sub D r) β N cap' ao' w H hRc hnc hS hN (fun j y hj => by
      obtain ⟨b2, o2, e2, h2, h3, h4⟩ := hr (j + 1) y (by simpa using hj)
      cases e2
      have hjl := (List.getElem?_eq_some_iff.1 hj).1
      exact ⟨bk, off + 1, ha (by omega), by rw [show off + 1 + j = off + (j + 1) by omega]; exact h2, h3, h4⟩) (by omega) (by omega)
  have HX := Lib.hid hx
  have HR := Lib.hid hR
  have HN := Lib.hid hn
  have HI := Lib.hid hi
  have HC := Lib.hid hc
  have HBC := Lib.hid hbc
  have HBK := Lib.hid hbk
  have HREC := Lib.hid hrec
  have HNX := Lib.hid hnx
  have HXN := Lib.hid hxn
  have HS := Lib.hid hS
  have HH := Lib.hid H
  rw [Nat.add_zero] at hcell
  have HCL := Lib.hid hcell
  obtain ⟨n, hnl⟩ : ∃ n, n = l.length := ⟨_, rfl⟩
  rw [← hnl] at hcap HREC ⊢
  have g0 : ((n : Int) + 1 == 0) = false := by simp; omega
  clear hx hR hn hi hc hbc hbk hrec hnx hxn hS H hr hRc hnc hok hto ih hnl
  by_cases hc1 : cap = 1
  all_goals
    first
      | (subst hc1; obtain rfl : n = 0 := (by omega); have HREC2 := Lib.hid (HREC.out (some ⟨bk, off, none⟩) 0 rfl (fun h => absurd rfl h)))
      | (have HREC2 := Lib.hid (HREC.out (some ⟨bk, off + 1, none⟩) (cap - 1) rfl (fun _ => rfl)))
    clear HREC
    go_enter Try.func89, Try.ntmps89
    go_wp2_with fail
    refine HNX.out.mono ?_
    rintro en w1 ⟨rfl, rfl⟩
    go_wp2_with fail
    refine HREC2.out.mono ?_
    rintro en w1 ⟨rfl, τ, hH1, hR1, hn1, hs1, hf1, hM1, hS1, hT1⟩
    clear hcell HREC2 HNX
    obtain ⟨y, hy, hyok, hyown⟩ := hR1.at
    have hyn := hH1.at_ c y hy
    have hback := fun (υ : Store) (x1 : Node) h => RepC.back (υ := υ) (x1 := x1) HR.out HN.out HX.out HI.out HC.out hR1 hn1 hs1 hf1 hy h
    have hyc0 := hyn.c0
    have hyc3 := hyn.c3
    obtain ⟨yo, ycap, hyrv⟩ := row_form hyn.rr
    rw [hyrv] at hyc0
    have HBK2 := Lib.hid hback
    have HH1 := Lib.hid hH1
    have HM1 := Lib.hid hM1
    have HS1 := Lib.hid hS1
    have HT1 := Lib.hid hT1
    have hτb : τ b = some x := (hf1 b HBC.out).trans HX.out
    have HTB := Lib.hid hτb
    have HY := Lib.hid hy
    clear hH1 hR1 hn1 hs1 hf1 hM1 hS1 hT1 hback hyok hyown hyn hyrv hy hτb
    cases hyis : y.is
    · rw [hyis] at hyc3
      by_cases hlen : y.runes.length = 0
      · have HL := Lib.hid (⟨hyis, List.length_eq_zero_iff.1 hlen⟩ : y.is = false ∧ y.runes = [])
        rw [hlen] at hyc0
        clear hyis hlen
        have hcw : w1.cell? ⟨bk, off, none⟩ = some (enR r) := (World.cell?_of_block (w := w) (a := ⟨bk, off, none⟩) (HM1.out.block bk hbkl HBK.out)).trans HCL.out
        have hxn1 := HH1.out.at_ b x HTB.out
        have hil : i < x.runes.length := (List.getElem?_eq_some_iff.1 HI.out).1
        obtain ⟨g, xcap, sp, hxrv, _⟩ := own_whole hxn1.rr (by omega)
        obtain ⟨g2, xcap2, sp2, hxbv, _⟩ := own_whole hxn1.br (by rw [hxn1.ok.same]; omega)
        rw [hxn1.ok.same] at hxbv
        have hc0 := hxn1.c0
        have hc1' := hxn1.c1
        have hrr := hxn1.rr
        have hbr := hxn1.br
        rw [hxrv] at hc0 hrr
        rw [hxbv] at hc1' hbr
        rw [hxn1.ok.same] at hbr
        have hsr : ∀ W : World, (∀ a, W.cell? a = w1.cell? a) → Calls Try.prog 93 #[.slice (some ⟨g, 0, none⟩) x.runes.length xcap, enR r] W fun e w' => e = .returned (.tuple #[.int .i64 i, .bool true]) ∧ W = w' := fun W hW =>
          search_in _ _ _ _ _ _ (by omega) hxn1.ok.rise (fun j z hj => by
            obtain ⟨_, hra⟩ := row_at hrr rfl
            obtain ⟨b3, o3, e3, h3⟩ := hra j (enR z) (by rw [List.getElem?_map, hj]; rfl)
            exact ⟨b3, o3, e3, by rw [hW]; exact h3⟩) HI.out
        have f0 := hxn1.free 0
        have f1 := hxn1.free 1
        have hbl := hxn1.lt
        have hgb : g ≠ b := fun e => (hxn1.row_ne hxn1).1 (by rw [hxrv, ← e]; rfl)
        have hgb2 : g2 ≠ b := fun e => (hxn1.row_ne hxn1).2 (by rw [hxbv, ← e]; rfl)
        have hgg : g2 ≠ g := fun e => hxn1.rows_ne hxn1 (g := g) (by rw [hxrv]; rfl) (by rw [hxbv, ← e]; rfl)
        have hgl2 := (hbr.lt g2 rfl).2
        obtain ⟨m, hm⟩ : ∃ m, m = x.runes.length := ⟨_, rfl⟩
        rw [← hm] at hc0 hc1' hrr hbr hsr hil hsl
        have a1 : IntKind.i64.wrap ((i : Int) + 1) = (i : Int) + 1 := IntWalk.i64_in _ (by omega)
        have SR := Lib.hid hsr
        have RR := Lib.hid hrr
        have BR := Lib.hid hbr
        have XRV := Lib.hid hxrv
        have XBV := Lib.hid hxbv
        have ML := Lib.hid hm
        have GB := Lib.hid hgb
        have GB2 := Lib.hid hgb2
        have GG := Lib.hid hgg
        clear hsr hrr hbr hxrv hxbv hm hgb hgb2 hgg hxn1
        go_wp2_with fail
        go_quiet ((go_at_call 93; exact quiet_left (SR.out _ (fun _ => rfl))))
        go_wp2_with fail
        refine (SlRune.delete_any β g m xcap i (x.runes.map enR) (w1.drewN nq) (own_same RR.out fun _ _ => rfl) hil (fun u hu => by obtain ⟨z, _, rfl⟩ := List.mem_map.1 hu; rfl)).mono ?_
        rintro en w2 ⟨rfl, ho, hg⟩
        have hw2 : ∀ k, k < w1.heap.size → k ≠ g → w2.heap[k]? = w1.heap[k]? := fun k h1 h2 => hg.block k h1 (by simp; omega)
        have hsz2 : w1.heap.size ≤ w2.heap.size := hg.size
        have f0' : w2.frozen? ⟨b, 0, none⟩ = false := (World.frozen?_of_block (w := w1) (a := ⟨b, 0, none⟩) (hw2 b hbl (Ne.symm GB.out))).trans f0
        have f1' : w2.frozen? ⟨b, 1, none⟩ = false := (World.frozen?_of_block (w := w1) (a := ⟨b, 1, none⟩) (hw2 b hbl (Ne.symm GB.out))).trans f1
        have c0' : w2.cell? ⟨b, 0, none⟩ = some (.slice (some ⟨g, 0, none⟩) m xcap) := (World.cell?_of_block (w := w1) (a := ⟨b, 0, none⟩) (hw2 b hbl (Ne.symm GB.out))).trans hc0
        have c1' : w2.cell? ⟨b, 1, none⟩ = some (.slice (some ⟨g2, 0, none⟩) m xcap2) := (World.cell?_of_block (w := w1) (a := ⟨b, 1, none⟩) (hw2 b hbl (Ne.symm GB.out))).trans hc1'
        have hb2 : b < w2.heap.size := by omega
        have HO := Lib.hid ho
        have HG := Lib.hid hg
        have HW2 := Lib.hid hw2
        have HS2 := Lib.hid hsz2
        clear ho hg hw2 hc0 hc1' f0 f1 hcw
        go_wp2_with fail
        refine (SlPtr.delete_any β g2 m xcap2 i (x.below.map enP) _ (own_same BR.out fun k hk => ?q0) hil (fun u hu => by obtain ⟨z, _, rfl⟩ := List.mem_map.1 hu; rfl)).mono ?_
        case q0 =>
          have hk : g2 = k := by simpa [Value.ownBlock] using hk
          subst hk
          rw [Below.heap_setCell _ _ _ g2 GB2.out, HW2.out g2 hgl2 GG.out]
        rintro en w6 ⟨rfl, ho2, hg2⟩
        obtain ⟨x1, e1, e2, e3, e4, k1, k2, k3, k4⟩ := cut_heap (w := w1.drewN nq) (n := m) (HH1.out.same fun _ _ => rfl) HTB.out HS1.out ML.out.symm hil (by rw [XRV.out, ← ML.out]) (by rw [XBV.out, ← ML.out]) HO.out HG.out ho2 hg2
        have f1'' : w6.frozen? ⟨b, 1, none⟩ = false := (World.frozen?_of_block (w := w2.setCell ⟨b, 0, none⟩ (.slice (some ⟨g, 0, none⟩) (m - 1) xcap)) (a := ⟨b, 1, none⟩) (hg2.block b (by simp; omega) (by simp; exact Ne.symm GB2.out))).trans (by rw [World.frozen?_setCell]; exact f1')
        have c1'' : w6.cell? ⟨b, 1, none⟩ = some (.slice (some ⟨g2, 0, none⟩) m xcap2) := (World.cell?_of_block (w := w2.setCell ⟨b, 0, none⟩ (.slice (some ⟨g, 0, none⟩) (m - 1) xcap)) (a := ⟨b, 1, none⟩) (hg2.block b (by simp; omega) (by simp; exact Ne.symm GB2.out))).trans ((World.cell?_setCell_other _ _ _ _ (by simp)).trans c1')
        have hb6 : b < w6.heap.size := by have := hg2.size; simp at this; omega
        have E1 := Lib.hid e1
        have E2 := Lib.hid e2
        have E3 := Lib.hid e3
        have E4 := Lib.hid e4
        have K1 := Lib.hid k1
        have K2 := Lib.hid k2
        have K3 := Lib.hid k3
        have K4 := Lib.hid k4
        clear ho2 hg2 e1 e2 e3 e4 k1 k2 k3 k4 f0' f1' c0' c1'
        go_wp2_with fail
        go_end0
        exact prunePost_mk (τ.set b x1) K1.out (HBK2.out (τ.set b x1) x1 (by rw [if_pos HL.out]; exact ⟨E1.out, E2.out, E3.out, E4.out, rfl⟩)) ((HM1.out.trans (Moves.below (below_drewN (Below.refl _ _) nq))).trans K2.out) K3.out (HT1.out.trans (Tail.trans (show Tail τ τ w1 (w1.drewN nq) from fun k hk => ⟨hk, fun _ _ => rfl⟩) K4.out))
      · have HL := Lib.hid (show ¬ (y.is = false ∧ y.runes = []) from fun h => hlen (by rw [h.2]; rfl))
        have hl0 : ((y.runes.length : Int) == 0) = false := by simp; exact fun h => hlen (by rw [h]; rfl)
        clear hyis hlen
        go_wp2_with fail
        go_end0
        exact prunePost_mk τ HH1.out (HBK2.out τ x (by rw [if_neg HL.out])) HM1.out HS1.out HT1.out
    · rw [hyis] at hyc3
      have HL := Lib.hid (show ¬ (y.is = false ∧ y.runes = []) from fun h => by rw [hyis] at h; exact absurd h.1 (by simp))
      clear hyis
      go_wp2_with fail
      go_end0
      exact prunePost_mk τ HH1.out (HBK2.out τ x (by rw [if_neg HL.out])) HM1.out HS1.out HT1.out

theorem prune_any : ∀ (l : Tx) (d : Nat) (σ : Store) (b : Nat) (D : Dict) (β N cap : Nat) (ao : Option Addr) (w : World), Heap w β σ → RepC d σ b D l → (foot d σ b).Nodup → Slim σ N → N ≤ 99999 → Row σ w ao l → l.length ≤ cap → cap ≤ maxLen →
    Calls Try.prog 89 #[enP b, .slice ao l.length cap] w (PrunePost d σ b D β N w)
  | [], d, σ, b, D, β, N, cap, ao, w, H, hR, hn, hS, _, _, _, _ => by
    have hpost : PrunePost d σ b D β N w (.returned (.tuple #[])) w := prunePost_mk σ H ⟨by cases d <;> exact hR, hn, fun _ h => h, fun _ _ => rfl⟩ (Moves.refl _ _) hS (Tail.refl _ _)
    have HP := Lib.hid hpost
    clear hpost H hR hn hS
    go_enter Try.func89, Try.ntmps89
    go_wp2_with fail
    go_end0
    exact HP.out
  | r :: l, d, σ, b, D, β, N, cap, ao, w, H, hR, hn, hS, hN, hr, hl, hc => prune_step r l (fun d σ b D β N cap ao w => prune_any l d σ b D β N cap ao w) d σ b D β N cap ao w H hR hn hS hN hr (by simpa using hl) hc
end Go.Proofs.Ytehoanpjlinfaaa.Tri
