/- Layer 11 (disk): the names of the files, sorted. -/
import Derived.Test.YtihfcohebgemdaaDoorDskSync
set_option linter.unusedSimpArgs false
set_option linter.unusedVariables false
namespace Go.Proofs.YtihfcohebgemdaaDoor.Dsk
open Go.RowKit Go.Maps Go.Sort Go.Shelf
attribute [local go_sem] Oper.semAt_some

theorem sorts (m : Nat) : AnyZ.SortsIn Tryd.prog laySorted_ren Fence.wide m :=
  ⟨fun blk off cap ss W hH hblk hsz => callsIn_wide.2 (AnyM.slices_Sort_string laySort blk off cap ss W hH hblk hsz),
   fun p cap W => callsIn_wide.2 (AnyM.slices_Sort_string_none laySort p cap W)⟩
theorem keys_call (n m : Nat) (W : World) : CallsIn Fence.wide n Tryd.prog 25 #[.map (some m)] W fun e w' =>
    e = .returned (.func (.func 28) #[] #[.pointer (some ⟨W.heap.size, 0, none⟩)]) ∧ w' = W.alloc (.cells #[.map (some m)] 37) := AnyZ.keys_in layKeys Fence.wide n trivial rfl (some m) W
theorem keys_one (nm : ByteArray) (F : Nat) : strKeys (DataW.map (entr (some (nm, F)))) = [nm.data.toList] := by simp [entr, strKeys]; rfl
theorem sorted_call (n : Nat) (hn : 4 ≤ n) (m : Nat) (nm : ByteArray) (F : Nat) (W : World) (hv : Files W m (some (nm, F))) :
    CallsIn Fence.wide n Tryd.prog 24 #[.func (.func 28) #[] #[.pointer (some ⟨W.heap.size, 0, none⟩)]] (W.alloc (.cells #[.map (some m)] 37)) fun e w' =>
      ∃ v, e = .returned v ∧ w'.ownsRow (W.heap.size + 1) 9 1 v 1 [encStr nm.data.toList] ∧ Below W.heap.size W w' := by
  have hbl := hv.lt
  have hseq : SeqGives Fence.wide (n - 1 - 1 - 1) Tryd.prog 28 #[.pointer (some ⟨W.heap.size, 0, none⟩)] encStr (fun ss => ss.Perm (strKeys (DataW.map (entr (some (nm, F)))))) (Maps.size (DataW.map (entr (some (nm, F))))) (W.alloc (.cells #[.map (some m)] 37)) :=
    AnyZ.keys_gives (ρ := layKeys_ren) { layKeys with } Fence.wide _ trivial rfl (by omega) W.heap.size m _ _ _ (by simp) (by simp) (by
      obtain ⟨es, clock, hb, Ft, hs, hD⟩ := hv
      exact ⟨es, clock, (Below.heap_alloc _ _ m hbl).trans hb, Ft, hs, hD⟩)
  have cS := AnyZ.sorted_in laySorted Fence.wide n trivial trivial trivial trivial rfl hn (sorts _) (enters_of Tryd.func27 (by kernel_rfl) rfl) 28 #[.pointer (some ⟨W.heap.size, 0, none⟩)] trivial (enters_of Tryd.func28 (by kernel_rfl) rfl) _ _ (by simp [Maps.size_eq, entr, maxLen]) (by simp [Maps.size_eq, entr]) _ hseq
  change CallsIn _ _ Tryd.prog 24 _ _ _ at cS
  refine cS.mono ?_
  rintro e w' ⟨v, ss, rfl, hS, hrow, _, hb⟩
  rw [keys_one] at hS
  obtain rfl := List.perm_singleton.1 hS
  rw [World.size_alloc] at hrow
  exact ⟨v, rfl, by rw [show laySorted_ren.t 26 = 9 from rfl] at hrow; simpa using hrow, ((Below.refl _ W).alloc (Nat.le_refl _) _).trans (hb.mono (by simp))⟩

def ivOf : Value → Nat
  | .int _ x => x.toNat
  | _ => 0
theorem names_in (n d : Nat) (w : World) :
    CallsIn Fence.wide n Tryd.prog 19 #[.pointer (some ⟨d, 0, none⟩)] w fun e w' =>
      e = .returned (.func (.func 23) #[] #[.pointer (some ⟨w.heap.size, 0, none⟩)]) ∧ w' = w.alloc (.cells #[.pointer (some ⟨d, 0, none⟩)] 25) := by
  refine callsIn_of_wp Tryd.func19 rfl trivial ?_ rfl
  simp only [Tryd.ntmps19, List.size_toArray, List.length_cons, List.length_nil, Nat.reduceAdd, Nat.reduceSub, Array.replicate_succ, Array.replicate_zero, List.push_toArray, List.append_toArray, List.nil_append, List.cons_append]
  gi_wp2
  go_ret
  exact ⟨rfl, rfl⟩

set_option maxRecDepth 100000 in
set_option maxHeartbeats 2000000 in
theorem names1_gives (n : Nat) (hn : 6 ≤ n) (Bx d m F : Nat) (room : Int) (s : St) (nm : ByteArray) (bv : Value) (l : List Nat) (k : Nat) (w : World) (h : One w d m F room s nm bv l k) (hx : w.heap[Bx]? = some (.cells #[.pointer (some ⟨d, 0, none⟩)] 25 (0, 0))) :
    SeqGives Fence.wide n Tryd.prog 23 #[.pointer (some ⟨Bx, 0, none⟩)] encStr (fun ss => ss = [nm.data.toList]) 1 w := by
  intro lp J W hW hJab hY hJ0
  have ho := h.below hW
  have hxl : Bx < w.heap.size := (Array.getElem?_eq_some_iff.1 hx).1
  have hx1 := (hW.block Bx hxl).trans hx
  have c0 : W.cell? ⟨Bx, 0, none⟩ = some (.pointer (some ⟨d, 0, none⟩)) := by rw [cell_of_row W Bx 0 _ _ (0, 0) hx1]; rfl
  have hdk := ho.dk
  unfold DkAt at hdk
  have c1 : W.cell? ⟨d, 0, none⟩ = some (.map (some m)) := by rw [cell_of_row W d 0 _ _ (0, 0) hdk]; rfl
  have hn1 : 1 ≤ n := by omega
  have cK := fun W => keys_call (n - 1) m W
  have cS := sorted_call (n - 1) (by omega) m nm F W ho.files
  refine callsIn_of_wp Tryd.func23 rfl trivial ?_ rfl
  simp only [Tryd.ntmps23, List.size_toArray, List.length_cons, List.length_nil, Nat.reduceAdd, Nat.reduceSub, Array.replicate_succ, Array.replicate_zero, List.push_toArray, List.append_toArray, List.nil_append, List.cons_append]
  gi_wp2_with (first
    | (refine ⟨trivial, ?_⟩; gi_at_call 25; refine (cK _).mono ?_; rintro e w' ⟨rfl, rfl⟩)
    | (refine ⟨trivial, ?_⟩; gi_at_call 24; refine cS.mono ?_; rintro e W2 ⟨v, rfl, hrow, hb2⟩; obtain ⟨ao, cap, rfl⟩ := row_form hrow))
  obtain ⟨g, rfl⟩ : ∃ g, ao = some ⟨g, 0, none⟩ := by
    rcases hrow.2 with ⟨e, _⟩ | ⟨g, cap', cur, e, _⟩
    · cases e
    · injection e with e1 e2 e3
      exact ⟨g, e1⟩
  have q0 : W2.cell? ⟨g, 0, none⟩ = some (encStr nm.data.toList) := by
    have h1 := World.ownsRow.cells hrow (g := g) rfl 0 (encStr nm.data.toList) rfl
    rw [addr_add] at h1
    exact h1
  have hJ2 : J [] W2 := hJab _ _ _ none hJ0 ⟨hb2.os, hb2.tape, hb2.output, hb2.size, fun i hi _ => hb2.block i hi⟩ (fun r e => by cases e)
  clear hrow cK cS hJab hJ0 hx hx1 ho h hdk
  gi_loopw [12] (fun iv wr => (iv = .int .i64 0 ∧ wr = W2) ∨ (iv = .int .i64 1 ∧ J [nm.data.toList] wr)) (fun iv _ => 1 - ivOf iv)
  case atStart => exact Or.inl ⟨rfl, rfl⟩
  case round =>
    rcases hrel with ⟨rfl, rfl⟩ | ⟨rfl, hJ1⟩
    · obtain ⟨fn, tmps, assign, body, hy, hR⟩ := hY [] nm.data.toList _ hJ2 (by simp)
      gi_wp2
      refine hR.mono ?_
      rintro e W3 ⟨rfl, hJ3, hk3⟩
      gi_wp2
      go_roundw
      case rel => exact Or.inr ⟨by go_num, by simpa using hJ3⟩
      case measure => simp [ivOf]
    · gi_wp2
      go_end0
      exact ⟨⟨_, rfl⟩, _, rfl, hJ1⟩

def ColP (nm : ByteArray) (w : World) (e : Ending) (w' : World) : Prop := ∃ v, e = .returned v ∧ w'.ownsRow (w.heap.size + 1) 9 1 v 1 [encStr nm.data.toList] ∧ Below w.heap.size w w'
theorem collect_names (d m F : Nat) (room : Int) (s : St) (nm : ByteArray) (bv : Value) (l : List Nat) (k : Nat) (w : World) (h : One w d m F room s nm bv l k) :
    Calls Tryd.prog 18 #[.func (.func 23) #[] #[.pointer (some ⟨w.heap.size, 0, none⟩)]] (w.alloc (.cells #[.pointer (some ⟨d, 0, none⟩)] 25)) (ColP nm w) := by
  refine callsIn_wide (n := 9) |>.1 ?_
  have hseq := names1_gives (9 - 1 - 1) (by omega) w.heap.size d m F room s nm bv l k (w.alloc (.cells #[.pointer (some ⟨d, 0, none⟩)] 25)) (h.below ((Below.refl _ _).alloc (Nat.le_refl _) _)) (heap_alloc_new w _)
  have cC := AnyZ.collect_in layCollect Fence.wide 9 trivial trivial rfl (by omega) 23 #[.pointer (some ⟨w.heap.size, 0, none⟩)] trivial (enters_of Tryd.func23 (by kernel_rfl) rfl) _ 1 (by unfold maxLen; omega) (by omega) _ hseq
  change CallsIn _ _ Tryd.prog 18 _ _ _ at cC
  refine cC.mono ?_
  rintro e w' ⟨v, ss, rfl, rfl, hrow, _, hb⟩
  rw [World.size_alloc, show layCollect_ren.t 26 = 9 from rfl] at hrow
  exact ⟨v, rfl, by simpa using hrow, ((Below.refl _ w).alloc (Nat.le_refl _) _).trans (hb.mono (by simp))⟩
end Go.Proofs.YtihfcohebgemdaaDoor.Dsk
