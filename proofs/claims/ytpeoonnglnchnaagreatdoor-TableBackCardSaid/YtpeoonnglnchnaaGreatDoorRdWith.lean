/- RdWith. -/
import Derived.Test.YtpeoonnglnchnaaGreatDoorPkRdMore
set_option linter.unusedSectionVars false
set_option linter.unusedSimpArgs false
set_option linter.unusedVariables false
set_option maxHeartbeats 16000000
set_option maxRecDepth 100000
namespace Go.Proofs.YtpeoonnglnchnaaGreatDoor.Rd
open Go.Lib (hid)
open RowKit Mrk RegInv Mut
variable [Inhabited Lim]
abbrev OwnS (w:World) (base:Nat) (v:Value) (l:List Stp):Prop:=w.ownsRow base 39 3 v l.length (l.flatMap enS)
structure WithC (w W:World) (r k4 k5:Nat) (o:Array Value):Prop where
 grown:w.grownBy W (some r)
 h4:w.heap.size<=k4
 h5:k4<k5
 hr:r<w.heap.size
 z:W.heap[k4]?=some (.cells #[.int .i64 0,.int .i64 0,.string ⟨#[]⟩,.string ⟨#[]⟩,.string ⟨#[]⟩,.int .i64 0,.int .i64 0,.int .i64 0,.int .i64 0,.slice none 0 0] 42 (0,0))
 box:W.heap[k5]?=some (.cells o 42 (0,0))
section
variable {w W w1 : World} {r k4 k5 : Nat} {o : Array Value}
theorem WithC.call (h:WithC w W r k4 k5 o) (hg:W.grownBy w1 (some r)):WithC w w1 r k4 k5 o:=by
 obtain⟨h1,h2,h3,h4,h5,h6⟩:=h
 exact⟨h1.andThen hg (fun j hj=>Or.inr hj),h2,h3,h4,(hg.block k4 (ag0.1 h5).1 (by simp;omega)).trans h5,(hg.block k5 (ag0.1 h6).1 (by simp;omega)).trans h6⟩
theorem WithC.later (h:WithC w W r k4 k5 o) (hb:Below W.heap.size W w1):WithC w w1 r k4 k5 o:=h.call (below_grown hb)
theorem WithC.set (h:WithC w W r k4 k5 o) (i:Nat) (u:Value):WithC w (W.setCell ⟨k5,i,none⟩ u) r k4 k5 (o.setIfInBounds i u):=by
 obtain⟨h1,h2,h3,h4,h5,h6⟩:=h
 exact⟨h1.andThen (grown_cell' W k5 i u) (fun j hj=>by cases hj;exact Or.inl (by omega)),h2,h3,h4,(Below.heap_setCell W ⟨k5,i,none⟩ u k4 (by simp;omega)).trans h5,heap_setCell_same W k5 i _ _ u h6⟩
theorem WithC.row {e:TypeId} {base n sz:Nat} {v:Value} {xs:List Value} (h:WithC w W r k4 k5 o) (hv:W.ownsRow base e sz v n xs) (hbase:w.heap.size<=base) (he:42≠e) (hg:W.grownBy w1 v.ownBlock):WithC w w1 r k4 k5 o:=by
 obtain⟨h1,h2,h3,h4,h5,h6⟩:=h
 have hne:∀ (k:Nat) (c:Array Value),W.heap[k]?=some (.cells c 42 (0,0))->some k≠v.ownBlock:=fun k c hk e0=>by
  rcases hv.2 with ⟨rfl,_⟩ | ⟨g,cap,cur,rfl,_,hg0,_⟩
  . cases e0
  ·
   have e2:k=g:=by simpa [Value.ownBlock] using e0
   subst e2
   rw [hk] at hg0
   simp at hg0
   exact he hg0.2
 exact⟨h1.andThen hg (fun j hj=>Or.inl (Nat.le_trans hbase (World.ownsRow.lt hv j hj).1)),h2,h3,h4,(hg.block k4 (ag0.1 h5).1 (hne k4 _ h5)).trans h5,(hg.block k5 (ag0.1 h6).1 (hne k5 _ h6)).trans h6⟩
theorem WithC.away {e:TypeId} {base n sz:Nat} {v:Value} {xs:List Value} (h:WithC w W r k4 k5 o) (hv:W.ownsRow base e sz v n xs) (he:42≠e):v.ownBlock≠some k5/\v.ownBlock≠some k4:=by
 obtain⟨h1,h2,h3,h4,h5,h6⟩:=h
 have hne:∀ (k:Nat) (c:Array Value),W.heap[k]?=some (.cells c 42 (0,0))->v.ownBlock≠some k:=fun k c hk e0=>by
  rcases hv.2 with ⟨rfl,_⟩ | ⟨g,cap,cur,rfl,_,hg0,_⟩
  . cases e0
  ·
   have e2:g=k:=by simpa [Value.ownBlock] using e0
   subst e2
   rw [hk] at hg0
   simp at hg0
   exact he hg0.2
 exact⟨hne k5 _ h6,hne k4 _ h5⟩
theorem WithC.cell (h:WithC w W r k4 k5 o) (i:Nat):W.cell? ⟨k5,i,none⟩=o[i]?:=cell_of_row W k5 i o _ (0,0) h.box
theorem WithC.frz (h:WithC w W r k4 k5 o) (i:Nat):W.frozen? ⟨k5,i,none⟩=false:=frozen_of_row W k5 i o _ h.box
end
theorem Rdr.set5 {w0 w:World} {r k:Nat} {v:Value} {B:List Nat} {s:S} (h:Rdr w r v B s) (hv:B≠[]->∀ ad n c,v=.slice (some ad) n c->ad.block<w0.heap.size) (hr:r<w0.heap.size) (hk:w0.heap.size<=k) (i:Nat) (u:Value):Rdr (w.setCell ⟨k,i,none⟩ u) r v B s:=
 h.apart (grown_cell' w k i u) (by omega) (fun hb ad n c e=>by have:=hv hb ad n c e;omega)
theorem Rdr.aside {w w':World} {r:Nat} {v:Value} {B:List Nat} {s:S} {row:Option Nat} (h:Rdr w r v B s) (hg:w.grownBy w' row) (hr:∀ k,row=some k->r≠k) (hv:∀ k,row=some k->B≠[]->∀ ad n c,v=.slice (some ad) n c->ad.block≠k):Rdr w' r v B s:=by
 cases row with
 | none=>exact h.below ⟨hg.os,hg.tape,hg.output,hg.size,fun j hj=>hg.block j hj (by simp)⟩
 | some k=>exact h.apart hg (hr k rfl) (hv k rfl)
theorem keeps_by2 {ops:Array Oper} {S:List RSpec} {Com:World->Prop} {n:Nat} {U:List (Nat × Nat)} {c1 c2 i:Nat} {X1 X2:World->Prop} {V:Vals} {w w':World} (hC:Com w') (h1:(i == c1 || RegLin.anc ops n i c1)=true\/(X1 w->X1 w')) (h2:(i == c2 || RegLin.anc ops n i c2)=true\/(X2 w->X2 w')) (hT:∀ j,j<n->j≠i->RegLin.liveB ops n U i j=true->RegInv.Told ops S j V w->RegInv.Told ops S j V w') :
  RegLin.Keeps ops S Com (fun j W=>(j=c1->X1 W)/\(j=c2->X2 W)) (RegLin.useL U) n i V w w':=by
 have k:=RegLin.keeps_by (ops:=ops) (S:=S) (Com:=Com) (U:=U) (c:=i) (X:=fun _=>True) (V:=V) (w:=w) hC (by simp) hT
 refine⟨hC,fun j hj hne ha h=>⟨fun e=>?_,fun e=>?_⟩,k.2.2⟩
 ·
  subst e
  rcases h1 with h1 | h1
  ·
   rw [ha,Bool.or_false,beq_iff_eq] at h1
   exact absurd h1.symm hne
  . exact h1 (h.1 rfl)
 ·
  subst e
  rcases h2 with h2 | h2
  ·
   rw [ha,Bool.or_false,beq_iff_eq] at h2
   exact absurd h2.symm hne
  . exact h2 (h.2 rfl)
theorem strOf_size (l:List Nat):(strOf l).size=l.length:=by
 have key:∀ (l:List Int) (acc:ByteArray),(l.foldl (fun r n=>r.push (UInt8.ofNat n.toNat)) acc).size=acc.size+l.length:=by
  intro l
  induction l with
  | nil=>intro acc;rfl
  | cons x l ih=>intro acc;rw [List.foldl_cons,ih,ByteArray.size_push,List.length_cons];omega
 unfold strOf
 rw [key,lm0]
 show 0+l.length=_
 omega
theorem textS_size (B:List Nat) (most:Int) (hm:0<=most) (s:S):((textS B most s).1.size:Int)<=most:=by
 unfold textS
 split
 ·
  split
  . exact hm
  ·
   split
   . exact hm
   ·
    show ((strOf _).size:Int)<=most
    rw [strOf_size,List.length_take]
    omega
 . exact hm
def WithP (r:Nat) (v:Value) (B:List Nat) (q:Mu × S) (w:World) (e:Ending) (w':World):Prop:=
 ∃ ov,e=.returned (vM (q.1,ov))/\OwnS w' w.heap.size ov q.1.over/\Rdr w' r v B q.2/\w.grownBy w' (some r)
theorem fin_put {w W:World} {r k4:Nat} {v ov:Value} {B:List Nat} {m:Mu} {q:S} (h1:w.grownBy W (some r)) (h2:w.heap.size<=k4) (h4:r<w.heap.size) (h5:W.heap[k4]?=some (.cells #[.int .i64 0,.int .i64 0,.string ⟨#[]⟩,.string ⟨#[]⟩,.string ⟨#[]⟩,.int .i64 0,.int .i64 0,.int .i64 0,.int .i64 0,.slice none 0 0] 42 (0,0))) (hrd:Rdr W r v B q) (hv:B≠[]->∀ ad n c,v=.slice (some ad) n c->ad.block<w.heap.size)
  (hown:W.ownsRow w.heap.size 39 3 ov m.over.length (m.over.flatMap enS)) (hne:ov.ownBlock=none\/ov.ownBlock≠some k4) (c0 c1 c2 c3 c4 c5 c6 c7 c8 c9:Value) (hvm:vM (m,ov)=.agg #[c0,c1,c2,c3,c4,c5,c6,c7,c8,c9]) (W':World)
  (hW:W'=(((((((((W.setCell (Addr.mk k4 0 none) c0).setCell (Addr.mk k4 1 none) c1).setCell (Addr.mk k4 2 none) c2).setCell (Addr.mk k4 3 none) c3).setCell (Addr.mk k4 4 none) c4).setCell (Addr.mk k4 5 none) c5).setCell (Addr.mk k4 6 none) c6).setCell (Addr.mk k4 7 none) c7).setCell (Addr.mk k4 8 none) c8).setCell (Addr.mk k4 9 none) c9) :
  WithP r v B (m,q) w (.returned (.agg #[c0,c1,c2,c3,c4,c5,c6,c7,c8,c9])) W'/\W'.heap[k4]?=some (.cells #[c0,c1,c2,c3,c4,c5,c6,c7,c8,c9] 42 (0,0)):=by
 have hg:W.grownBy W' (some k4):=by
  rw [hW]
  have g:∀ (a:World) (i:Nat) (u:Value),W.grownBy a (some k4)->W.grownBy (a.setCell ⟨k4,i,none⟩ u) (some k4):=fun a i u ha=>ha.andThen (grown_cell' a k4 i u) (fun j hj=>Or.inr hj)
  exact g _ 9 _ (g _ 8 _ (g _ 7 _ (g _ 6 _ (g _ 5 _ (g _ 4 _ (g _ 3 _ (g _ 2 _ (g _ 1 _ (g _ 0 _ (World.grownBy.refl _ _))))))))))
 obtain⟨w0,e0⟩:∃ a,a=(W).setCell (Addr.mk k4 0 none) c0:=⟨_,rfl⟩
 have z0:w0.heap[k4]?=some (.cells #[c0,.int .i64 0,.string ⟨#[]⟩,.string ⟨#[]⟩,.string ⟨#[]⟩,.int .i64 0,.int .i64 0,.int .i64 0,.int .i64 0,.slice none 0 0] 42 (0,0)):=by rw [e0];exact heap_setCell_same _ k4 0 _ _ c0 h5
 obtain⟨w1,e1⟩:∃ a,a=(w0).setCell (Addr.mk k4 1 none) c1:=⟨_,rfl⟩
 have z1:w1.heap[k4]?=some (.cells #[c0,c1,.string ⟨#[]⟩,.string ⟨#[]⟩,.string ⟨#[]⟩,.int .i64 0,.int .i64 0,.int .i64 0,.int .i64 0,.slice none 0 0] 42 (0,0)):=by rw [e1];exact heap_setCell_same _ k4 1 _ _ c1 z0
 obtain⟨w2,e2⟩:∃ a,a=(w1).setCell (Addr.mk k4 2 none) c2:=⟨_,rfl⟩
 have z2:w2.heap[k4]?=some (.cells #[c0,c1,c2,.string ⟨#[]⟩,.string ⟨#[]⟩,.int .i64 0,.int .i64 0,.int .i64 0,.int .i64 0,.slice none 0 0] 42 (0,0)):=by rw [e2];exact heap_setCell_same _ k4 2 _ _ c2 z1
 obtain⟨w3,e3⟩:∃ a,a=(w2).setCell (Addr.mk k4 3 none) c3:=⟨_,rfl⟩
 have z3:w3.heap[k4]?=some (.cells #[c0,c1,c2,c3,.string ⟨#[]⟩,.int .i64 0,.int .i64 0,.int .i64 0,.int .i64 0,.slice none 0 0] 42 (0,0)):=by rw [e3];exact heap_setCell_same _ k4 3 _ _ c3 z2
 obtain⟨w4,e4⟩:∃ a,a=(w3).setCell (Addr.mk k4 4 none) c4:=⟨_,rfl⟩
 have z4:w4.heap[k4]?=some (.cells #[c0,c1,c2,c3,c4,.int .i64 0,.int .i64 0,.int .i64 0,.int .i64 0,.slice none 0 0] 42 (0,0)):=by rw [e4];exact heap_setCell_same _ k4 4 _ _ c4 z3
 obtain⟨w5,e5⟩:∃ a,a=(w4).setCell (Addr.mk k4 5 none) c5:=⟨_,rfl⟩
 have z5:w5.heap[k4]?=some (.cells #[c0,c1,c2,c3,c4,c5,.int .i64 0,.int .i64 0,.int .i64 0,.slice none 0 0] 42 (0,0)):=by rw [e5];exact heap_setCell_same _ k4 5 _ _ c5 z4
 obtain⟨w6,e6⟩:∃ a,a=(w5).setCell (Addr.mk k4 6 none) c6:=⟨_,rfl⟩
 have z6:w6.heap[k4]?=some (.cells #[c0,c1,c2,c3,c4,c5,c6,.int .i64 0,.int .i64 0,.slice none 0 0] 42 (0,0)):=by rw [e6];exact heap_setCell_same _ k4 6 _ _ c6 z5
 obtain⟨w7,e7⟩:∃ a,a=(w6).setCell (Addr.mk k4 7 none) c7:=⟨_,rfl⟩
 have z7:w7.heap[k4]?=some (.cells #[c0,c1,c2,c3,c4,c5,c6,c7,.int .i64 0,.slice none 0 0] 42 (0,0)):=by rw [e7];exact heap_setCell_same _ k4 7 _ _ c7 z6
 obtain⟨w8,e8⟩:∃ a,a=(w7).setCell (Addr.mk k4 8 none) c8:=⟨_,rfl⟩
 have z8:w8.heap[k4]?=some (.cells #[c0,c1,c2,c3,c4,c5,c6,c7,c8,.slice none 0 0] 42 (0,0)):=by rw [e8];exact heap_setCell_same _ k4 8 _ _ c8 z7
 obtain⟨w9,e9⟩:∃ a,a=(w8).setCell (Addr.mk k4 9 none) c9:=⟨_,rfl⟩
 have z9:w9.heap[k4]?=some (.cells #[c0,c1,c2,c3,c4,c5,c6,c7,c8,c9] 42 (0,0)):=by rw [e9];exact heap_setCell_same _ k4 9 _ _ c9 z8
 have hz:W'.heap[k4]?=some (.cells #[c0,c1,c2,c3,c4,c5,c6,c7,c8,c9] 42 (0,0)):=by rw [hW,<-e0,<-e1,<-e2,<-e3,<-e4,<-e5,<-e6,<-e7,<-e8,<-e9];exact z9
 refine⟨⟨ov,by rw [hvm],World.ownsRow.kept hown hg hne,hrd.apart hg (by omega) (fun hb ad n c e=>by have:=hv hb ad n c e;omega),h1.andThen hg (fun j hj=>by cases hj;exact Or.inl h2)⟩,hz⟩
theorem WithC.fin {w W:World} {r k4 k5:Nat} {o:Array Value} {v ov:Value} {B:List Nat} {m:Mu} {q:S} (h:WithC w W r k4 k5 o) (hrd:Rdr W r v B q) (hv:B≠[]->∀ ad n c,v=.slice (some ad) n c->ad.block<w.heap.size)
  (hown:W.ownsRow w.heap.size 39 3 ov m.over.length (m.over.flatMap enS)) (hne:ov.ownBlock=none\/ov.ownBlock≠some k4) (c0 c1 c2 c3 c4 c5 c6 c7 c8 c9:Value) (hvm:vM (m,ov)=.agg #[c0,c1,c2,c3,c4,c5,c6,c7,c8,c9]) (W':World)
  (hW:W'=(((((((((W.setCell (Addr.mk k4 0 none) c0).setCell (Addr.mk k4 1 none) c1).setCell (Addr.mk k4 2 none) c2).setCell (Addr.mk k4 3 none) c3).setCell (Addr.mk k4 4 none) c4).setCell (Addr.mk k4 5 none) c5).setCell (Addr.mk k4 6 none) c6).setCell (Addr.mk k4 7 none) c7).setCell (Addr.mk k4 8 none) c8).setCell (Addr.mk k4 9 none) c9) :
  WithP r v B (m,q) w (.returned (.agg #[c0,c1,c2,c3,c4,c5,c6,c7,c8,c9])) W'/\W'.heap[k4]?=some (.cells #[c0,c1,c2,c3,c4,c5,c6,c7,c8,c9] 42 (0,0)):=
 fin_put h.grown h.h4 h.hr h.z hrd hv hown hne c0 c1 c2 c3 c4 c5 c6 c7 c8 c9 hvm W' hW
theorem with_any (r:Nat) (v:Value) (B:List Nat) (key:ByteArray) (s:S) (w:World) (wb:World) (h:Rdr w r v B s) (hB:∀ c∈B,c<256) (hT:Tabs wb) (hbw:Below wb.heap.size wb w) (hrb:wb.heap.size<=r) (hk:key.size<=1000000) :
  Calls Tryz.prog 142 #[pR r,.string key] w (WithP r v B (withS B key s) w):=by
 have HNU:=hid (fun (s:S) (w1:World) (h:Rdr w1 r v B s)=>num_any r v B s w1 h hB)
 have HTX:=hid (fun (most:Int) (s:S) (w1:World) (h:Rdr w1 r v B s)=>text_any r v B most s w1 h hB)
 have HGE:=hid (fun (s:S) (w1:World) (h:Rdr w1 r v B s)=>get_any r v B s w1 h hB)
 have HCO:=hid (fun (most:Int) (s:S) (w1:World) (h:Rdr w1 r v B s)=>count_any r v B most s w1 h hB)
 have HVL:=hid (show B≠[]->∀ ad n c,v=.slice (some ad) n c->ad.block<w.heap.size from fun hb ad n c e=>h.vlow hb ad n c e)
 have hrw:r<w.heap.size:=h.lt
 have HT:=hid (show ∀ W,w.grownBy W (some r)->Tabs W from fun W hg=>hT.below (hbw.grown hg hbw.size (fun j hj=>by cases hj;exact hrb)))
 obtain⟨sa,hsa⟩:∃ x,x=numS B s:=⟨_,rfl⟩
 obtain⟨sb,hsb⟩:∃ x,x=numS B sa.2:=⟨_,rfl⟩
 obtain⟨sc,hsc⟩:∃ x,x=textS B 24 sb.2:=⟨_,rfl⟩
 obtain⟨sd,hsd⟩:∃ x,x=textS B 64 sc.2:=⟨_,rfl⟩
 obtain⟨se,hse⟩:∃ x,x=numS B sd.2:=⟨_,rfl⟩
 obtain⟨sf,hsf⟩:∃ x,x=getS B se.2:=⟨_,rfl⟩
 obtain⟨sg,hsg⟩:∃ x,x=countS B 24 sf.2:=⟨_,rfl⟩
 have HRAW:=hid (show rawS B key s=(⟨sa.1,sb.1,key,sc.1,sd.1,se.1,stOf sf.1,(oversS B sg.1 sg.2).1⟩,(oversS B sg.1 sg.2).2) from by unfold rawS;rw [hsg,hsf,hse,hsd,hsc,hsb,hsa])
 have HN1:=hid (show ∀ w1,Rdr w1 r v B s->Calls Tryz.prog 69 #[pR r] w1 (RdP r v B sa.2 (.int .i64 (sa.1:Nat)) w1) from fun w1 h=>by rw [hsa];exact HNU.out s w1 h)
 have HN2:=hid (show ∀ w1,Rdr w1 r v B sa.2->Calls Tryz.prog 69 #[pR r] w1 (RdP r v B sb.2 (.int .i64 (sb.1:Nat)) w1) from fun w1 h=>by rw [hsb];exact HNU.out _ w1 h)
 have HN3:=hid (show ∀ w1,Rdr w1 r v B sb.2->Calls Tryz.prog 34 #[pR r,.int .i64 24] w1 (RdP r v B sc.2 (.string sc.1) w1) from fun w1 h=>by rw [hsc];exact HTX.out 24 _ w1 h)
 have HN4:=hid (show ∀ w1,Rdr w1 r v B sc.2->Calls Tryz.prog 34 #[pR r,.int .i64 64] w1 (RdP r v B sd.2 (.string sd.1) w1) from fun w1 h=>by rw [hsd];exact HTX.out 64 _ w1 h)
 have HN5:=hid (show ∀ w1,Rdr w1 r v B sd.2->Calls Tryz.prog 69 #[pR r] w1 (RdP r v B se.2 (.int .i64 (se.1:Nat)) w1) from fun w1 h=>by rw [hse];exact HNU.out _ w1 h)
 have HN6:=hid (show ∀ w1,Rdr w1 r v B se.2->Calls Tryz.prog 168 #[pR r] w1 (RdP r v B sf.2 (.agg #[.int .i64 (sf.1.1:Nat),.int .i64 (sf.1.2.1:Nat),.int .i64 (sf.1.2.2:Nat)]) w1) from fun w1 h=>by rw [hsf];exact HGE.out _ w1 h)
 have HN7:=hid (show ∀ w1,Rdr w1 r v B sf.2->Calls Tryz.prog 33 #[pR r,.int .i64 24] w1 (RdP r v B sg.2 (.int .i64 (sg.1:Nat)) w1) from fun w1 h=>by rw [hsg];exact HCO.out 24 _ w1 h)
 have HSG:=hid (show ∀ w1,Rdr w1 r v B sf.2->sg.1<=24 from fun w1 h=>by have h2:=(countS_ok B 24 sf.2 h.at_).2.2;rw [<-hsg] at h2;omega)
 have HR:=hid h
 have HCS:=hid (show sc.1.size<=1000000 from by rw [hsc];have h:=textS_size B 24 (by decide) sb.2;omega)
 have HDS:=hid (show sd.1.size<=1000000 from by rw [hsd];have h:=textS_size B 64 (by decide) sc.2;omega)
 clear h hT hbw hrb hsa hsb hsc hsd hse hsf hsg
 obtain⟨a,ta⟩:=sa
 obtain⟨b,tb⟩:=sb
 obtain⟨c,tc⟩:=sc
 obtain⟨d,td⟩:=sd
 obtain⟨x,te⟩:=se
 obtain⟨⟨p,l,q⟩,tf⟩:=sf
 obtain⟨m,tg⟩:=sg
 simp only [] at HN1 HN2 HN3 HN4 HN5 HN6 HN7 HRAW HSG HCS HDS
 obtain⟨W0,hW0⟩:∃ W,W=w.alloc (.cells #[.int .i64 0,.int .i64 0,.string ⟨#[]⟩,.string ⟨#[]⟩,.string ⟨#[]⟩,.int .i64 0,.int .i64 0,.int .i64 0,.int .i64 0,.slice none 0 0] 42):=⟨_,rfl⟩
 obtain⟨k4,hk4⟩:∃ k,k=w.heap.size:=⟨_,rfl⟩
 have hb0:Below w.heap.size w W0:=by rw [hW0];exact br.alloc lr _
 have HZ0:=hid (show W0.heap[k4]?=some (.cells #[.int .i64 0,.int .i64 0,.string ⟨#[]⟩,.string ⟨#[]⟩,.string ⟨#[]⟩,.int .i64 0,.int .i64 0,.int .i64 0,.int .i64 0,.slice none 0 0] 42 (0,0)) from by rw [hW0,hk4];exact heap_alloc_new w _)
 have HR0:=hid (HR.out.below hb0)
 have HG0:=hid (show w.grownBy W0 (some r) from below_grown hb0)
 have HW0:=hid hW0
 have HK4:=hid hk4
 clear hW0 hk4 hb0
 go_enter Tryz.func142,Tryz.ntmps142
 go_upto_region 1 with fail
 rw [<-HW0.out,<-HK4.out]
 go_wp2_with fail
 refine (HN1.out W0 HR0.out).mono ?_
 rintro e w1 ⟨rfl,hr1,hg1⟩
 have HR1:=hid hr1
 have HG1:=hid (HG0.out.andThen hg1 (fun j hj=>Or.inr hj))
 have HZ1:=hid ((hg1.block k4 (ag0.1 HZ0.out).1 (by rw [HK4.out];simp;omega)).trans HZ0.out)
 clear hr1 hg1
 go_wp2_with fail
 refine (HN2.out w1 HR1.out).mono ?_
 rintro e w2 ⟨rfl,hr2,hg2⟩
 have HR2:=hid hr2
 have HG2:=hid (HG1.out.andThen hg2 (fun j hj=>Or.inr hj))
 have HZ2:=hid ((hg2.block k4 (ag0.1 HZ1.out).1 (by rw [HK4.out];simp;omega)).trans HZ1.out)
 clear hr2 hg2
 go_upto_region 2 with fail
 obtain⟨k5,hk5⟩:∃ k,k=w2.heap.size:=⟨_,rfl⟩
 obtain⟨W3,hW3⟩:∃ W,W=w2.alloc (.cells #[.int .i64 (a:Nat),.int .i64 (b:Nat),.string key,.string ⟨#[]⟩,.string ⟨#[]⟩,.int .i64 0,.int .i64 0,.int .i64 0,.int .i64 0,.slice none 0 0] 42):=⟨_,rfl⟩
 rw [<-hW3,<-hk5]
 have hb3:Below w2.heap.size w2 W3:=by rw [hW3];exact br.alloc lr _
 have hk45:k4<k5:=by rw [hk5];exact (ag0.1 HZ2.out).1
 have HC3:=hid (show WithC w W3 r k4 k5 #[.int .i64 (a:Nat),.int .i64 (b:Nat),.string key,.string ⟨#[]⟩,.string ⟨#[]⟩,.int .i64 0,.int .i64 0,.int .i64 0,.int .i64 0,.slice none 0 0] from
  ⟨HG2.out.andThen (below_grown (row:=some r) hb3) (fun j hj=>Or.inr hj),by rw [HK4.out];exact Nat.le_refl _,hk45,hrw,(hb3.block k4 (ag0.1 HZ2.out).1).trans HZ2.out,by rw [hW3,hk5];exact heap_alloc_new w2 _⟩)
 have hk5w:w.heap.size<=k5:=by have h:=HK4.out;omega
 have HR3:=hid (HR2.out.below hb3)
 clear hb3 hW3 hk5 HR0 HR1 HR2 HG0 HG1 HG2 HZ0 HZ1 HZ2 HN1 HN2
 go_wp2_with fail
 refine (HN3.out W3 HR3.out).mono ?_
 rintro e w4 ⟨rfl,hr4,hg4⟩
 have HR4:=hid hr4
 have HC4:=hid (HC3.out.call hg4)
 clear hr4 hg4
 go_wp2_with fail
 refine (HN4.out w4 HR4.out).mono ?_
 rintro e w5 ⟨rfl,hr5,hg5⟩
 have HR5:=hid hr5
 have HC5:=hid (HC4.out.call hg5)
 have a3:=HC5.out.cell 3
 have a4:=HC5.out.cell 4
 have f3:=HC5.out.frz 3
 have f4:=HC5.out.frz 4
 simp at a3 a4
 clear hr5 hg5
 go_upto_region 3 with fail
 obtain⟨W6,hW6⟩:∃ W,W=(w5.setCell ⟨k5,3,none⟩ (.string c)).setCell ⟨k5,4,none⟩ (.string d):=⟨_,rfl⟩
 rw [<-hW6]
 have HC6:=hid (show WithC w W6 r k4 k5 #[.int .i64 (a:Nat),.int .i64 (b:Nat),.string key,.string c,.string d,.int .i64 0,.int .i64 0,.int .i64 0,.int .i64 0,.slice none 0 0] from by
  rw [hW6];exact (HC5.out.set 3 (.string c)).set 4 (.string d))
 have HR6:=hid (show Rdr W6 r v B td from by rw [hW6];exact (HR5.out.set5 HVL.out hrw hk5w _ _).set5 HVL.out hrw hk5w _ _)
 clear hW6 a3 a4 f3 f4 HR3 HR4 HR5 HC3 HC4 HC5
 go_wp2_with fail
 refine (HN5.out W6 HR6.out).mono ?_
 rintro e w7 ⟨rfl,hr7,hg7⟩
 have HR7:=hid hr7
 have HC7:=hid (HC6.out.call hg7)
 have a5:=HC7.out.cell 5
 have f5:=HC7.out.frz 5
 simp at a5
 clear hr7 hg7
 go_upto_region 4 with fail
 obtain⟨W8,hW8⟩:∃ W,W=w7.setCell ⟨k5,5,none⟩ (.int .i64 (x:Nat)):=⟨_,rfl⟩
 rw [<-hW8]
 have HC8:=hid (show WithC w W8 r k4 k5 #[.int .i64 (a:Nat),.int .i64 (b:Nat),.string key,.string c,.string d,.int .i64 (x:Nat),.int .i64 0,.int .i64 0,.int .i64 0,.slice none 0 0] from by
  rw [hW8];exact HC7.out.set 5 _)
 have HR8:=hid (show Rdr W8 r v B te from by rw [hW8];exact HR7.out.set5 HVL.out hrw hk5w _ _)
 clear hW8 a5 f5 HR6 HR7 HC6 HC7
 go_wp2_with fail
 refine (HN6.out W8 HR8.out).mono ?_
 rintro e w9 ⟨rfl,hr9,hg9⟩
 have HR9:=hid hr9
 have HC9:=hid (HC8.out.call hg9)
 have a6:=HC9.out.cell 6
 have a7:=HC9.out.cell 7
 have a8:=HC9.out.cell 8
 have f6:=HC9.out.frz 6
 have f7:=HC9.out.frz 7
 have f8:=HC9.out.frz 8
 simp at a6 a7 a8
 clear hr9 hg9
 go_upto_region 5 with fail
 obtain⟨WA,hWA⟩:∃ W,W=((w9.setCell ⟨k5,6,none⟩ (.int .i64 (p:Nat))).setCell ⟨k5,7,none⟩ (.int .i64 (l:Nat))).setCell ⟨k5,8,none⟩ (.int .i64 (q:Nat)):=⟨_,rfl⟩
 rw [<-hWA]
 have HCA:=hid (show WithC w WA r k4 k5 #[.int .i64 (a:Nat),.int .i64 (b:Nat),.string key,.string c,.string d,.int .i64 (x:Nat),.int .i64 (p:Nat),.int .i64 (l:Nat),.int .i64 (q:Nat),.slice none 0 0] from by
  rw [hWA];exact ((HC9.out.set 6 _).set 7 _).set 8 _)
 have HRA:=hid (show Rdr WA r v B tf from by rw [hWA];exact ((HR9.out.set5 HVL.out hrw hk5w _ _).set5 HVL.out hrw hk5w _ _).set5 HVL.out hrw hk5w _ _)
 have hm24:=HSG.out WA HRA.out
 clear hWA a6 a7 a8 f6 f7 f8 HR8 HR9 HC8 HC9
 go_wp2_with fail
 refine (HN7.out WA HRA.out).mono ?_
 rintro e wB ⟨rfl,hrB,hgB⟩
 have HRB:=hid hrB
 have HCB:=hid (HCA.out.call hgB)
 clear hrB hgB HRA HCA
 go_wp2_with fail
 go_loopw [26] (fun iv wr=>∃ (i:Nat) (O:List Stp) (qs:S) (vo:Option Addr) (vc:Nat),i<=m/\iv=.int .i64 i/\Hid (oversS B i tg=(O,qs))/\Hid (Rdr wr r v B qs)/\Hid (WithC w wr r k4 k5 (#[.int .i64 (a:Nat),.int .i64 (b:Nat),.string key,.string c,.string d,.int .i64 (x:Nat),.int .i64 (p:Nat),.int .i64 (l:Nat),.int .i64 (q:Nat),.slice vo i vc]))/\Hid (wr.ownsRow w.heap.size 39 3 (.slice vo i vc) i (O.flatMap enS))/\Hid (O.length=i)) (fun iv _=>m - (intOf iv).toNat)
 case atStart=>exact⟨0,[],tg,none,0,by omega,rfl,hid rfl,HRB,HCB,hid (World.ownsRow_nil _ _ _ _),hid rfl⟩
 case round=>
  obtain⟨i,O,qs,vo,vc,hi,rfl,hov,hrd,hcm,hrow,hol⟩:=hrel
  by_cases hlt:i<m
  ·
   obtain⟨gq,hgq⟩:∃ x,x=getS B qs:=⟨_,rfl⟩
   have HGQ:=hid (show ∀ w1,Rdr w1 r v B qs->Calls Tryz.prog 168 #[pR r] w1 (RdP r v B gq.2 (.agg #[.int .i64 (gq.1.1:Nat),.int .i64 (gq.1.2.1:Nat),.int .i64 (gq.1.2.2:Nat)]) w1) from fun w1 h=>by rw [hgq];exact HGE.out _ w1 h)
   have HOV:=hid (show oversS B (i+1) tg=(O++[stOf gq.1],gq.2) from by rw [oversS_snoc,hov.out,hgq])
   clear hgq hov
   obtain⟨⟨gp,gl,gw⟩,q'⟩:=gq
   simp only [] at HGQ HOV
   obtain⟨i0,hi0,hz0,hz1,hz2⟩:=info_parts info_S
   have HI:=hid (And.intro hi0 (And.intro hz0 (And.intro hz1 hz2)))
   clear hi0 hz0 hz1 hz2
   have hsW:w.heap.size<=wr.heap.size:=hcm.out.grown.size
   go_upto_region 7 with fail
   have hcm2:∀ wa wb,(fun W=>WithC w W r k4 k5 #[.int .i64 (a:Nat),.int .i64 (b:Nat),.string key,.string c,.string d,.int .i64 (x:Nat),.int .i64 (p:Nat),.int .i64 (l:Nat),.int .i64 (q:Nat),.slice vo i vc]) wa->Below wa.heap.size wa wb->(fun W=>WithC w W r k4 k5 #[.int .i64 (a:Nat),.int .i64 (b:Nat),.string key,.string c,.string d,.int .i64 (x:Nat),.int .i64 (p:Nat),.int .i64 (l:Nat),.int .i64 (q:Nat),.slice vo i vc]) wb:=fun wa wb h hb=>h.later hb
   have hpr2:∀ (j:Nat) (wa wb:World),((j=3->(fun W=>Rdr W r v B qs) wa)/\(j=5->(fun W=>W.ownsRow w.heap.size 39 3 (.slice vo i vc) i (O.flatMap enS)) wa))->Below wa.heap.size wa wb->((j=3->(fun W=>Rdr W r v B qs) wb)/\(j=5->(fun W=>W.ownsRow w.heap.size 39 3 (.slice vo i vc) i (O.flatMap enS)) wb)):=fun j wa wb h hb=>⟨fun e=>(h.1 e).below hb,fun e=>row_below (h.2 e) hb⟩
   refine RegLin.wp_region_lin (RegLin.useL [(4,5)]) (fun W=>WithC w W r k4 k5 #[.int .i64 (a:Nat),.int .i64 (b:Nat),.string key,.string c,.string d,.int .i64 (x:Nat),.int .i64 (p:Nat),.int .i64 (l:Nat),.int .i64 (q:Nat),.slice vo i vc]) (fun j W=>(j=3->(fun W=>Rdr W r v B qs) W)/\(j=5->(fun W=>W.ownsRow w.heap.size 39 3 (.slice vo i vc) i (O.flatMap enS)) W)) 7 [false,false,false,false,false,false,false,false,false,false,false,false,false,false,false,false,false,false,false,false,false,false,false,false,false,false,false,false,true,true,true,true,true,true,true,false,false,false,false,false,false,false,false,false,false,false,false,false,false,false,false]
    [sLit (.pointer (some ⟨k5,9,none⟩)),
  sLit (.slice vo i vc),
  sLit (pR r),
  sOne (fun v1 W=>v1=.agg #[.int .i64 (gp:Nat),.int .i64 (gl:Nat),.int .i64 (gw:Nat)]/\Rdr W r v B q') (fun _ _ _ h hb=>⟨h.1,h.2.below hb⟩),
  sOne (fun v1 W=>∃ g,v1=.slice (some ⟨g,0,none⟩) 1 1/\g<W.heap.size/\∀ (j:Nat) (u:Value),([.int .i64 (gp:Nat),.int .i64 (gl:Nat),.int .i64 (gw:Nat)]:List Value)[j]?=some u->W.cell? ((⟨g,0,none⟩:Addr).add j)=some u) (fun _ _ _ h hb=>by obtain⟨g,h1,h2,h3⟩:=h;exact⟨g,h1,Nat.lt_of_lt_of_le h2 hb.size,fun j u hu=>(World.cell?_of_block (a:=(⟨g,0,none⟩:Addr).add j) (by rw [addr_add];exact hb.block g h2)).trans (h3 j u hu)⟩),
  sOne (fun v1 W=>∃ ao cp,v1=.slice ao (i+1) cp/\W.ownsRow w.heap.size 39 3 (.slice ao (i+1) cp) (i+1) (O.flatMap enS++[.int .i64 (gp:Nat),.int .i64 (gl:Nat),.int .i64 (gw:Nat)])) (fun _ _ _ h hb=>by obtain⟨ao,cp,e,h⟩:=h;exact⟨ao,cp,e,row_below h hb⟩),
  sLit (.pointer (some ⟨k5,9,none⟩))] (hcm.out.later br.drew) (fun j _=>⟨fun _=>hrd.out.below br.drew,fun _=>row_below hrow.out br.drew⟩) (by kernel_rfl) (by kernel_rfl) (by kernel_rfl) (by kernel_rfl) (fun F hF=>?_)
   simp only [over,overL,Nat.reduceAdd] at hF
   obtain rfl:=funext hF
   clear hF
   refine⟨⟨?_,?_,?_,?_,?_,?_,?_,trivial⟩,?_⟩
   ·
    intro V W hc hp hd K hK _
    clear hd
    go_wp2_with fail
    exact hK _ _ rfl (RegLin.keeps_below hcm2 hpr2 hc br) rfl
   ·
    intro V W hc hp hd K hK _
    have h0:(V 28)=.pointer (some ⟨k5,9,none⟩):=(RegLin.ask hd 0:)
    clear hd
    obtain m9:=(show W.cell? ⟨k5,9,none⟩=some (.slice vo i vc) from hc.cell 9)
    go_wp2_with fail
    exact hK _ _ rfl (RegLin.keeps_below hcm2 hpr2 hc br) rfl
   ·
    intro V W hc hp hd K hK _
    clear hd
    go_wp2_with fail
    exact hK _ _ rfl (RegLin.keeps_below hcm2 hpr2 hc br) rfl
   ·
    intro V W hc hp hd K hK _
    have h2:(V 30)=pR r:=(RegLin.ask hd 2:)
    clear hd
    skip
    have HRQ:=hid (hp.1 rfl)
    have HC:=hid hc
    clear hp hc
    go_wp2_with fail
    refine (HGQ.out W HRQ.out).mono ?_
    rintro e w1 ⟨rfl,hr1,hg1⟩
    go_wp2_with fail
    refine hK _ _ ?_ ?_ ?_
    . rfl
    ·
     refine keeps_by2 (HC.out.call hg1) (Or.inl (by kernel_rfl)) (Or.inr fun hx=>World.ownsRow.kept hx hg1 (Or.inr fun e=>by have h2:=(World.ownsRow.lt hx _ e).1;omega)) (fun j hj hne hl h=>?_)
     iterate 7 (rcases j with _ | j;first | exact h | exact absurd rfl hne | exact RegLin.dead hl)
     exact absurd hj (by omega)
    . exact⟨rfl,hr1⟩
   ·
    intro V W hc hp hd K hK _
    have h3:(V 31)=.agg #[.int .i64 (gp:Nat),.int .i64 (gl:Nat),.int .i64 (gw:Nat)]/\Rdr W r v B q':=(RegLin.ask hd 3:)
    clear hd
    obtain⟨e3,hr3⟩:=h3
    have HC:=hid hc
    clear hc hp hr3
    go_wp2_with fail
    refine hK _ _ ?_ ?_ ?_
    . rfl
    . exact RegLin.keeps_below hcm2 hpr2 HC.out (br.alloc lr _)
    . exact⟨_,rfl,by simp,new_cells W [.int .i64 (gp:Nat),.int .i64 (gl:Nat),.int .i64 (gw:Nat)] 39⟩
   ·
    intro V W hc hp hd K hK _
    have h1:(V 29)=.slice vo i vc:=(RegLin.ask hd 1:)
    have h4:∃ g,(V 32)=.slice (some ⟨g,0,none⟩) 1 1/\g<W.heap.size/\∀ (j:Nat) (u:Value),([.int .i64 (gp:Nat),.int .i64 (gl:Nat),.int .i64 (gw:Nat)]:List Value)[j]?=some u->W.cell? ((⟨g,0,none⟩:Addr).add j)=some u:=(RegLin.ask hd 4:)
    clear hd
    skip
    obtain⟨g,e4,hg4,hn4⟩:=h4
    have HROW:=hid (hp.2 rfl)
    have HC:=hid hc
    have HN4:=hid hn4
    have hWs:w.heap.size<=W.heap.size:=hc.grown.size
    clear hp hc hn4
    go_wp2_with (at_builtin;refine wpList_append_own _ rfl (.tmp 29) (.tmp 32) 40 rfl w.heap.size 39 i0 (.agg #[.int .i64 0,.int .i64 0,.int .i64 0]) 3 24 Tryz.underlying40 HI.out.1 HI.out.2.1 HI.out.2.2.1 HI.out.2.2.2 rfl (by decide) (.slice vo i vc) i _ (by first | rfl | exact h1) HROW.out ⟨g,0,none⟩ 1 1 [.int .i64 (gp:Nat),.int .i64 (gl:Nat),.int .i64 (gw:Nat)] (by first | rfl | exact e4) rfl HN4.out (by intro u hu;simp at hu;rcases hu with rfl | rfl | rfl <;> rfl) (by unfold maxLen;omega) (by omega) hWs ?_)
    intro v1 w1 g1 g2 _
    obtain⟨ao,cp,rfl⟩:=row_form g1
    have G1:=hid g1
    have G2:=hid g2
    clear g1 g2
    go_wp2_with fail
    refine hK _ _ ?_ ?_ ?_
    . rfl
    ·
     refine keeps_by2 (HC.out.row HROW.out lr (by decide) G2.out) (Or.inl (by kernel_rfl)) (Or.inl (by kernel_rfl)) (fun j hj hne hl h=>?_)
     match j,hj,hne,hl,h with
     | 0,_,_,_,h=>exact h
     | 1,_,_,_,h=>exact h
     | 2,_,_,_,h=>exact h
     | 3,_,_,_,h=>exact⟨h.1,h.2.aside G2.out (fun k e=>by have:=(World.ownsRow.lt HROW.out k e).1;omega) (fun k e hb ad n c e2=>by have h1:=HVL.out hb ad n c e2;have h2:=(World.ownsRow.lt HROW.out k e).1;omega)⟩
     | 4,_,_,hl,_=>exact Bool.noConfusion (hl.symm.trans (show RegLin.liveB _ 7 [(4,5)] 5 4=false from by kernel_rfl))
     | 5,_,hne,_,_=>exact absurd rfl hne
     | 6,_,_,hl,_=>exact Bool.noConfusion (hl.symm.trans (show RegLin.liveB _ 7 [(4,5)] 5 6=false from by kernel_rfl))
     | j+7,hj,_,_,_=>exact absurd hj (by omega)
    . exact⟨_,_,rfl,G1.out⟩
   ·
    intro V W hc hp hd K hK _
    clear hd
    go_wp2_with fail
    exact hK _ _ rfl (RegLin.keeps_below hcm2 hpr2 hc br) rfl
   ·
    intro V W hc hd
    have h3:(V 31)=.agg #[.int .i64 (gp:Nat),.int .i64 (gl:Nat),.int .i64 (gw:Nat)]/\Rdr W r v B q':=hd 3 (by decide) rfl
    have h5:∃ ao cp,(V 33)=.slice ao (i+1) cp/\W.ownsRow w.heap.size 39 3 (.slice ao (i+1) cp) (i+1) (O.flatMap enS++[.int .i64 (gp:Nat),.int .i64 (gl:Nat),.int .i64 (gw:Nat)]):=hd 5 (by decide) rfl
    have h6:(V 34)=.pointer (some ⟨k5,9,none⟩):=hd 6 (by decide) rfl
    clear hd
    simp only [List.drop_succ_cons,List.drop_zero]
    obtain⟨-,h3⟩:=h3
    obtain⟨ao,cp,e5,h5⟩:=h5
    have a9:=hc.cell 9
    have f9:=hc.frz 9
    simp at a9
    have haw:=hc.away h5 (by decide)
    have HRN:=hid (h3.set5 (i:=9) (u:=.slice ao (i+1) cp) HVL.out hrw hk5w)
    have HCN:=hid (show WithC w (W.setCell ⟨k5,9,none⟩ (.slice ao (i+1) cp)) r k4 k5 #[.int .i64 (a:Nat),.int .i64 (b:Nat),.string key,.string c,.string d,.int .i64 (x:Nat),.int .i64 (p:Nat),.int .i64 (l:Nat),.int .i64 (q:Nat),.slice ao (i+1) cp] from hc.set 9 _)
    have HON:=hid (show (W.setCell ⟨k5,9,none⟩ (.slice ao (i+1) cp)).ownsRow w.heap.size 39 3 (.slice ao (i+1) cp) (i+1) ((O++[stOf (gp,gl,gw)]).flatMap enS) from by rw [fa0,List.flatMap_singleton];exact World.ownsRow.kept h5 (grown_cell' W k5 9 _) (Or.inr haw.1))
    have HOL:=hid (show (O++[stOf (gp,gl,gw)]).length=i+1 from by rw [la0,hol.out];rfl)
    clear hc h3 h5 haw hrd hcm hrow hol HI
    go_wp2_with fail
    go_roundw
    case rel=>exact⟨i+1,_,q',ao,cp,by omega,by go_num,HOV,HRN,HCN,HON,HOL⟩
    case measure=>simp [intOf];omega
  ·
   obtain rfl:i=m:=by omega
   obtain⟨qa,qy⟩:=qs
   obtain⟨mu,hmu⟩:∃ y:Mu,y=⟨(a:Nat),(b:Nat),key,c,d,(x:Nat),stOf (p,l,q),O⟩:=⟨_,rfl⟩
   have HO:=hid (show rawS B key s=(mu,((qa,qy):S)) from by rw [HRAW.out,hov.out,hmu])
   have HE1:=hid (show ¬ qy=0->withS B key s=(muZ,((qa,qy):S)) from fun h=>by unfold withS;simp [HO.out,h])
   have HE2:=hid (show qy=0->rightF mu=true->withS B key s=(mu,((qa,(0:Int)):S)) from fun h h2=>by unfold withS;simp [HO.out,h,h2])
   have HE3:=hid (show qy=0->rightF mu=false->withS B key s=(muZ,((qa,(70:Int)):S)) from fun h h2=>by unfold withS;simp [HO.out,h,h2])
   have HWY:=hid (fun (s:S) (w1:World) (h:Rdr w1 r v B s)=>why_any r v B s w1 h)
   have HFA:=hid (fun (s:S) (y:Int) (w1:World) (h:Rdr w1 r v B s)=>fail_any r v B s y w1 h)
   have HOVX:=hid (show Over wr (mu,.slice vo i vc) from Over.own (base:=w.heap.size) (by rw [hmu];show wr.ownsRow w.heap.size 39 3 (.slice vo i vc) O.length (O.flatMap enS);rw [hol.out];exact hrow.out))
   have HVM:=hid (show vM (mu,.slice vo i vc)=.agg #[.int .i64 (a:Nat),.int .i64 (b:Nat),.string key,.string c,.string d,.int .i64 (x:Nat),.int .i64 (p:Nat),.int .i64 (l:Nat),.int .i64 (q:Nat),.slice vo i vc] from by rw [hmu];rfl)
   have HOM:=hid (show mu.over=O from by rw [hmu])
   have HKS:=hid (show mu.key=key/\mu.fin=c/\mu.val=d from by rw [hmu];exact⟨rfl,rfl,rfl⟩)
   have HPO:=hid hmu
   clear hmu hov HRAW
   cases hy:((qy:Int) == 0)
   ·
    have hy':¬ qy=0:=by simpa using hy
    have HE:=hid (HE1.out hy')
    clear hy' HE1 HE2 HE3
    go_wp2_with fail
    refine (HWY.out _ wr hrd.out).mono ?_
    rintro e w1 ⟨rfl,h1⟩
    subst h1
    go_wp2_with fail
    refine (HWY.out _ wr hrd.out).mono ?_
    rintro e w1 ⟨rfl,h1⟩
    subst h1
    have hne:(qy != (0:Int))=true:=by simpa using hy
    have z0:=(hcm.out).z
    have y0:wr.cell? ⟨k4,0,none⟩=some (.int .i64 0):=by rw [cell_of_row wr k4 0 _ _ (0,0) z0];rfl
    have g0:wr.frozen? ⟨k4,0,none⟩=false:=frozen_of_row wr k4 0 _ _ z0
    have y1:wr.cell? ⟨k4,1,none⟩=some (.int .i64 0):=by rw [cell_of_row wr k4 1 _ _ (0,0) z0];rfl
    have g1:wr.frozen? ⟨k4,1,none⟩=false:=frozen_of_row wr k4 1 _ _ z0
    have y2:wr.cell? ⟨k4,2,none⟩=some (.string ⟨#[]⟩):=by rw [cell_of_row wr k4 2 _ _ (0,0) z0];rfl
    have g2:wr.frozen? ⟨k4,2,none⟩=false:=frozen_of_row wr k4 2 _ _ z0
    have y3:wr.cell? ⟨k4,3,none⟩=some (.string ⟨#[]⟩):=by rw [cell_of_row wr k4 3 _ _ (0,0) z0];rfl
    have g3:wr.frozen? ⟨k4,3,none⟩=false:=frozen_of_row wr k4 3 _ _ z0
    have y4:wr.cell? ⟨k4,4,none⟩=some (.string ⟨#[]⟩):=by rw [cell_of_row wr k4 4 _ _ (0,0) z0];rfl
    have g4:wr.frozen? ⟨k4,4,none⟩=false:=frozen_of_row wr k4 4 _ _ z0
    have y5:wr.cell? ⟨k4,5,none⟩=some (.int .i64 0):=by rw [cell_of_row wr k4 5 _ _ (0,0) z0];rfl
    have g5:wr.frozen? ⟨k4,5,none⟩=false:=frozen_of_row wr k4 5 _ _ z0
    have y6:wr.cell? ⟨k4,6,none⟩=some (.int .i64 0):=by rw [cell_of_row wr k4 6 _ _ (0,0) z0];rfl
    have g6:wr.frozen? ⟨k4,6,none⟩=false:=frozen_of_row wr k4 6 _ _ z0
    have y7:wr.cell? ⟨k4,7,none⟩=some (.int .i64 0):=by rw [cell_of_row wr k4 7 _ _ (0,0) z0];rfl
    have g7:wr.frozen? ⟨k4,7,none⟩=false:=frozen_of_row wr k4 7 _ _ z0
    have y8:wr.cell? ⟨k4,8,none⟩=some (.int .i64 0):=by rw [cell_of_row wr k4 8 _ _ (0,0) z0];rfl
    have g8:wr.frozen? ⟨k4,8,none⟩=false:=frozen_of_row wr k4 8 _ _ z0
    have y9:wr.cell? ⟨k4,9,none⟩=some (.slice none 0 0):=by rw [cell_of_row wr k4 9 _ _ (0,0) z0];rfl
    have g9:wr.frozen? ⟨k4,9,none⟩=false:=frozen_of_row wr k4 9 _ _ z0
    clear z0
    have HF:=hid (hcm.out.fin (m:=muZ) hrd.out HVL.out (World.ownsRow_nil _ _ _ _) (Or.inl rfl) (.int .i64 0) (.int .i64 0) (.string ⟨#[]⟩) (.string ⟨#[]⟩) (.string ⟨#[]⟩) (.int .i64 0) (.int .i64 0) (.int .i64 0) (.int .i64 0) (.slice none 0 0) rfl _ rfl)
    go_wp2_with fail
    refine bodyPost_ret (v:=.agg #[.int .i64 0,.int .i64 0,.string ⟨#[]⟩,.string ⟨#[]⟩,.string ⟨#[]⟩,.int .i64 0,.int .i64 0,.int .i64 0,.int .i64 0,.slice none 0 0]) (results_cell_row rfl _ _ k4 42 _ (0,0) _ rfl HF.out.2 Tryz.underlying42 rfl size_M) rfl ?_
    rw [HE.out]
    exact HF.out.1
   ·
    have hy':qy=0:=by simpa using hy
    subst hy'
    have HE2:=hid (HE2.out rfl)
    have HE3:=hid (HE3.out rfl)
    have HRI:=hid (show ∀ W,Below wr.heap.size wr W->Calls Tryz.prog 86 #[.agg #[.int .i64 (a:Nat),.int .i64 (b:Nat),.string key,.string c,.string d,.int .i64 (x:Nat),.int .i64 (p:Nat),.int .i64 (l:Nat),.int .i64 (q:Nat),.slice vo i vc]] W fun e w'=>e=.returned (.bool (rightF mu))/\Below W.heap.size W w' from fun W hb=>by
     rw [<-HVM.out]
     have hTW:Tabs wr:=HT.out wr hcm.out.grown
     exact right_any _ W (hTW.below hb) (HOVX.out.below hb) (by show mu.over.length<=1000000;rw [HOM.out,hol.out];omega) (by show mu.key.size<=1000000;rw [HKS.out.1];exact hk) (by show mu.fin.size<=1000000;rw [HKS.out.2.1];exact HCS.out) (by show mu.val.size<=1000000;rw [HKS.out.2.2];exact HDS.out))
    obtain⟨qq,hqq⟩:∃ z,z=rightF mu:=⟨_,rfl⟩
    rw [<-hqq] at HRI HE2 HE3
    clear hqq hy
    have a0:wr.cell? ⟨k5,0,none⟩=some (.int .i64 (a:Nat)):=(hcm.out).cell 0
    have a1:wr.cell? ⟨k5,1,none⟩=some (.int .i64 (b:Nat)):=(hcm.out).cell 1
    have a2:wr.cell? ⟨k5,2,none⟩=some (.string key):=(hcm.out).cell 2
    have a3:wr.cell? ⟨k5,3,none⟩=some (.string c):=(hcm.out).cell 3
    have a4:wr.cell? ⟨k5,4,none⟩=some (.string d):=(hcm.out).cell 4
    have a5:wr.cell? ⟨k5,5,none⟩=some (.int .i64 (x:Nat)):=(hcm.out).cell 5
    have a6:wr.cell? ⟨k5,6,none⟩=some (.int .i64 (p:Nat)):=(hcm.out).cell 6
    have a7:wr.cell? ⟨k5,7,none⟩=some (.int .i64 (l:Nat)):=(hcm.out).cell 7
    have a8:wr.cell? ⟨k5,8,none⟩=some (.int .i64 (q:Nat)):=(hcm.out).cell 8
    have a9:wr.cell? ⟨k5,9,none⟩=some (.slice vo i vc):=(hcm.out).cell 9
    go_wp2_with fail
    refine (HWY.out _ wr hrd.out).mono ?_
    rintro e w1 ⟨rfl,h1⟩
    subst h1
    go_wp2_with fail
    refine (HRI.out _ (by first | exact Below.refl _ _ | assumption)).mono ?_
    rintro e w1 ⟨rfl,hb1⟩
    have HC1:=hid (hcm.out.later hb1)
    have HR1:=hid (hrd.out.below hb1)
    have HO1:=hid (row_below hrow.out hb1)
    clear hb1 a0 a1 a2 a3 a4 a5 a6 a7 a8 a9
    cases qq
    ·
     have HE:=hid (HE3.out rfl)
     clear HE2 HE3
     go_wp2_with fail
     refine (HFA.out _ 70 w1 HR1.out).mono ?_
     rintro e w2 ⟨rfl,hr2,hg2⟩
     have HR2:=hid (show Rdr w2 r v B (qa,(70:Int)) from hr2)
     have HC2:=hid (HC1.out.call hg2)
     clear hr2 hg2
     go_wp2_with fail
     refine (HWY.out _ w2 HR2.out).mono ?_
     rintro e w3 ⟨rfl,h1⟩
     subst h1
     have z0:=(HC2.out).z
     have y0:w2.cell? ⟨k4,0,none⟩=some (.int .i64 0):=by rw [cell_of_row w2 k4 0 _ _ (0,0) z0];rfl
     have g0:w2.frozen? ⟨k4,0,none⟩=false:=frozen_of_row w2 k4 0 _ _ z0
     have y1:w2.cell? ⟨k4,1,none⟩=some (.int .i64 0):=by rw [cell_of_row w2 k4 1 _ _ (0,0) z0];rfl
     have g1:w2.frozen? ⟨k4,1,none⟩=false:=frozen_of_row w2 k4 1 _ _ z0
     have y2:w2.cell? ⟨k4,2,none⟩=some (.string ⟨#[]⟩):=by rw [cell_of_row w2 k4 2 _ _ (0,0) z0];rfl
     have g2:w2.frozen? ⟨k4,2,none⟩=false:=frozen_of_row w2 k4 2 _ _ z0
     have y3:w2.cell? ⟨k4,3,none⟩=some (.string ⟨#[]⟩):=by rw [cell_of_row w2 k4 3 _ _ (0,0) z0];rfl
     have g3:w2.frozen? ⟨k4,3,none⟩=false:=frozen_of_row w2 k4 3 _ _ z0
     have y4:w2.cell? ⟨k4,4,none⟩=some (.string ⟨#[]⟩):=by rw [cell_of_row w2 k4 4 _ _ (0,0) z0];rfl
     have g4:w2.frozen? ⟨k4,4,none⟩=false:=frozen_of_row w2 k4 4 _ _ z0
     have y5:w2.cell? ⟨k4,5,none⟩=some (.int .i64 0):=by rw [cell_of_row w2 k4 5 _ _ (0,0) z0];rfl
     have g5:w2.frozen? ⟨k4,5,none⟩=false:=frozen_of_row w2 k4 5 _ _ z0
     have y6:w2.cell? ⟨k4,6,none⟩=some (.int .i64 0):=by rw [cell_of_row w2 k4 6 _ _ (0,0) z0];rfl
     have g6:w2.frozen? ⟨k4,6,none⟩=false:=frozen_of_row w2 k4 6 _ _ z0
     have y7:w2.cell? ⟨k4,7,none⟩=some (.int .i64 0):=by rw [cell_of_row w2 k4 7 _ _ (0,0) z0];rfl
     have g7:w2.frozen? ⟨k4,7,none⟩=false:=frozen_of_row w2 k4 7 _ _ z0
     have y8:w2.cell? ⟨k4,8,none⟩=some (.int .i64 0):=by rw [cell_of_row w2 k4 8 _ _ (0,0) z0];rfl
     have g8:w2.frozen? ⟨k4,8,none⟩=false:=frozen_of_row w2 k4 8 _ _ z0
     have y9:w2.cell? ⟨k4,9,none⟩=some (.slice none 0 0):=by rw [cell_of_row w2 k4 9 _ _ (0,0) z0];rfl
     have g9:w2.frozen? ⟨k4,9,none⟩=false:=frozen_of_row w2 k4 9 _ _ z0
     clear z0
     have HF:=hid (HC2.out.fin (m:=muZ) HR2.out HVL.out (World.ownsRow_nil _ _ _ _) (Or.inl rfl) (.int .i64 0) (.int .i64 0) (.string ⟨#[]⟩) (.string ⟨#[]⟩) (.string ⟨#[]⟩) (.int .i64 0) (.int .i64 0) (.int .i64 0) (.int .i64 0) (.slice none 0 0) rfl _ rfl)
     go_wp2_with fail
     refine bodyPost_ret (v:=.agg #[.int .i64 0,.int .i64 0,.string ⟨#[]⟩,.string ⟨#[]⟩,.string ⟨#[]⟩,.int .i64 0,.int .i64 0,.int .i64 0,.int .i64 0,.slice none 0 0]) (results_cell_row rfl _ _ k4 42 _ (0,0) _ rfl HF.out.2 Tryz.underlying42 rfl size_M) rfl ?_
     rw [HE.out]
     exact HF.out.1
    ·
     have HE:=hid (HE2.out rfl)
     clear HE2 HE3
     go_wp2_with fail
     refine (HWY.out _ w1 HR1.out).mono ?_
     rintro e w3 ⟨rfl,h1⟩
     subst h1
     have z0:=(HC1.out).z
     have y0:w1.cell? ⟨k4,0,none⟩=some (.int .i64 0):=by rw [cell_of_row w1 k4 0 _ _ (0,0) z0];rfl
     have g0:w1.frozen? ⟨k4,0,none⟩=false:=frozen_of_row w1 k4 0 _ _ z0
     have y1:w1.cell? ⟨k4,1,none⟩=some (.int .i64 0):=by rw [cell_of_row w1 k4 1 _ _ (0,0) z0];rfl
     have g1:w1.frozen? ⟨k4,1,none⟩=false:=frozen_of_row w1 k4 1 _ _ z0
     have y2:w1.cell? ⟨k4,2,none⟩=some (.string ⟨#[]⟩):=by rw [cell_of_row w1 k4 2 _ _ (0,0) z0];rfl
     have g2:w1.frozen? ⟨k4,2,none⟩=false:=frozen_of_row w1 k4 2 _ _ z0
     have y3:w1.cell? ⟨k4,3,none⟩=some (.string ⟨#[]⟩):=by rw [cell_of_row w1 k4 3 _ _ (0,0) z0];rfl
     have g3:w1.frozen? ⟨k4,3,none⟩=false:=frozen_of_row w1 k4 3 _ _ z0
     have y4:w1.cell? ⟨k4,4,none⟩=some (.string ⟨#[]⟩):=by rw [cell_of_row w1 k4 4 _ _ (0,0) z0];rfl
     have g4:w1.frozen? ⟨k4,4,none⟩=false:=frozen_of_row w1 k4 4 _ _ z0
     have y5:w1.cell? ⟨k4,5,none⟩=some (.int .i64 0):=by rw [cell_of_row w1 k4 5 _ _ (0,0) z0];rfl
     have g5:w1.frozen? ⟨k4,5,none⟩=false:=frozen_of_row w1 k4 5 _ _ z0
     have y6:w1.cell? ⟨k4,6,none⟩=some (.int .i64 0):=by rw [cell_of_row w1 k4 6 _ _ (0,0) z0];rfl
     have g6:w1.frozen? ⟨k4,6,none⟩=false:=frozen_of_row w1 k4 6 _ _ z0
     have y7:w1.cell? ⟨k4,7,none⟩=some (.int .i64 0):=by rw [cell_of_row w1 k4 7 _ _ (0,0) z0];rfl
     have g7:w1.frozen? ⟨k4,7,none⟩=false:=frozen_of_row w1 k4 7 _ _ z0
     have y8:w1.cell? ⟨k4,8,none⟩=some (.int .i64 0):=by rw [cell_of_row w1 k4 8 _ _ (0,0) z0];rfl
     have g8:w1.frozen? ⟨k4,8,none⟩=false:=frozen_of_row w1 k4 8 _ _ z0
     have y9:w1.cell? ⟨k4,9,none⟩=some (.slice none 0 0):=by rw [cell_of_row w1 k4 9 _ _ (0,0) z0];rfl
     have g9:w1.frozen? ⟨k4,9,none⟩=false:=frozen_of_row w1 k4 9 _ _ z0
     clear z0
     have a0:w1.cell? ⟨k5,0,none⟩=some (.int .i64 (a:Nat)):=(HC1.out).cell 0
     have a1:w1.cell? ⟨k5,1,none⟩=some (.int .i64 (b:Nat)):=(HC1.out).cell 1
     have a2:w1.cell? ⟨k5,2,none⟩=some (.string key):=(HC1.out).cell 2
     have a3:w1.cell? ⟨k5,3,none⟩=some (.string c):=(HC1.out).cell 3
     have a4:w1.cell? ⟨k5,4,none⟩=some (.string d):=(HC1.out).cell 4
     have a5:w1.cell? ⟨k5,5,none⟩=some (.int .i64 (x:Nat)):=(HC1.out).cell 5
     have a6:w1.cell? ⟨k5,6,none⟩=some (.int .i64 (p:Nat)):=(HC1.out).cell 6
     have a7:w1.cell? ⟨k5,7,none⟩=some (.int .i64 (l:Nat)):=(HC1.out).cell 7
     have a8:w1.cell? ⟨k5,8,none⟩=some (.int .i64 (q:Nat)):=(HC1.out).cell 8
     have a9:w1.cell? ⟨k5,9,none⟩=some (.slice vo i vc):=(HC1.out).cell 9
     have HF:=hid (HC1.out.fin (m:=mu) (ov:=.slice vo i vc) HR1.out HVL.out (by rw [HOM.out,hol.out];exact HO1.out) (Or.inr (HC1.out.away HO1.out (by decide)).2) (.int .i64 (a:Nat)) (.int .i64 (b:Nat)) (.string key) (.string c) (.string d) (.int .i64 (x:Nat)) (.int .i64 (p:Nat)) (.int .i64 (l:Nat)) (.int .i64 (q:Nat)) (.slice vo i vc) HVM.out _ rfl)
     go_wp2_with fail
     refine bodyPost_ret (v:=.agg #[.int .i64 (a:Nat),.int .i64 (b:Nat),.string key,.string c,.string d,.int .i64 (x:Nat),.int .i64 (p:Nat),.int .i64 (l:Nat),.int .i64 (q:Nat),.slice vo i vc]) (results_cell_row rfl _ _ k4 42 _ (0,0) _ rfl HF.out.2 Tryz.underlying42 rfl size_M) rfl ?_
     rw [HE.out]
     exact HF.out.1
