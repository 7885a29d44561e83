/- A table in memory, and how a page of it is read (layer 16). -/
import Derived.Test.YtpeoonnglnchnaaGreatDoorPkTabReads
import Derived.Test.YtpeoonnglnchnaaGreatDoorTabPgGet
import Derived.Test.YtpeoonnglnchnaaGreatDoorPkRdMore
set_option maxHeartbeats 16000000
set_option maxRecDepth 100000
set_option linter.unusedSimpArgs false
set_option linter.unusedVariables false
namespace Go.Proofs.YtpeoonnglnchnaaGreatDoor.Tab
open Go.Lib (hid)
open Go.RowKit Go.Proofs.YtpeoonnglnchnaaGreatDoor.Spare Go.Proofs.YtpeoonnglnchnaaGreatDoor.Mut Go.Proofs.YtpeoonnglnchnaaGreatDoor.Mrk Go.Proofs.YtpeoonnglnchnaaGreatDoor.Rd
set_option linter.unusedSectionVars false
variable [Inhabited Lim]
structure Lf where
 first:ByteArray
 bv:Value
 bytes:List Nat
abbrev enL (x:Lf):List Value:=[.string x.first,x.bv]
structure Tbl (w:World) (t:Nat) (lv wv fv:Value) (rd:Nat) (P:List (List Mu)) (W:List Mu) (F:Nat→Bool) (N:Nat):Prop where
 box:w.heap[t]?=some (.cells #[lv,wv,fv,.int .i64 (rd:Nat)] 69 (0,0))
 leaves:∃ L:List Lf,Lst 2 enL w lv L∧(∀ x∈L,BRow w x.bv x.bytes)∧L.map (fun x=>(x.first,x.bytes))=P.map (fun p=>(firstK p,pageB p))
 wipes:∃ R,MRow w wv R∧R.map (·.1)=W
 filt:∃ g cap,fv=.slice (some ⟨g,0,none⟩) N cap∧BRow w fv (sieveL F N)
theorem Tbl.below {w w':World} {t:Nat} {lv wv fv:Value} {rd:Nat} {P:List (List Mu)} {W:List Mu} {F:Nat→Bool} {N:Nat} (h:Tbl w t lv wv fv rd P W F N) (hb:Below w.heap.size w w'):Tbl w' t lv wv fv rd P W F N:=by
 obtain⟨h0,⟨L,l1,l2,l3⟩,⟨R,r1,r2⟩,g,cap,g1,g2⟩:=h
 exact⟨(hb.block t (Array.getElem?_eq_some_iff.1 h0).1).trans h0,⟨L,Lst.below l1 hb,fun x hx=>Lst.below (l2 x hx) hb,l3⟩,⟨R,r1.below hb,r2⟩,g,cap,g1,Lst.below g2 hb⟩
theorem lst_off {α:Type} {sz:Nat} {en:α→List Value} {w:World} {v:Value} {l:List α} {t:Nat} {ty:TypeId} {C:Array Value} (h:Lst sz en w v l) (ht:w.heap[t]?=some (.cells C ty (0,0))) (hne:∀ (x:α) (off:Nat),∃ j,j<sz∧C[off+j]?≠(en x)[j]?):l≠[]→∀ ad n c,v=.slice (some ad) n c→ad.block≠t:=by
 intro h0 ad n c e e2
 obtain⟨ao,cap,e1,-,-,h3⟩:=h
 rcases h3 with h3 | ⟨b,off,e3,hb,hc⟩
 · exact h0 (List.eq_nil_of_length_eq_zero h3)
 ·
  rw [e] at e1
  injection e1 with e1
  rw [e3] at e1
  injection e1 with e1
  subst e1
  cases l with
  | nil=>exact h0 rfl
  | cons x l=>
   obtain⟨j,hj,hx⟩:=hne x off
   have h4:=hc 0 x rfl j hj
   rw [Nat.zero_mul,Nat.add_zero] at h4
   change b=t at e2
   subst e2
   rw [cell_of_row w b (off+j) _ _ (0,0) ht] at h4
   exact hx h4
theorem tblC_int (a b c:Option Addr) (n1 n2 n3 k1 k2 k3:Nat) (u:Value) (off:Nat) (i:Int) (h:(#[Value.slice a n1 k1,.slice b n2 k2,.slice c n3 k3,u]:Array Value)[off]?=some (.int .i64 i)):off=3:=by
 rcases off with _ | _ | _ | _ | off
 · simp at h
 · simp at h
 · simp at h
 · rfl
 · simp at h
theorem Tbl.turn {w w':World} {t:Nat} {lv wv fv:Value} {rd rd':Nat} {P:List (List Mu)} {W:List Mu} {F:Nat→Bool} {N:Nat} (h:Tbl w t lv wv fv rd P W F N) (hg:w.grownBy w' (some t)) (hx:w'.heap[t]?=some (.cells #[lv,wv,fv,.int .i64 (rd':Nat)] 69 (0,0))):Tbl w' t lv wv fv rd' P W F N:=by
 obtain⟨h0,⟨L,l1,l2,l3⟩,⟨R,r1,r2⟩,g,cap,g1,g2⟩:=h
 obtain⟨lo,lc,e1,-,-⟩:=Lst.form l1
 obtain⟨wo,wc,e2,-,-⟩:=r1.form
 subst e1
 subst e2
 subst g1
 have ci:=tblC_int lo wo (some ⟨g,0,none⟩) L.length R.length N lc wc cap (.int .i64 (rd:Nat))
 have hM:∀ (x:Ro) (off:Nat),∃ j,j<10∧(#[Value.slice lo L.length lc,.slice wo R.length wc,.slice (some ⟨g,0,none⟩) N cap,.int .i64 (rd:Nat)]:Array Value)[off+j]?≠(enM x)[j]?:=fun x off=>by
  by_cases e:off=3
  · exact⟨1,by decide,fun h=>by have:=ci (off+1) _ h;omega⟩
  · exact⟨0,by decide,fun h=>e (ci off _ h)⟩
 have hS:∀ (x:Stp) (off:Nat),∃ j,j<3∧(#[Value.slice lo L.length lc,.slice wo R.length wc,.slice (some ⟨g,0,none⟩) N cap,.int .i64 (rd:Nat)]:Array Value)[off+j]?≠(enS x)[j]?:=fun x off=>by
  by_cases e:off=3
  · exact⟨1,by decide,fun h=>by have:=ci (off+1) _ h;omega⟩
  · exact⟨0,by decide,fun h=>e (ci off _ h)⟩
 have hB:∀ (x:Nat) (off:Nat),∃ j,j<1∧(#[Value.slice lo L.length lc,.slice wo R.length wc,.slice (some ⟨g,0,none⟩) N cap,.int .i64 (rd:Nat)]:Array Value)[off+j]?≠(enB x)[j]?:=fun x off=>⟨0,by decide,fun h=>by
  rcases off with _ | _ | _ | _ | off <;> simp at h⟩
 have hL:∀ (x:Lf) (off:Nat),∃ j,j<2∧(#[Value.slice lo L.length lc,.slice wo R.length wc,.slice (some ⟨g,0,none⟩) N cap,.int .i64 (rd:Nat)]:Array Value)[off+j]?≠(enL x)[j]?:=fun x off=>⟨0,by decide,fun h=>by
  rcases off with _ | _ | _ | _ | off <;> simp at h⟩
 exact⟨hx,⟨L,lst_beside l1 hg (lst_off l1 h0 hL),fun x hx=>lst_beside (l2 x hx) hg (lst_off (l2 x hx) h0 hB),l3⟩,⟨R,⟨lst_beside r1.row hg (lst_off r1.row h0 hM),fun x hx=>⟨lst_beside (r1.over x hx).lst hg (lst_off (r1.over x hx).lst h0 hS),(r1.over x hx).zn⟩⟩,r2⟩,g,cap,rfl,lst_beside g2 hg (lst_off g2 h0 hB)⟩
structure GoodP (P:List (List Mu)):Prop where
 right:∀ p∈P,∀ m∈p,rightF m=true
 rise:∀ p∈P,p.Pairwise (fun a b=>sibC a b<0)
 few:∀ p∈P,p≠[]∧p.length≤8
 many:P.length≤60
theorem textF_byte (s:ByteArray):∀ c∈textF s,c<256:=by
 intro c hc
 unfold textF at hc
 rcases List.mem_append.1 hc with h | h
 · exact Mrk.putF_lt _ c h
 ·
  unfold strL at h
  obtain⟨b,_,rfl⟩:=List.mem_map.1 h
  exact UInt8.toNat_lt _
theorem pageL_lt (l:List Mu):∀ (last:ByteArray),∀ c∈pageL last l,c<256:=by
 induction l with
 | nil=>intro _ c hc;cases hc
 | cons m l ih=>
  intro last c hc
  unfold pageL rowB at hc
  rcases List.mem_append.1 hc with h | h
  ·
   rcases List.mem_append.1 h with h | h
   · exact Mrk.putF_lt _ c h
   rcases List.mem_append.1 h with h | h
   · exact textF_byte _ c h
   · exact bytesM_byte m c (by unfold bytesM;exact List.mem_append_right _ h)
  · exact ih _ c h
theorem pageB_lt (l:List Mu):∀ c∈pageB l,c<256:=by
 intro c hc
 unfold pageB at hc
 rcases List.mem_append.1 hc with h | h
 · exact Mrk.putF_lt _ c h
 · exact pageL_lt l _ c h
def ReadP (t:Nat) (lv wv fv:Value) (rd:Nat) (P:List (List Mu)) (W:List Mu) (F:Nat→Bool) (N:Nat) (p:List Mu) (w:World) (e:Ending) (w':World):Prop:=
 ∃ v' R,e=.returned (.tuple #[v',.int .i64 0])∧R.map (·.1)=p∧Copied w' v' R w.heap.size∧Tbl w' t lv wv fv (rd+1) P W F N∧w.grownBy w' (some t)
theorem read_any (t:Nat) (lv wv fv:Value) (rd:Nat) (P:List (List Mu)) (W:List Mu) (F:Nat→Bool) (N i:Nat) (p:List Mu) (w wb:World) (h:Tbl w t lv wv fv rd P W F N) (hT:Tabs wb) (hbw:Below wb.heap.size wb w) (htb:wb.heap.size≤t) (hP:GoodP P) (hp:P[i]?=some p) (hrd:rd≤1000000) :
  Calls Tryz.prog 54 #[.pointer (some ⟨t,0,none⟩),.int .i64 (i:Nat)] w (ReadP t lv wv fv rd P W F N p w):=by
 have HT0:=hid h
 obtain⟨h0,⟨L,l1,l2,l3⟩,⟨R,r1,r2⟩,g,cap,g1,g2⟩:=h
 obtain⟨lo,lc,e1,-,-⟩:=Lst.form l1
 obtain⟨wo,wc,e2,-,-⟩:=r1.form
 subst e1
 subst e2
 subst g1
 have hlen:L.length=P.length:=by have:=congrArg List.length l3;rwa [List.length_map,List.length_map] at this
 have hi:i<L.length:=by rw [hlen];exact (List.getElem?_eq_some_iff.1 hp).1
 obtain⟨x,hx⟩:∃ x,L[i]?=some x:=⟨_,List.getElem?_eq_getElem hi⟩
 have hxb:x.bytes=pageB p:=by
  have h1:=congrArg (fun l=>l[i]?) l3
  simp only [List.getElem?_map,hx,hp,Option.map_some,Option.some.injEq,Prod.mk.injEq] at h1
  exact h1.2
 have hxm:=List.mem_of_getElem? hx
 have hpm:=List.mem_of_getElem? hp
 obtain⟨p1,p2⟩:=hP.few p hpm
 have hpl:=pageB_len (hP.right p hpm) (by omega)
 have htw:=(Array.getElem?_eq_some_iff.1 h0).1
 obtain⟨rd1,hrd1⟩:∃ q,q=rd+1:=⟨_,rfl⟩
 obtain⟨w1,hw1⟩:∃ W,W=w.setCell ⟨t,3,none⟩ (.int .i64 ((rd1:Nat):Int)):=⟨_,rfl⟩
 have hg1:w.grownBy w1 (some t):=by rw [hw1];exact grown_cell' w t 3 _
 have hx1:w1.heap[t]?=some (.cells #[.slice lo L.length lc,.slice wo R.length wc,.slice (some ⟨g,0,none⟩) N cap,.int .i64 ((rd1:Nat):Int)] 69 (0,0)):=by rw [hw1];exact heap_setCell_same w t 3 _ _ _ h0
 have ht1:=HT0.out.turn hg1 hx1
 have HT1:=hid ht1
 have HS1:=hid (show w1.heap.size=w.heap.size from by rw [hw1];simp)
 obtain⟨-,⟨L',l1',l2',l3'⟩,-,-⟩:=ht1
 have hl1:Lst 2 enL w1 (.slice lo L.length lc) L:=by
  refine lst_beside l1 hg1 (lst_off l1 h0 (fun x off=>⟨0,by decide,fun h=>by rcases off with _ | _ | _ | _ | off <;> simp at h⟩))
 have hbx1:BRow w1 x.bv x.bytes:=by
  refine lst_beside (l2 x hxm) hg1 (lst_off (l2 x hxm) h0 (fun x off=>⟨0,by decide,fun h=>by rcases off with _ | _ | _ | _ | off <;> simp at h⟩))
 obtain⟨lb,loff,hlo,hlb,hlc⟩:=Lst.get hl1 hi
 subst hlo
 have hxg:L[i]=x:=(List.getElem?_eq_some_iff.1 hx).2
 have a1:=hlc 1 (by decide)
 rw [hxg] at a1
 change w1.cell? ⟨lb,loff+i*2+1,none⟩=some x.bv at a1
 have HNEW:=hid (new_any x.bv x.bytes w1 hbx1 (by rw [hxb];omega))
 obtain⟨bv,hbv⟩:∃ b,b=x.bv:=⟨_,rfl⟩
 obtain⟨PB,hPB⟩:∃ b,b=pageB p:=⟨_,rfl⟩
 rw [←hbv,hxb,←hPB] at HNEW
 rw [←hbv] at a1
 have HB1:=hid (show Below wb.heap.size wb w1 from hbw.grown hg1 hbw.size (fun j hj=>by cases hj;exact htb))
 have HPG:=hid (show ∀ r v z,Rdr z r v PB (0,0)→wb.heap.size≤r→Below wb.heap.size wb z→Calls Tryz.prog 96 #[pR r] z (ListP r v PB (p,(PB.length,0)) z) from fun r v z hr hrw hbz=>by
  have e:PB=[]++(pageB p++[]):=by rw [hPB];simp
  have h1:=pageget_any r v [] [] p z wb (by rw [←e];exact hr) (by rw [←e,hPB];exact pageB_lt p) hT hbz hrw (hP.right p hpm) (hP.rise p hpm) p2
  rw [←e] at h1
  simp only [List.length_nil,Nat.zero_add] at h1
  rw [←hPB] at h1
  exact h1)
 have HEN:=hid (fun (r:Nat) (v:Value) (z:World) (h:Rdr z r v PB (PB.length,0))=>end_any r v PB z h)
 obtain⟨n,hn⟩:∃ n,n=L.length:=⟨_,rfl⟩
 rw [←hn] at HT0 HT1 hi h0 hx1
 have HNL:=hid hn
 have c0:w.cell? ⟨t,0,none⟩=some (.slice (some ⟨lb,loff,none⟩) n lc):=by rw [cell_of_row w t 0 _ _ (0,0) h0];rfl
 have c3:w.cell? ⟨t,3,none⟩=some (.int .i64 (rd:Nat)):=by rw [cell_of_row w t 3 _ _ (0,0) h0];rfl
 have f3:w.frozen? ⟨t,3,none⟩=false:=frozen_of_row w t 3 _ _ h0
 have d0:w1.cell? ⟨t,0,none⟩=some (.slice (some ⟨lb,loff,none⟩) n lc):=by rw [cell_of_row w1 t 0 _ _ (0,0) hx1];rfl
 have HW1:=hid hw1
 have HG1:=hid hg1
 have hrd2:((rd:Nat):Int)+1=((rd1:Nat):Int):=by omega
 have HRD:=hid hrd1
 have j0:(0:Int)≤(i:Int):=by omega
 have j1:(i:Int)<(n:Int):=by omega
 clear hrd1 h0 l1 l2 l3 r1 r2 g2 hlen hx hxb hxm hpm p1 p2 hpl hw1 hg1 hx1 l1' l2' l3' hl1 hbx1 hlb hlc hxg hbv hPB hT hbw hP hp hn
 go_enter Tryz.func54,Tryz.ntmps54
 go_upto_region 2 with fail
 rw [←HW1.out]
 clear HW1 c0 c3 f3
 go_wp2_with fail
 refine HNEW.out.mono ?_
 rintro e w2 ⟨rfl,hr2,hb2⟩
 obtain⟨r,hr⟩:∃ r,r=w1.heap.size:=⟨_,rfl⟩
 rw [←hr] at hr2 ⊢
 have HT2:=hid (HT1.out.below hb2)
 have HR2:=hid hr2
 have HB2:=hid (below_then HB1.out (Nat.le_refl _) hb2)
 have HG2:=hid (show w.grownBy w2 (some t) from HG1.out.andThen (below_grown (row:=none) hb2) (fun j hj=>by cases hj))
 have hrb:wb.heap.size≤r:=by rw [hr];exact HB1.out.size
 have hrw:w.heap.size≤r:=by rw [hr,HS1.out];exact Nat.le_refl _
 have HPP:=hid (HPG.out r bv w2 hr2 hrb HB2.out)
 have hw2:=HG2.out.size
 have HB12:=hid (show Below w1.heap.size w1 w2 from hb2)
 have HRE:=hid hr
 clear hb2 hr2 hr d0
 go_wp2_with fail
 refine HPP.out.mono ?_
 rintro e w3 ⟨v3,R3,rfl,hm3,hc3,hr3,hg3⟩
 have HR3:=hid hr3
 have HC3:=hid (show Copied w3 v3 R3 w.heap.size from hc3.base hw2)
 have HT3:=hid (HT1.out.below (HB12.out.grown hg3 HB12.out.size (fun j hj=>by cases hj;rw [HRE.out];exact Nat.le_refl _)))
 have HG3:=hid (show w.grownBy w3 (some t) from HG2.out.andThen hg3 (fun j hj=>by cases hj;exact Or.inl hrw))
 have HM3:=hid hm3
 have HED:=hid (HEN.out r bv w3 hr3)
 clear hm3 hc3 hr3 hg3
 go_wp2_with fail
 refine HED.out.mono ?_
 rintro e w4 ⟨rfl,hb4⟩
 have HC4:=hid (HC3.out.below hb4)
 have HT4:=hid (HT3.out.below hb4)
 have HG4:=hid (show w.grownBy w4 (some t) from HG3.out.andThen (below_grown (row:=none) hb4) (fun j hj=>by cases hj))
 clear hb4
 go_wp2_with fail
 refine bodyPost_ret (v:=.tuple #[v3,.int .i64 0]) (by simp [results,Tryz.f54,go_sem]) rfl ?_
 exact⟨v3,R3,rfl,HM3.out,HC4.out,by rw [←HRD.out,←HNL.out];exact HT4.out,HG4.out⟩
end Go.Proofs.YtpeoonnglnchnaaGreatDoor.Tab
