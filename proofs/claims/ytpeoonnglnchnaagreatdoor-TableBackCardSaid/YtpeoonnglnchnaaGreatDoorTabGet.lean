/- TabGet. -/
import Derived.Test.YtpeoonnglnchnaaGreatDoorTabAll
set_option linter.unusedSectionVars false
set_option linter.unusedSimpArgs false
set_option linter.unusedVariables false
set_option maxHeartbeats 16000000
set_option maxRecDepth 100000
namespace Go.Proofs.YtpeoonnglnchnaaGreatDoor.Tab
open Go.Lib (hid)
open RowKit YtpeoonnglnchnaaGreatDoor.Ord YtpeoonnglnchnaaGreatDoor.Spare Mut Mrk YtpeoonnglnchnaaGreatDoor.Rd
variable [Inhabited Lim]
def keyB (key:ByteArray) (m:Mu):Bool:=m.key.toList == key.toList
def foundF (P:List (List Mu)) (key:ByteArray):Nat->List Mu
 | 0=>[]
 | k+1=>foundF P key k++(if hitF P key k then (P.getD k []).filter (keyB key) else [])
def getT (P:List (List Mu)) (F:Nat->Bool) (N:Nat) (key:ByteArray):List Mu × Nat:=if mayF F key (8*N)=true then (foundF P key P.length,hitsF P key P.length) else ([],0)
theorem brow_sv {w:World} {g N cap:Nat} {F:Nat->Bool} (h:BRow w (.slice (some ⟨g,0,none⟩) N cap) (sieveL F N)) (h0:0<N):SvRow w g N F:=by
 have hl:=sieveL_len F N
 obtain⟨b,off,e,hb,-⟩:=Lst.get h (i:=0) (by rw [hl];exact h0)
 cases e
 refine⟨hb,fun j hj=>?_⟩
 obtain⟨b',off',e',-,hc⟩:=Lst.get h (i:=j) (by rw [hl];exact hj)
 cases e'
 have h1:=hc 0 (by decide)
 have h2:(sieveL F N)[j]'(by rw [hl];exact hj)=byteF F j:=by unfold sieveL;simp
 rw [h2,Nat.zero_add,Nat.mul_one,Nat.add_zero] at h1
 exact h1
def GetTP (t:Nat) (lv wv fv:Value) (rd:Nat) (P:List (List Mu)) (W:List Mu) (F:Nat->Bool) (N:Nat) (q:List Mu × Nat) (w:World) (e:Ending) (w':World):Prop:=
 ∃ v' R,e=.returned v'/\R.map (·.1)=q.1/\Copied w' v' R w.heap.size/\Tbl w' t lv wv fv (rd+q.2) P W F N/\w.grownBy w' (some t)
theorem treads_any (t:Nat) (lv wv fv:Value) (rd:Nat) (P:List (List Mu)) (W:List Mu) (F:Nat->Bool) (N:Nat) (w:World) (h:Tbl w t lv wv fv rd P W F N) :
  Calls Tryz.prog 14 #[.pointer (some ⟨t,0,none⟩)] w fun e w'=>e=.returned (.int .i64 (rd:Nat))/\w=w':=by
 have c3:w.cell? ⟨t,3,none⟩=some (.int .i64 (rd:Nat)):=by rw [cell_of_row w t 3 _ _ (0,0) h.box];rfl
 clear h
 go_enter Tryz.func14,Tryz.ntmps14
 go_wp2_with fail
 go_ret
 exact⟨rfl,rfl⟩
theorem tpages_any (t:Nat) (lv wv fv:Value) (rd:Nat) (P:List (List Mu)) (W:List Mu) (F:Nat->Bool) (N:Nat) (w:World) (h:Tbl w t lv wv fv rd P W F N) :
  Calls Tryz.prog 27 #[.pointer (some ⟨t,0,none⟩)] w fun e w'=>e=.returned (.int .i64 (P.length:Nat))/\w=w':=by
 obtain⟨h0,⟨L,l1,l2,l3⟩,-,-⟩:=h
 obtain⟨lo,lc,e1,-,-⟩:=Lst.form l1
 have hlen:L.length=P.length:=by have:=congrArg List.length l3;rwa [lm0,lm0] at this
 rw [hlen] at e1
 subst e1
 have c0:w.cell? ⟨t,0,none⟩=some (.slice lo P.length lc):=by rw [cell_of_row w t 0 _ _ (0,0) h0];rfl
 obtain⟨n,hn⟩:∃ n,n=P.length:=⟨_,rfl⟩
 rw [<-hn] at c0 ⊢
 clear h0 l1 l2 l3 hlen hn
 go_enter Tryz.func27,Tryz.ntmps27
 go_wp2_with fail
 go_ret
 exact⟨rfl,rfl⟩
theorem tget_any (t:Nat) (lv wv fv:Value) (rd:Nat) (P:List (List Mu)) (W:List Mu) (F:Nat->Bool) (N:Nat) (key:ByteArray) (w wb:World) (h:Tbl w t lv wv fv rd P W F N) (hT:Tabs wb) (hbw:Below wb.heap.size wb w) (htb:wb.heap.size<=t) (hP:GoodP P) (hN0:0<N) (hN1:N<=65536) (hks:key.size<=1000000) (hrd:rd<=900000) :
  Calls Tryz.prog 13 #[.pointer (some ⟨t,0,none⟩),.string key] w (GetTP t lv wv fv rd P W F N (getT P F N key) w):=by
 have HT:=hid h
 have HGP:=hid hP
 have htw:=(ag0.1 h.box).1
 have HBB:=hid (show ∀ z,w.grownBy z (some t)->Below wb.heap.size wb z from fun z hg=>hbw.grown hg hbw.size (fun j hj=>by cases hj;exact htb))
 have HRD:=hid (fun (z:World) (rd:Nat) (i:Nat) (p:List Mu) (hz:Tbl z t lv wv fv rd P W F N) (hg:w.grownBy z (some t)) (hp:P[i]?=some p) (hr:rd<=1000000)=>read_any t lv wv fv rd P W F N i p z wb hz hT (HBB.out z hg) htb hP hp hr)
 obtain⟨h0,⟨L,l1,l2,l3⟩,-,⟨g,cap,g1,g2⟩⟩:=h
 obtain⟨lo,lc,e1,-,-⟩:=Lst.form l1
 have hlen:L.length=P.length:=by have:=congrArg List.length l3;rwa [lm0,lm0] at this
 obtain⟨n,hn⟩:∃ n,n=P.length:=⟨_,rfl⟩
 rw [hlen,<-hn] at e1
 have HN:=hid hn
 have hn60:n<=60:=by rw [hn];exact hP.many
 have HLC:=hid (show ∀ (z:World) (rd':Nat),Tbl z t lv wv fv rd' P W F N->∀ i,i<n->∃ lb loff bo bn bc,lo=some ⟨lb,loff,none⟩/\lb<z.heap.size/\z.cell? ⟨lb,loff+i*2,none⟩=some (.string (firstK (P.getD i [])))/\z.cell? ⟨lb,loff+i*2+1,none⟩=some (.slice bo bn bc) from fun z rd' hz i hi=>by
  obtain⟨-,⟨L',k1,k2,k3⟩,-,-⟩:=hz
  have hlen':L'.length=P.length:=by have:=congrArg List.length k3;rwa [lm0,lm0] at this
  have hi':i<L'.length:=by rw [hlen',<-hn];exact hi
  rw [e1] at k1
  obtain⟨lb,loff,hlo,hlb,hlc⟩:=Lst.get k1 hi'
  obtain⟨x,hx⟩:∃ x,L'[i]?=some x:=⟨_,ge0 hi'⟩
  have hxg:L'[i]=x:=(gs0.1 hx).2
  have hf:x.first=firstK (P.getD i []):=by
   have h1:=congrArg (fun l=>l[i]?) k3
   obtain⟨p,hp⟩:∃ p,P[i]?=some p:=⟨_,ge0 (by rw [<-hn];exact hi)⟩
   simp only [List.getElem?_map,hx,hp,Option.map_some,Option.some.injEq,Prod.mk.injEq] at h1
   rw [List.getD_eq_getElem?_getD,hp]
   exact h1.1
  have a0:=hlc 0 (by decide)
  have a1:=hlc 1 (by decide)
  rw [hxg] at a0 a1
  obtain⟨bo,bc,hbe,-,-⟩:=Lst.form (k2 x (mg0 hx))
  exact⟨lb,loff,bo,_,bc,hlo,hlb,by rw [<-hf];exact a0,by rw [<-hbe];exact a1⟩)
 have hsv:SvRow w g N F:=by rw [g1] at g2;exact brow_sv g2 hN0
 have HMY:=hid (svmay_any g N cap F key w hsv hN0 hN1 hks)
 obtain⟨my,hmy⟩:∃ b,b=mayF F key (8*N):=⟨_,rfl⟩
 rw [<-hmy] at HMY
 have HGE:=hid (show getT P F N key=if my=true then (foundF P key n,hitsF P key n) else ([],0) from by unfold getT;rw [<-hmy,hn])
 subst e1
 subst g1
 have c0:w.cell? ⟨t,2,none⟩=some (.slice (some ⟨g,0,none⟩) N cap):=by rw [cell_of_row w t 2 _ _ (0,0) h0];rfl
 have HX0:=hid h0
 obtain⟨i0,hi0,hz0,hz1,hz2⟩:=info_parts info_M
 have HI:=hid (And.intro hi0 (And.intro hz0 (And.intro hz1 hz2)))
 clear hi0 hz0 hz1 hz2 h0 l1 l2 l3 g2 hlen hn hT hbw hP hsv hmy
 go_enter Tryz.func13,Tryz.ntmps13
 go_wp2_with fail
 refine HMY.out.mono ?_
 rintro e w1 ⟨rfl,hb1⟩
 have HB1:=hid hb1
 have HX1:=hid ((hb1.block t htw).trans HX0.out)
 clear hb1 c0 HMY
 cases my
 ·
  have HF:=hid (show GetTP t (.slice lo n lc) wv (.slice (some ⟨g,0,none⟩) N cap) rd P W F N (getT P F N key) w (.returned (.slice none 0 0)) w1 from by
   rw [HGE.out]
   exact⟨_,[],rfl,rfl,⟨World.ownsRow_nil _ _ _ _,fun x hx=>by cases hx⟩,HT.out.below HB1.out,below_grown HB1.out⟩)
  go_wp2_with fail
  go_ret
  exact HF.out
 ·
  have HGE2:=hid (show getT P F N key=(foundF P key n,hitsF P key n) from by rw [HGE.out];rfl)
  have d0:w1.cell? ⟨t,0,none⟩=some (.slice lo n lc):=by rw [cell_of_row w1 t 0 _ _ (0,0) HX1.out];rfl
  obtain⟨B,hB⟩:∃ b,b=w.heap.size:=⟨_,rfl⟩
  have htB:t<B:=by rw [hB];exact htw
  have HB:=hid hB
  clear hB
  go_wp2_with fail
  clear d0
  go_loopw [5,24] (fun ov iv wr=>∃ (i hs:Nat) (oo:Option Addr) (oc on:Nat) (A:List Ro),i<=n/\iv=.int .i64 i/\ov=.slice oo on oc/\hs<=i/\on<=8*i/\Hid (hs=hitsF P key i)/\Hid (on=A.length/\A.map (·.1)=foundF P key i)/\Hid (Copied wr (.slice oo on oc) A B)/\Hid (w.grownBy wr (some t))/\Hid (wr.heap[t]?=some (.cells #[.slice lo n lc,wv,.slice (some ⟨g,0,none⟩) N cap,.int .i64 ((rd+hs:Nat):Int)] 69 (0,0)))) (fun _ iv _=>n - (intOf iv).toNat)
  case atStart=>exact⟨0,0,none,0,0,[],by omega,rfl,rfl,by omega,by omega,hid rfl,hid ⟨rfl,rfl⟩,hid ⟨World.ownsRow_nil _ _ _ _,fun x hx=>by cases hx⟩,hid (below_grown HB1.out),HX1⟩
  case round=>
   obtain⟨i,hs,oo,oc,on,A,hi,rfl,rfl,hhs,hon,hh,ha,hC,hG,hX⟩:=hrel
   by_cases hlt:i<n
   ·
    have htbl:=HT.out.turn hG.out hX.out
    obtain⟨lb,loff,bo,bn,bc,hlo,hlbl,b0,b1⟩:=HLC.out wr (rd+hs) htbl i hlt
    subst hlo
    obtain⟨pk,hpk⟩:∃ s,s=firstK (P.getD i []):=⟨_,rfl⟩
    rw [<-hpk] at b0
    have HH:=hid (show hitsF P key (i+1)=hitsF P key i+cond (!lessS key pk && (decide (n<=i+1) || !lessS (firstK (P.getD (i+1) [])) key)) 1 0 from by
     show hitsF P key i+cond (hitF P key i) 1 0=_
     unfold hitF
     rw [<-hpk,HN.out])
    have HFO:=hid (show foundF P key (i+1)=foundF P key i++(if (!lessS key pk && (decide (n<=i+1) || !lessS (firstK (P.getD (i+1) [])) key))=true then (P.getD i []).filter (keyB key) else []) from by
     show foundF P key i++(if hitF P key i then _ else _)=_
     unfold hitF
     rw [<-hpk,HN.out])
    obtain⟨W6,hW6⟩:∃ z,z=wr.alloc (.cells #[.string pk,.slice bo bn bc] 74):=⟨_,rfl⟩
    obtain⟨k7,hk7⟩:∃ k,k=wr.heap.size:=⟨_,rfl⟩
    have hb6:Below wr.heap.size wr W6:=by rw [hW6];exact br.alloc lr _
    have hx7:W6.heap[k7]?=some (.cells #[.string pk,.slice bo bn bc] 74 (0,0)):=by rw [hW6,hk7];exact heap_alloc_new wr _
    have y0:W6.cell? ⟨k7,0,none⟩=some (.string pk):=by rw [cell_of_row W6 k7 0 _ _ (0,0) hx7];rfl
    have hx6:=(hb6.block t (ag0.1 hX.out).1).trans hX.out
    have HX6:=hid hx6
    have d0:W6.cell? ⟨t,0,none⟩=some (.slice (some ⟨lb,loff,none⟩) n lc):=by rw [cell_of_row W6 t 0 _ _ (0,0) hx6];rfl
    have HC6:=hid (hC.out.below hb6)
    have HG6:=hid (show w.grownBy W6 (some t) from hG.out.andThen (below_grown (row:=none) hb6) (fun j hj=>by cases hj))
    have HT6:=hid (show Tbl W6 t (.slice (some ⟨lb,loff,none⟩) n lc) wv (.slice (some ⟨g,0,none⟩) N cap) (rd+hs) P W F N from htbl.below hb6)
    have HW6:=hid hW6
    have HK7:=hid hk7
    have j0:(0:Int)<=(i:Int):=by omega
    have j1:(i:Int)<(n:Int):=by omega
    clear hpk hW6 hk7 hx7 hb6 hx6 htbl hC hG hX hlbl
    cases h1:lessS key pk
    ·
     have t1:(Op.bytesLess pk.toList key.toList || pk.toList == key.toList)=true:=by rw [le_or,h1];rfl
     by_cases h2:n<=i+1
     ·
      have HI1:=hid (show hitsF P key (i+1)=hs+1 from by rw [HH.out,h1,dt0 h2,<-hh.out];rfl)
      have HI2:=hid (show foundF P key (i+1)=foundF P key i++(P.getD i []).filter (keyB key) from by rw [HFO.out,h1,dt0 h2];rfl)
      have t2:¬ ((i:Int)+1<(n:Int)):=by omega
      clear h1
      go_upto_region 7 with fail
      rw [<-HW6.out,<-HK7.out]
      clear HW6 HK7 b0 b1
      have hip:i<P.length:=by have:=HN.out;omega
      obtain⟨p,hp⟩:∃ p,P[i]?=some p:=⟨_,ge0 hip⟩
      have hgd:P.getD i []=p:=by rw [List.getD_eq_getElem?_getD,hp];rfl
      rw [hgd] at HI2
      obtain⟨hp1,hp2⟩:=HGP.out.few p (mg0 hp)
      have HRE:=hid (HRD.out W6 (rd+hs) i p HT6.out HG6.out hp (by omega))
      have hcl:=fun q hq=>(World.ownsRow.lt HC6.out.row q hq).2
      have hBs:B<=W6.heap.size:=by rw [HB.out];exact HG6.out.size
      clear hip hp hgd
      go_wp2_with fail
      refine HRE.out.mono ?_
      rintro e w5 ⟨rv,R',rfl,hrm,hrc,hrt,hrg⟩
      clear y0 d0 t2 t1
      obtain⟨ro,rc,hrf⟩:=row_form hrc.row
      obtain⟨m,hm⟩:∃ m,m=R'.length:=⟨_,rfl⟩
      rw [<-hm] at hrf
      subst hrf
      have hm8:m<=8:=by have:=congrArg List.length hrm;rw [lm0] at this;omega
      have HM:=hid hm
      have HRM:=hid hrm
      obtain⟨b,hb⟩:∃ b,b=W6.heap.size:=⟨_,rfl⟩
      have hbB:B<=b:=by rw [hb];exact hBs
      have HC5:=hid (Rd.Copied.read HC6.out hrg htB)
      have HS5:=hid (show Copied w5 (.slice ro m rc) R' b from by rw [hb];exact hrc)
      have HO5:=hid (show (Value.slice ro m rc).ownBlock=none\/(Value.slice ro m rc).ownBlock≠(Value.slice oo on oc).ownBlock from by
       cases hv:(Value.slice ro m rc).ownBlock with
       | none=>exact Or.inl rfl
       | some q=>exact Or.inr fun e=>by have h1:=(World.ownsRow.lt hrc.row q hv).1;have h2:=hcl q e.symm;omega)
      have HG5:=hid (show w.grownBy w5 (some t) from HG6.out.andThen hrg (fun j hj=>Or.inr hj))
      have HX5:=hid (show w5.heap[t]?=some (.cells #[.slice (some ⟨lb,loff,none⟩) n lc,wv,.slice (some ⟨g,0,none⟩) N cap,.int .i64 ((rd+hs+1:Nat):Int)] 69 (0,0)) from hrt.box)
      obtain⟨X0,hX0⟩:∃ l,l=foundF P key i:=⟨_,rfl⟩
      rw [<-hX0] at ha HI2
      have HLN5:=hid ha.out.1
      have HMA5:=hid (show A.map (·.1)=X0++(p.take 0).filter (keyB key) from by simpa using ha.out.2)
      clear hrm hrc hrt hrg hm hcl hX0 HRE hb HT6
      go_wp2_with fail
      go_loopw [5,64] (fun ov jv wi=>∃ (j:Nat) (oo:Option Addr) (oc on:Nat) (A:List Ro),j<=m/\jv=.int .i64 j/\ov=.slice oo on oc/\on<=8*i+j/\Hid (on=A.length)/\Hid (A.map (·.1)=X0++(p.take j).filter (keyB key))/\Hid (Copied wi (.slice oo on oc) A B)/\Hid (Copied wi (.slice ro m rc) R' b)/\Hid ((Value.slice ro m rc).ownBlock=none\/(Value.slice ro m rc).ownBlock≠(Value.slice oo on oc).ownBlock)/\Hid (w.grownBy wi (some t))/\Hid (wi.heap[t]?=some (.cells #[.slice (some ⟨lb,loff,none⟩) n lc,wv,.slice (some ⟨g,0,none⟩) N cap,.int .i64 ((rd+hs+1:Nat):Int)] 69 (0,0)))) (fun _ jv _=>m - (intOf jv).toNat)
      case atStart=>exact⟨0,oo,oc,on,A,by omega,rfl,rfl,by omega,HLN5,HMA5,HC5,HS5,HO5,HG5,HX5⟩
      case round=>
       clear HLN5 HMA5 HC5 HS5 HO5 HG5 HX5 hon ha
       obtain⟨j,oo,oc,on,A,hj,rfl,rfl,hon,hln,hma,hC,hS,hO,hG,hX⟩:=hrel
       by_cases hlj:j<m
       ·
        have hjr:j<R'.length:=by have:=HM.out;omega
        obtain⟨x,hx⟩:∃ x,R'[j]?=some x:=⟨_,ge0 hjr⟩
        have hpj:p[j]?=some x.1:=by rw [<-HRM.out,List.getElem?_map,hx];rfl
        have hmr:MRow wr (.slice ro m rc) R':=hS.out.mrow
        obtain⟨xb,xoff,hao,hat⟩:=hmr.at_ hx
        cases hao
        have hxo:=hS.out.over x (mg0 hx)
        obtain⟨xo,xc,xe⟩:=row_form hxo
        obtain⟨xn,hxn⟩:∃ q,q=x.1.over.length:=⟨_,rfl⟩
        rw [<-hxn] at xe
        have hey:enM x=[.int .i64 x.1.table,.int .i64 x.1.kind,.string x.1.key,.string x.1.fin,.string x.1.val,.int .i64 x.1.expiry,.int .i64 x.1.at_.p,.int .i64 x.1.at_.l,.int .i64 x.1.at_.w,.slice xo xn xc]:=by unfold enM;rw [xe]
        have HEY:=hid hey
        obtain⟨hxl,a0,a1,a2,a3,a4,a5,a6,a7,a8,a9⟩:=hat
        rw [xe] at a9
        obtain⟨W9,hW9⟩:∃ z,z=wr.alloc (.cells #[.int .i64 x.1.table,.int .i64 x.1.kind,.string x.1.key,.string x.1.fin,.string x.1.val,.int .i64 x.1.expiry,.int .i64 x.1.at_.p,.int .i64 x.1.at_.l,.int .i64 x.1.at_.w,.slice xo xn xc] 42):=⟨_,rfl⟩
        obtain⟨k9,hk9⟩:∃ k,k=wr.heap.size:=⟨_,rfl⟩
        have hb9:Below wr.heap.size wr W9:=by rw [hW9];exact br.alloc lr _
        have hx9:W9.heap[k9]?=some (.cells #[.int .i64 x.1.table,.int .i64 x.1.kind,.string x.1.key,.string x.1.fin,.string x.1.val,.int .i64 x.1.expiry,.int .i64 x.1.at_.p,.int .i64 x.1.at_.l,.int .i64 x.1.at_.w,.slice xo xn xc] 42 (0,0)):=by rw [hW9,hk9];exact heap_alloc_new wr _
        have HC9:=hid (hC.out.below hb9)
        have HS9:=hid (hS.out.below hb9)
        have HXO:=hid (row_below hxo hb9)
        have HG9:=hid (show w.grownBy W9 (some t) from hG.out.andThen (below_grown (row:=none) hb9) (fun j hj=>by cases hj))
        have HX9:=hid (show W9.heap[t]?=some (.cells #[.slice (some ⟨lb,loff,none⟩) n lc,wv,.slice (some ⟨g,0,none⟩) N cap,.int .i64 ((rd+hs+1:Nat):Int)] 69 (0,0)) from (hb9.block t (ag0.1 hX.out).1).trans hX.out)
        have hB9:B<=W9.heap.size:=by rw [HB.out];exact HG9.out.size
        have HNEW:Hid (∀ j u,(enM x)[j]?=some u->(W9.alloc (.cells #[.int .i64 x.1.table,.int .i64 x.1.kind,.string x.1.key,.string x.1.fin,.string x.1.val,.int .i64 x.1.expiry,.int .i64 x.1.at_.p,.int .i64 x.1.at_.l,.int .i64 x.1.at_.w,.slice xo xn xc] 42)).cell? ((⟨W9.heap.size,0,none⟩:Addr).add j)=some u):=hid (by rw [HEY.out];exact new_cells _ _ _)
        have HONE:Hid (∀ u∈enM x,u.oneCell'=true):=hid (by rw [HEY.out];intro u hu;simp at hu;rcases hu with rfl | rfl | rfl | rfl | rfl | rfl | rfl | rfl | rfl | rfl <;> rfl)
        have HW9:=hid hW9
        have HK9:=hid hk9
        have i0':(0:Int)<=(j:Int):=by omega
        have i1':(j:Int)<(m:Int):=by omega
        have x0:W9.cell? ⟨k9,0,none⟩=some (.int .i64 x.1.table):=by rw [cell_of_row W9 k9 0 _ _ (0,0) hx9];rfl
        have x1:W9.cell? ⟨k9,1,none⟩=some (.int .i64 x.1.kind):=by rw [cell_of_row W9 k9 1 _ _ (0,0) hx9];rfl
        have x2:W9.cell? ⟨k9,2,none⟩=some (.string x.1.key):=by rw [cell_of_row W9 k9 2 _ _ (0,0) hx9];rfl
        have x3:W9.cell? ⟨k9,3,none⟩=some (.string x.1.fin):=by rw [cell_of_row W9 k9 3 _ _ (0,0) hx9];rfl
        have x4:W9.cell? ⟨k9,4,none⟩=some (.string x.1.val):=by rw [cell_of_row W9 k9 4 _ _ (0,0) hx9];rfl
        have x5:W9.cell? ⟨k9,5,none⟩=some (.int .i64 x.1.expiry):=by rw [cell_of_row W9 k9 5 _ _ (0,0) hx9];rfl
        have x6:W9.cell? ⟨k9,6,none⟩=some (.int .i64 x.1.at_.p):=by rw [cell_of_row W9 k9 6 _ _ (0,0) hx9];rfl
        have x7:W9.cell? ⟨k9,7,none⟩=some (.int .i64 x.1.at_.l):=by rw [cell_of_row W9 k9 7 _ _ (0,0) hx9];rfl
        have x8:W9.cell? ⟨k9,8,none⟩=some (.int .i64 x.1.at_.w):=by rw [cell_of_row W9 k9 8 _ _ (0,0) hx9];rfl
        have x9:W9.cell? ⟨k9,9,none⟩=some (.slice xo xn xc):=by rw [cell_of_row W9 k9 9 _ _ (0,0) hx9];rfl
        clear hx hmr hxo xe hey hb9 hx9 hW9 hk9 hxn hC hS hG hX hjr
        go_upto_region 12 with fail
        rw [<-HW9.out,<-HK9.out]
        clear HW9 HK9 a0 a1 a2 a3 a4 a5 a6 a7 a8 a9 hxl
        by_cases hkk:(x.1.key.toList == key.toList)=true
        ·
         have HKB:=hid (show keyB key x.1=true from hkk)
         have HCR:=hid (show W9.ownsRow B 42 10 (.slice oo on oc) on (A.flatMap enM) from by have h:=HC9.out.row;rw [<-hln.out] at h;exact h)
         go_wp2_with (at_builtin;refine wpList_append_own_loc rfl _ _ 22 rfl B 42 i0 zeroM zMM 120 Tryz.underlying22 HI.out.1 HI.out.2.1 rfl HI.out.2.2.1 HI.out.2.2.2 (by decide) (.slice oo on oc) on (A.flatMap enM) rfl (row_below HCR.out (br.alloc lr _)) ⟨_,0,none⟩ 1 1 (enM x) rfl (by decide) rfl HNEW.out HONE.out (by unfold maxLen;omega) (by omega) (by simp;omega) ?_)
         intro v1 w8 q1 q2 q3
         obtain⟨o3,c3,rfl⟩:=row_form q1
         have hba:Below W9.heap.size W9 (W9.alloc (.cells #[.int .i64 x.1.table,.int .i64 x.1.kind,.string x.1.key,.string x.1.fin,.string x.1.val,.int .i64 x.1.expiry,.int .i64 x.1.at_.p,.int .i64 x.1.at_.l,.int .i64 x.1.at_.w,.slice xo xn xc] 42)):=br.alloc lr _
         have hcr7:=row_below HCR.out hba
         have hc7:=HC9.out.below hba
         have hs7:=HS9.out.below hba
         have hxo7:=row_below HXO.out hba
         have hlt8:=fun q (hq:(Value.slice oo on oc).ownBlock=some q)=>World.ownsRow.lt hcr7 q hq
         have HC8:=hid (show Copied w8 (.slice o3 (on+1) c3) (A++[x]) B from by
          refine⟨by rw [la0,<-hln.out,fa0,List.flatMap_singleton];exact q1,fun y hy=>?_⟩
          have h1:(W9.alloc (.cells #[.int .i64 x.1.table,.int .i64 x.1.kind,.string x.1.key,.string x.1.fin,.string x.1.val,.int .i64 x.1.expiry,.int .i64 x.1.at_.p,.int .i64 x.1.at_.l,.int .i64 x.1.at_.w,.slice xo xn xc] 42)).ownsRow B 39 3 y.2 y.1.over.length (y.1.over.flatMap enS):=by
           rcases List.mem_append.1 hy with h1 | h1
           . exact hc7.over y h1
           . rw [List.mem_singleton.1 h1];exact own_base hxo7 hbB
          exact h1.kept q2 (rows_apart h1 hcr7 (by decide)))
         have HS8:=hid (show Copied w8 (.slice (some ⟨xb,xoff,none⟩) m rc) R' b from ⟨hs7.row.kept q2 hO.out,fun y hy=>(hs7.over y hy).kept q2 (rows_apart (hs7.over y hy) hcr7 (by decide))⟩)
         have HO8:=hid (own_far hs7.row hO.out q3)
         have HG8:=hid (show w.grownBy w8 (some t) from (HG9.out.andThen (below_grown (row:=none) hba) (fun j hj=>by cases hj)).andThen q2 (fun j hj=>Or.inl (by have:=(hlt8 j hj).1;have:=HB.out;omega)))
         have HX8:=hid (show w8.heap[t]?=some (.cells #[.slice (some ⟨lb,loff,none⟩) n lc,wv,.slice (some ⟨g,0,none⟩) N cap,.int .i64 ((rd+hs+1:Nat):Int)] 69 (0,0)) from by
          have h1:=(hba.block t (ag0.1 HX9.out).1).trans HX9.out
          exact (q2.block t (ag0.1 h1).1 (fun e=>by have:=(hlt8 t e.symm).1;omega)).trans h1)
         have HMA:=hid (show (A++[x]).map (·.1)=X0++(p.take (j+1)).filter (keyB key) from by rw [filt_snoc hpj,HKB.out,List.map_append,hma.out];simp)
         have HLN:=hid (show on+1=(A++[x]).length from by rw [hln.out];simp)
         clear q1 q2 q3 hba hcr7 hc7 hs7 hxo7 hlt8 x0 x1 x2 x3 x4 x5 x6 x7 x8 x9 hkk
         go_wp2_with fail
         go_roundw
         case rel=>exact⟨j+1,o3,c3,on+1,A++[x],by omega,by go_num,rfl,by omega,HLN,HMA,HC8,HS8,HO8,HG8,HX8⟩
         case measure=>simp [intOf];omega
        ·
         have hkf:(x.1.key.toList == key.toList)=false:=by simpa using hkk
         have HMA:=hid (show A.map (·.1)=X0++(p.take (j+1)).filter (keyB key) from by rw [filt_snoc hpj,show keyB key x.1=false from hkf,hma.out];simp)
         clear hkk x0 x1 x3 x4 x5 x6 x7 x8 x9
         go_wp2_with fail
         go_roundw
         case rel=>exact⟨j+1,oo,oc,on,A,by omega,by go_num,rfl,by omega,hln,HMA,HC9,HS9,hO,HG9,HX9⟩
         case measure=>simp [intOf];omega
       ·
        obtain rfl:j=m:=by omega
        have HMB:=hid (show on=A.length/\A.map (·.1)=foundF P key (i+1) from by
         have hpt:p.take j=p:=List.take_of_length_le (by have h1:=congrArg List.length HRM.out;rw [lm0] at h1;have:=HM.out;omega)
         have h1:=hma.out
         rw [hpt] at h1
         exact⟨hln.out,by rw [HI2.out];exact h1⟩)
        go_wp2_with fail
        go_roundw
        case rel=>exact⟨i+1,hs+1,oo,oc,on,A,by omega,by go_num,rfl,by omega,by omega,hid HI1.out.symm,HMB,hC,hG,hX⟩
        case measure=>simp [intOf];omega
     ·
      obtain⟨lb',loff',bo',bn',bc',e',hlb2,q0,q1⟩:=HLC.out W6 (rd+hs) HT6.out (i+1) (by omega)
      cases e'
      obtain⟨qk,hqk⟩:∃ s,s=firstK (P.getD (i+1) []):=⟨_,rfl⟩
      rw [<-hqk] at q0 HH HFO
      have t2:(i:Int)+1<(n:Int):=by omega
      have t3:(0:Int)<=(i:Int)+1:=by omega
      clear hqk
      cases h3:lessS qk key
      ·
       have HI1:=hid (show hitsF P key (i+1)=hs+1 from by rw [HH.out,h1,df0 h2,h3,<-hh.out];rfl)
       have HI2:=hid (show foundF P key (i+1)=foundF P key i++(P.getD i []).filter (keyB key) from by rw [HFO.out,h1,df0 h2,h3];rfl)
       have t4:Op.bytesLess qk.toList key.toList=false:=h3
       clear h1 h3
       go_upto_region 7 with fail
       rw [<-HW6.out,<-HK7.out]
       clear HW6 HK7 b0 b1
       have hip:i<P.length:=by have:=HN.out;omega
       obtain⟨p,hp⟩:∃ p,P[i]?=some p:=⟨_,ge0 hip⟩
       have hgd:P.getD i []=p:=by rw [List.getD_eq_getElem?_getD,hp];rfl
       rw [hgd] at HI2
       obtain⟨hp1,hp2⟩:=HGP.out.few p (mg0 hp)
       have HRE:=hid (HRD.out W6 (rd+hs) i p HT6.out HG6.out hp (by omega))
       have hcl:=fun q hq=>(World.ownsRow.lt HC6.out.row q hq).2
       have hBs:B<=W6.heap.size:=by rw [HB.out];exact HG6.out.size
       clear hip hp hgd
       go_wp2_with fail
       refine HRE.out.mono ?_
       rintro e w5 ⟨rv,R',rfl,hrm,hrc,hrt,hrg⟩
       clear y0 d0 t2 t1 q0 q1 hlb2 t3 t4
       obtain⟨ro,rc,hrf⟩:=row_form hrc.row
       obtain⟨m,hm⟩:∃ m,m=R'.length:=⟨_,rfl⟩
       rw [<-hm] at hrf
       subst hrf
       have hm8:m<=8:=by have:=congrArg List.length hrm;rw [lm0] at this;omega
       have HM:=hid hm
       have HRM:=hid hrm
       obtain⟨b,hb⟩:∃ b,b=W6.heap.size:=⟨_,rfl⟩
       have hbB:B<=b:=by rw [hb];exact hBs
       have HC5:=hid (Rd.Copied.read HC6.out hrg htB)
       have HS5:=hid (show Copied w5 (.slice ro m rc) R' b from by rw [hb];exact hrc)
       have HO5:=hid (show (Value.slice ro m rc).ownBlock=none\/(Value.slice ro m rc).ownBlock≠(Value.slice oo on oc).ownBlock from by
        cases hv:(Value.slice ro m rc).ownBlock with
        | none=>exact Or.inl rfl
        | some q=>exact Or.inr fun e=>by have h1:=(World.ownsRow.lt hrc.row q hv).1;have h2:=hcl q e.symm;omega)
       have HG5:=hid (show w.grownBy w5 (some t) from HG6.out.andThen hrg (fun j hj=>Or.inr hj))
       have HX5:=hid (show w5.heap[t]?=some (.cells #[.slice (some ⟨lb,loff,none⟩) n lc,wv,.slice (some ⟨g,0,none⟩) N cap,.int .i64 ((rd+hs+1:Nat):Int)] 69 (0,0)) from hrt.box)
       obtain⟨X0,hX0⟩:∃ l,l=foundF P key i:=⟨_,rfl⟩
       rw [<-hX0] at ha HI2
       have HLN5:=hid ha.out.1
       have HMA5:=hid (show A.map (·.1)=X0++(p.take 0).filter (keyB key) from by simpa using ha.out.2)
       clear hrm hrc hrt hrg hm hcl hX0 HRE hb HT6
       go_wp2_with fail
       go_loopw [5,64] (fun ov jv wi=>∃ (j:Nat) (oo:Option Addr) (oc on:Nat) (A:List Ro),j<=m/\jv=.int .i64 j/\ov=.slice oo on oc/\on<=8*i+j/\Hid (on=A.length)/\Hid (A.map (·.1)=X0++(p.take j).filter (keyB key))/\Hid (Copied wi (.slice oo on oc) A B)/\Hid (Copied wi (.slice ro m rc) R' b)/\Hid ((Value.slice ro m rc).ownBlock=none\/(Value.slice ro m rc).ownBlock≠(Value.slice oo on oc).ownBlock)/\Hid (w.grownBy wi (some t))/\Hid (wi.heap[t]?=some (.cells #[.slice (some ⟨lb,loff,none⟩) n lc,wv,.slice (some ⟨g,0,none⟩) N cap,.int .i64 ((rd+hs+1:Nat):Int)] 69 (0,0)))) (fun _ jv _=>m - (intOf jv).toNat)
       case atStart=>exact⟨0,oo,oc,on,A,by omega,rfl,rfl,by omega,HLN5,HMA5,HC5,HS5,HO5,HG5,HX5⟩
       case round=>
        clear HLN5 HMA5 HC5 HS5 HO5 HG5 HX5 hon ha
        obtain⟨j,oo,oc,on,A,hj,rfl,rfl,hon,hln,hma,hC,hS,hO,hG,hX⟩:=hrel
        by_cases hlj:j<m
        ·
         have hjr:j<R'.length:=by have:=HM.out;omega
         obtain⟨x,hx⟩:∃ x,R'[j]?=some x:=⟨_,ge0 hjr⟩
         have hpj:p[j]?=some x.1:=by rw [<-HRM.out,List.getElem?_map,hx];rfl
         have hmr:MRow wr (.slice ro m rc) R':=hS.out.mrow
         obtain⟨xb,xoff,hao,hat⟩:=hmr.at_ hx
         cases hao
         have hxo:=hS.out.over x (mg0 hx)
         obtain⟨xo,xc,xe⟩:=row_form hxo
         obtain⟨xn,hxn⟩:∃ q,q=x.1.over.length:=⟨_,rfl⟩
         rw [<-hxn] at xe
         have hey:enM x=[.int .i64 x.1.table,.int .i64 x.1.kind,.string x.1.key,.string x.1.fin,.string x.1.val,.int .i64 x.1.expiry,.int .i64 x.1.at_.p,.int .i64 x.1.at_.l,.int .i64 x.1.at_.w,.slice xo xn xc]:=by unfold enM;rw [xe]
         have HEY:=hid hey
         obtain⟨hxl,a0,a1,a2,a3,a4,a5,a6,a7,a8,a9⟩:=hat
         rw [xe] at a9
         obtain⟨W9,hW9⟩:∃ z,z=wr.alloc (.cells #[.int .i64 x.1.table,.int .i64 x.1.kind,.string x.1.key,.string x.1.fin,.string x.1.val,.int .i64 x.1.expiry,.int .i64 x.1.at_.p,.int .i64 x.1.at_.l,.int .i64 x.1.at_.w,.slice xo xn xc] 42):=⟨_,rfl⟩
         obtain⟨k9,hk9⟩:∃ k,k=wr.heap.size:=⟨_,rfl⟩
         have hb9:Below wr.heap.size wr W9:=by rw [hW9];exact br.alloc lr _
         have hx9:W9.heap[k9]?=some (.cells #[.int .i64 x.1.table,.int .i64 x.1.kind,.string x.1.key,.string x.1.fin,.string x.1.val,.int .i64 x.1.expiry,.int .i64 x.1.at_.p,.int .i64 x.1.at_.l,.int .i64 x.1.at_.w,.slice xo xn xc] 42 (0,0)):=by rw [hW9,hk9];exact heap_alloc_new wr _
         have HC9:=hid (hC.out.below hb9)
         have HS9:=hid (hS.out.below hb9)
         have HXO:=hid (row_below hxo hb9)
         have HG9:=hid (show w.grownBy W9 (some t) from hG.out.andThen (below_grown (row:=none) hb9) (fun j hj=>by cases hj))
         have HX9:=hid (show W9.heap[t]?=some (.cells #[.slice (some ⟨lb,loff,none⟩) n lc,wv,.slice (some ⟨g,0,none⟩) N cap,.int .i64 ((rd+hs+1:Nat):Int)] 69 (0,0)) from (hb9.block t (ag0.1 hX.out).1).trans hX.out)
         have hB9:B<=W9.heap.size:=by rw [HB.out];exact HG9.out.size
         have HNEW:Hid (∀ j u,(enM x)[j]?=some u->(W9.alloc (.cells #[.int .i64 x.1.table,.int .i64 x.1.kind,.string x.1.key,.string x.1.fin,.string x.1.val,.int .i64 x.1.expiry,.int .i64 x.1.at_.p,.int .i64 x.1.at_.l,.int .i64 x.1.at_.w,.slice xo xn xc] 42)).cell? ((⟨W9.heap.size,0,none⟩:Addr).add j)=some u):=hid (by rw [HEY.out];exact new_cells _ _ _)
         have HONE:Hid (∀ u∈enM x,u.oneCell'=true):=hid (by rw [HEY.out];intro u hu;simp at hu;rcases hu with rfl | rfl | rfl | rfl | rfl | rfl | rfl | rfl | rfl | rfl <;> rfl)
         have HW9:=hid hW9
         have HK9:=hid hk9
         have i0':(0:Int)<=(j:Int):=by omega
         have i1':(j:Int)<(m:Int):=by omega
         have x0:W9.cell? ⟨k9,0,none⟩=some (.int .i64 x.1.table):=by rw [cell_of_row W9 k9 0 _ _ (0,0) hx9];rfl
         have x1:W9.cell? ⟨k9,1,none⟩=some (.int .i64 x.1.kind):=by rw [cell_of_row W9 k9 1 _ _ (0,0) hx9];rfl
         have x2:W9.cell? ⟨k9,2,none⟩=some (.string x.1.key):=by rw [cell_of_row W9 k9 2 _ _ (0,0) hx9];rfl
         have x3:W9.cell? ⟨k9,3,none⟩=some (.string x.1.fin):=by rw [cell_of_row W9 k9 3 _ _ (0,0) hx9];rfl
         have x4:W9.cell? ⟨k9,4,none⟩=some (.string x.1.val):=by rw [cell_of_row W9 k9 4 _ _ (0,0) hx9];rfl
         have x5:W9.cell? ⟨k9,5,none⟩=some (.int .i64 x.1.expiry):=by rw [cell_of_row W9 k9 5 _ _ (0,0) hx9];rfl
         have x6:W9.cell? ⟨k9,6,none⟩=some (.int .i64 x.1.at_.p):=by rw [cell_of_row W9 k9 6 _ _ (0,0) hx9];rfl
         have x7:W9.cell? ⟨k9,7,none⟩=some (.int .i64 x.1.at_.l):=by rw [cell_of_row W9 k9 7 _ _ (0,0) hx9];rfl
         have x8:W9.cell? ⟨k9,8,none⟩=some (.int .i64 x.1.at_.w):=by rw [cell_of_row W9 k9 8 _ _ (0,0) hx9];rfl
         have x9:W9.cell? ⟨k9,9,none⟩=some (.slice xo xn xc):=by rw [cell_of_row W9 k9 9 _ _ (0,0) hx9];rfl
         clear hx hmr hxo xe hey hb9 hx9 hW9 hk9 hxn hC hS hG hX hjr
         go_upto_region 12 with fail
         rw [<-HW9.out,<-HK9.out]
         clear HW9 HK9 a0 a1 a2 a3 a4 a5 a6 a7 a8 a9 hxl
         by_cases hkk:(x.1.key.toList == key.toList)=true
         ·
          have HKB:=hid (show keyB key x.1=true from hkk)
          have HCR:=hid (show W9.ownsRow B 42 10 (.slice oo on oc) on (A.flatMap enM) from by have h:=HC9.out.row;rw [<-hln.out] at h;exact h)
          go_wp2_with (at_builtin;refine wpList_append_own_loc rfl _ _ 22 rfl B 42 i0 zeroM zMM 120 Tryz.underlying22 HI.out.1 HI.out.2.1 rfl HI.out.2.2.1 HI.out.2.2.2 (by decide) (.slice oo on oc) on (A.flatMap enM) rfl (row_below HCR.out (br.alloc lr _)) ⟨_,0,none⟩ 1 1 (enM x) rfl (by decide) rfl HNEW.out HONE.out (by unfold maxLen;omega) (by omega) (by simp;omega) ?_)
          intro v1 w8 q1 q2 q3
          obtain⟨o3,c3,rfl⟩:=row_form q1
          have hba:Below W9.heap.size W9 (W9.alloc (.cells #[.int .i64 x.1.table,.int .i64 x.1.kind,.string x.1.key,.string x.1.fin,.string x.1.val,.int .i64 x.1.expiry,.int .i64 x.1.at_.p,.int .i64 x.1.at_.l,.int .i64 x.1.at_.w,.slice xo xn xc] 42)):=br.alloc lr _
          have hcr7:=row_below HCR.out hba
          have hc7:=HC9.out.below hba
          have hs7:=HS9.out.below hba
          have hxo7:=row_below HXO.out hba
          have hlt8:=fun q (hq:(Value.slice oo on oc).ownBlock=some q)=>World.ownsRow.lt hcr7 q hq
          have HC8:=hid (show Copied w8 (.slice o3 (on+1) c3) (A++[x]) B from by
           refine⟨by rw [la0,<-hln.out,fa0,List.flatMap_singleton];exact q1,fun y hy=>?_⟩
           have h1:(W9.alloc (.cells #[.int .i64 x.1.table,.int .i64 x.1.kind,.string x.1.key,.string x.1.fin,.string x.1.val,.int .i64 x.1.expiry,.int .i64 x.1.at_.p,.int .i64 x.1.at_.l,.int .i64 x.1.at_.w,.slice xo xn xc] 42)).ownsRow B 39 3 y.2 y.1.over.length (y.1.over.flatMap enS):=by
            rcases List.mem_append.1 hy with h1 | h1
            . exact hc7.over y h1
            . rw [List.mem_singleton.1 h1];exact own_base hxo7 hbB
           exact h1.kept q2 (rows_apart h1 hcr7 (by decide)))
          have HS8:=hid (show Copied w8 (.slice (some ⟨xb,xoff,none⟩) m rc) R' b from ⟨hs7.row.kept q2 hO.out,fun y hy=>(hs7.over y hy).kept q2 (rows_apart (hs7.over y hy) hcr7 (by decide))⟩)
          have HO8:=hid (own_far hs7.row hO.out q3)
          have HG8:=hid (show w.grownBy w8 (some t) from (HG9.out.andThen (below_grown (row:=none) hba) (fun j hj=>by cases hj)).andThen q2 (fun j hj=>Or.inl (by have:=(hlt8 j hj).1;have:=HB.out;omega)))
          have HX8:=hid (show w8.heap[t]?=some (.cells #[.slice (some ⟨lb,loff,none⟩) n lc,wv,.slice (some ⟨g,0,none⟩) N cap,.int .i64 ((rd+hs+1:Nat):Int)] 69 (0,0)) from by
           have h1:=(hba.block t (ag0.1 HX9.out).1).trans HX9.out
           exact (q2.block t (ag0.1 h1).1 (fun e=>by have:=(hlt8 t e.symm).1;omega)).trans h1)
          have HMA:=hid (show (A++[x]).map (·.1)=X0++(p.take (j+1)).filter (keyB key) from by rw [filt_snoc hpj,HKB.out,List.map_append,hma.out];simp)
          have HLN:=hid (show on+1=(A++[x]).length from by rw [hln.out];simp)
          clear q1 q2 q3 hba hcr7 hc7 hs7 hxo7 hlt8 x0 x1 x2 x3 x4 x5 x6 x7 x8 x9 hkk
          go_wp2_with fail
          go_roundw
          case rel=>exact⟨j+1,o3,c3,on+1,A++[x],by omega,by go_num,rfl,by omega,HLN,HMA,HC8,HS8,HO8,HG8,HX8⟩
          case measure=>simp [intOf];omega
         ·
          have hkf:(x.1.key.toList == key.toList)=false:=by simpa using hkk
          have HMA:=hid (show A.map (·.1)=X0++(p.take (j+1)).filter (keyB key) from by rw [filt_snoc hpj,show keyB key x.1=false from hkf,hma.out];simp)
          clear hkk x0 x1 x3 x4 x5 x6 x7 x8 x9
          go_wp2_with fail
          go_roundw
          case rel=>exact⟨j+1,oo,oc,on,A,by omega,by go_num,rfl,by omega,hln,HMA,HC9,HS9,hO,HG9,HX9⟩
          case measure=>simp [intOf];omega
        ·
         obtain rfl:j=m:=by omega
         have HMB:=hid (show on=A.length/\A.map (·.1)=foundF P key (i+1) from by
          have hpt:p.take j=p:=List.take_of_length_le (by have h1:=congrArg List.length HRM.out;rw [lm0] at h1;have:=HM.out;omega)
          have h1:=hma.out
          rw [hpt] at h1
          exact⟨hln.out,by rw [HI2.out];exact h1⟩)
         go_wp2_with fail
         go_roundw
         case rel=>exact⟨i+1,hs+1,oo,oc,on,A,by omega,by go_num,rfl,by omega,by omega,hid HI1.out.symm,HMB,hC,hG,hX⟩
         case measure=>simp [intOf];omega
      ·
       have HI1:=hid (show hitsF P key (i+1)=hs from by rw [HH.out,h1,df0 h2,h3,<-hh.out];rfl)
       have HI2:=hid (show foundF P key (i+1)=foundF P key i from by rw [HFO.out,h1,df0 h2,h3];simp)
       have t4:Op.bytesLess qk.toList key.toList=true:=h3
       clear h1 h3
       go_upto_region 7 with fail
       rw [<-HW6.out,<-HK7.out]
       clear HW6 HK7 b0 b1
       go_wp2_with fail
       go_roundw
       case rel=>exact⟨i+1,hs,oo,oc,on,A,by omega,by go_num,rfl,by omega,by omega,hid HI1.out.symm,hid ⟨ha.out.1,by rw [HI2.out];exact ha.out.2⟩,HC6,HG6,HX6⟩
       case measure=>simp [intOf];omega
    ·
     have t1:(Op.bytesLess pk.toList key.toList || pk.toList == key.toList)=false:=by rw [le_or,h1];rfl
     have HI1:=hid (show hitsF P key (i+1)=hs from by rw [HH.out,h1,<-hh.out];rfl)
     have HI2:=hid (show foundF P key (i+1)=foundF P key i from by rw [HFO.out,h1];simp)
     clear h1
     go_upto_region 7 with fail
     rw [<-HW6.out,<-HK7.out]
     clear HW6 HK7 b0 b1
     go_wp2_with fail
     go_roundw
     case rel=>exact⟨i+1,hs,oo,oc,on,A,by omega,by go_num,rfl,by omega,by omega,hid HI1.out.symm,hid ⟨ha.out.1,by rw [HI2.out];exact ha.out.2⟩,HC6,HG6,HX6⟩
     case measure=>simp [intOf];omega
   ·
    obtain rfl:i=n:=by omega
    have HTF:=hid (HT.out.turn hG.out hX.out)
    have HF:=hid (show GetTP t (.slice lo i lc) wv (.slice (some ⟨g,0,none⟩) N cap) rd P W F N (getT P F N key) w (.returned (.slice oo on oc)) wr from by
     rw [HGE2.out]
     exact⟨_,A,rfl,ha.out.2,by rw [<-HB.out];exact hC.out,by show Tbl wr t _ wv _ (rd+hitsF P key i) P W F N;rw [<-hh.out];exact HTF.out,hG.out⟩)
    go_wp2_with fail
    go_ret
    exact HF.out
