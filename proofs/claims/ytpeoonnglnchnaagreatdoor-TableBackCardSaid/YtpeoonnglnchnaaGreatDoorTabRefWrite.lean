/- TabRefWrite. -/
import Derived.Test.YtpeoonnglnchnaaGreatDoorTabRefPut
import Derived.Test.YtpeoonnglnchnaaGreatDoorPkTabRefMay
set_option linter.unusedSectionVars false
set_option linter.unusedSimpArgs false
set_option linter.unusedVariables false
set_option maxHeartbeats 16000000
set_option maxRecDepth 100000
namespace Go.Proofs.YtpeoonnglnchnaaGreatDoor.Tab
open Go.Lib (hid)
open RowKit YtpeoonnglnchnaaGreatDoor.Spare RegInv Mut Mrk YtpeoonnglnchnaaGreatDoor.Rd
variable [Inhabited Lim]
theorem rdrop_leaf {P:List Pg} {k:Nat} {p:Pg} (h:P[k]?=some p):((P.drop k).map (fun p=>p.2.map (·.1))).flatMap leafB=leafB (p.2.map (·.1))++((P.drop (k+1)).map (fun p=>p.2.map (·.1))).flatMap leafB:=by
 obtain⟨hi,he⟩:=gs0.1 h
 rw [dg0 hi,he]
 rfl
theorem rows_nodup {c:Con} {n:Nat} (h:Mut.Good c n):(c.cells++c.sibs).Nodup:=by
 have h1:=h.reps.nodup
 unfold Con.all at h1
 obtain⟨a1,a2,a3⟩:=List.nodup_append.1 h1
 obtain⟨b1,b2,b3⟩:=List.nodup_append.1 a2
 exact List.nodup_append.2 ⟨a1,b2,fun x hx y hy=>a3 x hx y (List.mem_append_right _ hy)⟩
theorem reftab_any {c:Con} {n:Nat} {v:Value} {w:World} (hv:IsC c v w) (h:Mut.Good c n) (hn:n<=60) :
  Calls Tryz.prog 23 #[v] w fun e w'=>∃ v',e=.returned v'/\OwnB w' w.heap.size v' (tableB c)/\Below w.heap.size w w':=by
 obtain⟨o1,n1,k1,o2,n2,k2,o3,n3,k3,rfl,hlc⟩:=hv.form
 obtain⟨i0,hi,hz0,hz1,hz2⟩:=info_parts_B
 have HI:=hid (And.intro hi (And.intro hz0 (And.intro hz1 hz2)))
 obtain⟨K,hK⟩:∃ K,K=keysC c:=⟨_,rfl⟩
 obtain⟨RW,hRW⟩:∃ R,R=rowsC c:=⟨_,rfl⟩
 obtain⟨P0,hP0⟩:∃ P,P=pagesF RW:=⟨_,rfl⟩
 obtain⟨N,hN⟩:∃ N,N=sizeC c:=⟨_,rfl⟩
 obtain⟨F,hF⟩:∃ F,F=bitsC c:=⟨_,rfl⟩
 have HEQ:=hid (show tableB c=(putF P0.length++P0.flatMap leafB)++textF (strOf (sieveL F N))++bytesR (allF (wipesC c)) from by unfold tableB;rw [hP0,hRW,hF,hN])
 have HKK:=hid (show K=dupF (RW.map (·.key))/\N=sizeF K.length/\F=ofF (8*N) K from ⟨by rw [hK,hRW];rfl,by rw [hN,hK];rfl,by rw [hF,hN,hK];rfl⟩)
 have HEA:=hid (show ∀ p∈P0,(∀ m∈p,rightF m=true)/\p≠[]/\p.length<=8 from by rw [hP0,hRW];exact pagesC_each h.okc)
 have hpl:(P0.flatMap leafB).length<=66600:=by have:=pagesC_len h.okc;rw [hP0,hRW];omega
 have hrl:RW.length<=n:=by rw [hRW];exact rowsC_len h.okc
 have hp60:P0.length<=60:=by have:=pagesF_len _ RW lr;rw [hP0];omega
 have HRR:=hid (show ∀ m∈RW,rightF m=true from by rw [hRW];exact rowsC_right h.okc)
 have HPF:=hid hP0
 have HRW:=hid hRW
 have HG:=hid h
 have HLC:=hid hlc
 obtain⟨W1,hW1⟩:∃ W,W=w.alloc (.cells #[.slice o1 n1 k1,.slice o2 n2 k2,.slice o3 n3 k3] 25):=⟨_,rfl⟩
 obtain⟨k,hk⟩:∃ k,k=w.heap.size:=⟨_,rfl⟩
 have hb1:Below w.heap.size w W1:=by rw [hW1];exact br.alloc lr _
 have hc3:C3 W1 k (.slice o1 n1 k1) (.slice o2 n2 k2) (.slice o3 n3 k3):=by rw [hW1,hk];exact C3.newR w _ _ _
 have hcl:(c.cells++c.sibs).length<=n:=by have:=rowsC_len h.okc;unfold rowsC at this;rw [rowsF_len] at this;exact this
 have HRS:=hid (refrows16_any _ _ _ c n W1 (hlc.below hb1) (fun m hm=>(small_right (rowsC_right h.okc m (rowsF_mem.2 hm))).over) (rows_nodup h) (by omega))
 have HB1:=hid hb1
 have HC3:=hid hc3
 have HW1:=hid hW1
 have HKE:=hid hk
 clear hv h hlc hK hRW hP0 hN hF hb1 hW1 hk hi hz0 hz1 hz2 hcl
 obtain⟨-,s0,s1,s2,-,-,-⟩:=hc3
 go_enter Tryz.func23,Tryz.ntmps23
 go_upto_region 1 with fail
 rw [<-HW1.out,<-HKE.out]
 go_wp2_with fail
 refine HRS.out.mono ?_
 rintro e w2 ⟨v2,R,rfl,hmap,hmr,hb2⟩
 have HB2:=hid (below_then HB1.out lr hb2)
 have HC2:=hid (HC3.out.below hb2)
 have HMR:=hid hmr
 have HMAP:=hid (show R.map (·.1)=RW from by rw [hmap,HRW.out];rfl)
 have hRl:R.length<=60:=by have:=congrArg List.length HMAP.out;rw [lm0] at this;omega
 have HCU:=hid (refpages_any v2 R w2 hmr (by omega))
 clear hmap hmr hb2 s0 s1 s2 HRS HC3
 go_wp2_with fail
 refine HCU.out.mono ?_
 rintro e w3 ⟨v3,P,rfl,hop,hpm0,hb3⟩
 have HB3:=hid (below_then HB2.out lr hb3)
 have HC4:=hid (HC2.out.below hb3)
 have HMR3:=hid (HMR.out.below hb3)
 have hpm:P.map (fun p=>p.2.map (·.1))=pagesF (R.map (·.1)):=by
  have h:=pagesF_map (fun x:Ro=>x.1) _ R lr
  rw [<-h,<-hpm0,List.map_map];rfl
 have HPX:=hid (show ∀ p∈P,∀ x∈p.2,x∈R from fun p hp=>(pagesF_each _ R lr p.2 (by rw [<-hpm0];exact List.mem_map.2 ⟨p,hp,rfl⟩)).2.2)
 have HPM:=hid (show P.map (fun p=>p.2.map (·.1))=P0 from by rw [hpm,HMAP.out,HPF.out])
 have HPL:=hid (show P.length=P0.length from by rw [<-HPM.out,lm0])
 obtain⟨pn,hpn⟩:∃ q,q=P.length:=⟨_,rfl⟩
 have HPN:=hid hpn
 have hpn60:pn<=60:=by rw [hpn,HPL.out];exact hp60
 obtain⟨oo,oc,rfl⟩:=row_form hop.row
 rw [<-hpn] at hop ⊢
 have HOP:=hid hop
 obtain⟨B,hB⟩:∃ B,B=w3.heap.size:=⟨_,rfl⟩
 have HB:=hid hB
 have HPU:=hid (refput_any pn w3 (by omega))
 obtain⟨T,hT⟩:∃ T,T=putF P0.length++P0.flatMap leafB:=⟨_,rfl⟩
 have hTl:T.length<=67000:=by rw [hT,la0];have:=putF_ten (n:=P0.length) (by omega);omega
 have HT:=hid (show putF pn++((P.drop 0).map (fun p=>p.2.map (·.1))).flatMap leafB=T from by rw [hT,hpn,HPL.out,List.drop_zero,HPM.out])
 rw [<-hT] at HEQ
 have HBS:=hid (show ∀ W,Below B w3 W->B<=W.heap.size from fun W hW=>by rw [hB];exact hW.size)
 have hcm:∀ a b,Below B w3 a->Below a.heap.size a b->Below B w3 b:=fun a b h hb=>below_then h (by rw [hB];exact Nat.le_refl _) hb
 clear hop hpm hpm0 hb3 hpn hB hT HCU HMR HC2
 go_wp2_with fail
 refine HPU.out.mono ?_
 rintro e w4 ⟨v4,rfl,ho4,hb4⟩
 have HO4:=hid (show OwnB w4 B v4 (putF pn) from by rw [HB.out];exact ho4)
 have HB4:=hid (show Below B w3 w4 from by rw [HB.out];exact hb4)
 clear ho4 hb4 HPU
 go_wp2_with fail
 go_loopw [5,6] (fun bv iv wr=>∃ (i:Nat) (cur:List Nat),i<=pn/\iv=.int .i64 i/\cur.length<=67000/\Hid (cur++((P.drop i).map (fun p=>p.2.map (·.1))).flatMap leafB=T)/\Hid (OwnB wr B bv cur)/\Hid (Below B w3 wr)) (fun _ iv _=>pn - (intOf iv).toNat)
 case atStart=>exact⟨0,putF pn,by omega,rfl,by have:=congrArg List.length HT.out;rw [la0] at this;omega,HT,HO4,HB4⟩
 case round=>
  obtain⟨i,cur,hi,rfl,hcl,hcur,ho,hb⟩:=hrel
  by_cases hlt:i<pn
  ·
   have hir:i<P.length:=by have:=HPN.out;omega
   obtain⟨p,hp⟩:∃ p,P[i]?=some p:=⟨_,ge0 hir⟩
   have hpm:=mg0 hp
   have hmem:p.2.map (·.1)∈P0:=by rw [<-HPM.out];exact List.mem_map.2 ⟨p,hpm,rfl⟩
   obtain⟨hrt,hne,h8⟩:=HEA.out _ hmem
   rw [lm0] at h8
   have hpx:=HPX.out p hpm
   have hcp3:MRow w3 p.1 p.2:=own_mrow (HOP.out.rows p hpm) (fun x hx=>HMR3.out.over x (hpx x hx))
   obtain⟨pv,Q⟩:=p
   simp only [] at hmem hrt hne h8 hcp3 hpx
   cases Q with
   | nil=>exact absurd rfl hne
   | cons x Q=>
   obtain⟨po,pc,hpf,-,-⟩:=hcp3.form
   subst hpf
   obtain⟨xb,xoff,hao,-⟩:=hcp3.at_ (show (x::Q)[0]?=some x from rfl)
   cases hao
   have HCP:=hid hcp3
   have HRT:=hid hrt
   obtain⟨Ql,hQl⟩:∃ q,q=(x::Q).length:=⟨_,rfl⟩
   have hstep:=hcur.out
   rw [rdrop_leaf hp] at hstep
   obtain⟨ky,hky⟩:∃ ky,ky=x.1.key:=⟨_,rfl⟩
   obtain⟨PB,hPB⟩:∃ l,l=pageB ((x::Q).map (·.1)):=⟨_,rfl⟩
   have hfk:leafB ((x::Q).map (·.1))=textF ky++textF (strOf PB):=by rw [hky,hPB];rfl
   have hPBl:PB.length<=8400:=by rw [hPB];have:=pageB_len hrt (by rw [lm0];omega);rw [lm0] at this;omega
   have hPB0:PB≠[]:=by rw [hPB];intro e;unfold pageB at e;exact Rd.putF_ne _ (List.append_eq_nil_iff.1 e).1
   have hkys:ky.size<=24:=by rw [hky];exact (right_sizes (hrt x.1 List.mem_cons_self)).1
   obtain⟨p1,q1⟩:∃ l,l=textF ky:=⟨_,rfl⟩
   obtain⟨sP,hsP⟩:∃ s,s=strOf PB:=⟨_,rfl⟩
   obtain⟨p2,q2⟩:∃ l,l=textF sP:=⟨_,rfl⟩
   obtain⟨l1,e1⟩:∃ l,l=cur++p1:=⟨_,rfl⟩
   obtain⟨l2,e2⟩:∃ l,l=l1++p2:=⟨_,rfl⟩
   have hnext:l2++((P.drop (i+1)).map (fun p=>p.2.map (·.1))).flatMap leafB=T:=by rw [e2,e1,<-hstep];simp only [];rw [hfk,q1,q2,hsP];simp [List.append_assoc]
   have y2:l2.length<=67000:=by have:=congrArg List.length hnext;rw [la0] at this;omega
   have z2:l1.length+p2.length<=67000:=by rw [e2,la0] at y2;omega
   have z1:cur.length+p1.length<=67000:=by rw [e1,la0] at z2;omega
   have HN1:=hid (show p1≠[] from by rw [q1];unfold textF;simp [Rd.putF_ne])
   have HN2:=hid (show p2≠[] from by rw [q2];unfold textF;simp [Rd.putF_ne])
   have hss:sP.size<=8400:=by rw [hsP,strOf_size];exact hPBl
   have HOC:=hid (show ∀ W,Below B w3 W->W.ownsRow w2.heap.size 22 1 (.slice oo pn oc) pn (P.flatMap enPg) from fun W hW=>by rw [HB.out] at hW;have h:=(HOP.out.below hW).row;rw [<-HPN.out] at h;exact h)
   obtain⟨ob,hob⟩:∃ g,oo=some ⟨g,0,none⟩:=by
    rcases (HOC.out wr hb.out).2 with ⟨h1,h0⟩ | ⟨g,cap,cu,h1,_⟩
    . omega
    . injection h1 with h1;exact⟨g,h1⟩
   subst hob
   rw [<-hQl] at HCP
   have HC0:=hid (show ∀ W,Below B w3 W->W.cell? ⟨ob,i,none⟩=some (.slice (some ⟨xb,xoff,none⟩) Ql pc) from fun W hW=>by
    have h:=World.ownsRow.cells (HOC.out W hW) (g:=ob) rfl i (.slice (some ⟨xb,xoff,none⟩) Ql pc) (by rw [flat_pg,List.getElem?_map,hp,hQl];rfl)
    rw [addr_add,Nat.zero_add] at h
    exact h)
   have hQ0:0<Ql:=by rw [hQl];simp
   have hQ8:Ql<=8:=by rw [hQl];exact h8
   have HA2:=hid (show ∀ W,Below B w3 W->W.cell? ⟨xb,xoff+2,none⟩=some (.string ky) from fun W hW=>by
    rw [HB.out] at hW
    obtain⟨b',o',e',-,a0,a1,a2,-⟩:=(HCP.out.below hW).at_ (show (x::Q)[0]?=some x from rfl)
    cases e'
    rw [Nat.zero_mul,Nat.add_zero,<-hky] at a2
    exact a2)
   have HP1:=hid (fun W=>show Calls _ _ _ W (BPost W p1) from by rw [q1];exact reftext_any ky W (by omega))
   have HP2:=hid (fun W=>show Calls _ _ _ W (BPost W p2) from by rw [q2];exact reftext_any sP W (by omega))
   have HP3:=hid (show ∀ W,Below B w3 W->Calls Tryz.prog 62 #[.slice (some ⟨xb,xoff,none⟩) Ql pc] W (BPost W PB) from fun W hW=>by
    rw [hPB]
    rw [HB.out] at hW
    exact refpage_any _ (x::Q) W (HCP.out.below hW) (fun y hy=>num_right (HRT.out y.1 (List.mem_map.2 ⟨y,hy,rfl⟩))) (fun y hy=>keyF_well (right_key (HRT.out y.1 (List.mem_map.2 ⟨y,hy,rfl⟩)))) (by rw [<-hQl];omega) (by rw [<-hPB];omega))
   have E1:=hid e1
   have E2:=hid e2
   have HNX:=hid hnext
   have HPB0:=hid hPB0
   have HSP:=hid hsP
   have j0:(0:Int)<=(i:Int):=by omega
   have j1:(i:Int)<(pn:Int):=by omega
   clear hir hp hpm hmem hrt hne h8 hcp3 hQl hstep hfk e1 e2 hnext hky hPB hcur hPB0 q1 q2 hsP hpx
   obtain⟨vo,vc,hvv⟩:=ho.out.form
   subst hvv
   obtain⟨kb,hkb⟩:∃ q,q=cur.length:=⟨_,rfl⟩
   rw [<-hkb] at ho ⊢
   have HKB:=hid hkb
   clear hkb
   obtain⟨W3,hW3⟩:∃ W:World,W=wr:=⟨_,rfl⟩
   have HB3x:=hid (show Below B w3 W3 from by rw [hW3];exact hb.out)
   have HO3:=hid (show OwnB W3 B (.slice vo kb vc) cur from by rw [hW3];exact ho.out)
   have HRD:=hid (show OwnB W3.drew B (.slice vo kb vc) cur from HO3.out.below br.drew)
   have hpr:∀ (j:Nat) (a b:World),(j=9->(fun W=>OwnB W B (.slice vo kb vc) cur) a)->Below a.heap.size a b->(j=9->(fun W=>OwnB W B (.slice vo kb vc) cur) b):=fun j a b h hb e=>(h e).below hb
   subst hW3
   clear ho hb
   go_upto_region 7 with fail
   refine RegLin.wp_region_lin (RegLin.useL [(8,9),(9,17),(14,15),(16,17)]) (fun W=>Below B w3 W) (fun j W=>j=9->(fun W=>OwnB W B (.slice vo kb vc) cur) W) 18 [false,false,false,false,false,false,false,false,false,false,false,false,false,false,false,false,false,false,false,false,true,true,true,true,true,true,true,true,true,true,true,true,true,true,true,true,true,true,false,false,false,false,false,false,false,false,false,false,false,false,false,false]
    [sLit (.slice vo kb vc),
  sLit (.slice (some ⟨ob,0,none⟩) pn oc),
  sLit (.int .i64 (i:Nat)),
  sLit (.pointer (some ⟨ob,i,none⟩)),
  sLit (.slice (some ⟨xb,xoff,none⟩) Ql pc),
  sLit (.pointer (some ⟨xb,xoff,none⟩)),
  sLit (.pointer (some ⟨xb,xoff+2,none⟩)),
  sLit (.string ky),
  sOwn B (p1),
  sOwn B (l1),
  sLit (.slice (some ⟨ob,0,none⟩) pn oc),
  sLit (.int .i64 (i:Nat)),
  sLit (.pointer (some ⟨ob,i,none⟩)),
  sLit (.slice (some ⟨xb,xoff,none⟩) Ql pc),
  sOwn B (PB),
  sLit (.string sP),
  sOwn B (p2),
  sOwn B (l2)] (HB3x.out.drew) (fun j _ _=>HRD.out) (by kernel_rfl) (by kernel_rfl) (by kernel_rfl) (by kernel_rfl) (fun F hF=>?_)
   simp only [over,overL,Nat.reduceAdd] at hF
   obtain rfl:=funext hF
   clear hF
   refine⟨⟨?_,?_,?_,?_,?_,?_,?_,?_,?_,?_,?_,?_,?_,?_,?_,?_,?_,?_,trivial⟩,?_⟩
   ·
    intro V W hc hp hd K hK _
    clear hd
    go_wp2_with fail
    exact hK _ _ rfl (RegLin.keeps_below hcm hpr hc br) rfl
   ·
    intro V W hc hp hd K hK _
    clear hd
    go_wp2_with fail
    exact hK _ _ rfl (RegLin.keeps_below hcm hpr hc br) rfl
   ·
    intro V W hc hp hd K hK _
    clear hd
    go_wp2_with fail
    exact hK _ _ rfl (RegLin.keeps_below hcm hpr hc br) rfl
   ·
    intro V W hc hp hd K hK _
    have h1:(V 21)=.slice (some ⟨ob,0,none⟩) pn oc:=(RegLin.ask hd 1:)
    have h2:(V 22)=.int .i64 (i:Nat):=(RegLin.ask hd 2:)
    clear hd
    go_wp2_with fail
    exact hK _ _ rfl (RegLin.keeps_below hcm hpr hc br) rfl
   ·
    intro V W hc hp hd K hK _
    have h3:(V 23)=.pointer (some ⟨ob,i,none⟩):=(RegLin.ask hd 3:)
    clear hd
    have c0:=HC0.out W hc
    go_wp2_with fail
    exact hK _ _ rfl (RegLin.keeps_below hcm hpr hc br) rfl
   ·
    intro V W hc hp hd K hK _
    have h4:(V 24)=.slice (some ⟨xb,xoff,none⟩) Ql pc:=(RegLin.ask hd 4:)
    clear hd
    go_wp2_with fail
    exact hK _ _ rfl (RegLin.keeps_below hcm hpr hc br) rfl
   ·
    intro V W hc hp hd K hK _
    have h5:(V 25)=.pointer (some ⟨xb,xoff,none⟩):=(RegLin.ask hd 5:)
    clear hd
    go_wp2_with fail
    exact hK _ _ rfl (RegLin.keeps_below hcm hpr hc br) rfl
   ·
    intro V W hc hp hd K hK _
    have h6:(V 26)=.pointer (some ⟨xb,xoff+2,none⟩):=(RegLin.ask hd 6:)
    clear hd
    have m2:=HA2.out W hc
    go_wp2_with fail
    exact hK _ _ rfl (RegLin.keeps_below hcm hpr hc br) rfl
   ·
    intro V W hc hp hd K hK _
    have h7:(V 27)=.string ky:=(RegLin.ask hd 7:)
    clear hd
    have hbw:B<=W.heap.size:=HBS.out W hc
    have HC:=hid hc
    clear hc hp
    go_wp2_with fail
    refine (HP1.out W).mono ?_
    rintro e w1 ⟨v1,rfl,g1,g2⟩
    have G1:=hid (show OwnB w1 B v1 (p1) from own_base g1 hbw)
    have G2:=hid g2
    clear g1 g2
    go_wp2_with fail
    refine hK _ _ ?_ ?_ ?_
    . rfl
    . exact RegLin.keeps_below hcm hpr HC.out G2.out
    . exact G1.out
   ·
    intro V W hc hp hd K hK _
    have h0:(V 20)=.slice vo kb vc:=(RegLin.ask hd 0:)
    have h8:OwnB W B (V 28) (p1):=(RegLin.ask hd 8:)
    clear hd
    have hbw:B<=W.heap.size:=HBS.out W hc
    have HA:=hid (show OwnB W B (.slice vo kb vc) (cur) from hp rfl)
    have ea:=h0
    have hne:(p1)≠[]:=HN1.out
    obtain⟨g,gc,e5,hcells⟩:=OwnB.src h8 hne
    have HC:=hid hc
    clear hc hp h8
    go_wp2_with (at_builtin;refine wpList_append_own_loc rfl (.tmp 20) (.tmp 28) 31 rfl B 5 i0 (.int .u8 0) [.int .u8 0] 1 Tryz.underlying31 HI.out.1 HI.out.2.1 rfl HI.out.2.2.1 HI.out.2.2.2 (by decide) (.slice vo kb vc) (cur).length ((cur).flatMap enB) (by first | rfl | exact ea) HA.out ⟨g,0,none⟩ (p1).length gc ((p1).flatMap enB) (by first | exact e5 | rfl) (List.length_pos_iff.2 hne) (flat_enB_len _) hcells (enB_one _) (by unfold maxLen;omega) (by omega) hbw ?_)
    intro v1 w1 g1 g2 g3
    have G1:=hid (show OwnB w1 B v1 (l1) from by unfold OwnB;rw [E1.out,la0,fa0];exact g1)
    have G2:=hid (show Below B w3 w1 from HC.out.grown g2 hbw (fun k hk=>(World.ownsRow.lt HA.out k hk).1))
    clear g1 g2 g3 e5 hcells
    go_wp2_with fail
    refine hK _ _ ?_ ?_ ?_
    . rfl
    ·
     refine RegLin.keeps_by G2.out (by kernel_rfl) (fun j hj hne hl h=>?_)
     iterate 18 (rcases j with _ | j;first | exact h | exact absurd rfl hne | exact RegLin.dead hl)
     exact absurd hj (by omega)
    . exact G1.out
   ·
    intro V W hc hp hd K hK _
    clear hd
    go_wp2_with fail
    exact hK _ _ rfl (RegLin.keeps_below hcm hpr hc br) rfl
   ·
    intro V W hc hp hd K hK _
    clear hd
    go_wp2_with fail
    exact hK _ _ rfl (RegLin.keeps_below hcm hpr hc br) rfl
   ·
    intro V W hc hp hd K hK _
    have h10:(V 30)=.slice (some ⟨ob,0,none⟩) pn oc:=(RegLin.ask hd 10:)
    have h11:(V 31)=.int .i64 (i:Nat):=(RegLin.ask hd 11:)
    clear hd
    go_wp2_with fail
    exact hK _ _ rfl (RegLin.keeps_below hcm hpr hc br) rfl
   ·
    intro V W hc hp hd K hK _
    have h12:(V 32)=.pointer (some ⟨ob,i,none⟩):=(RegLin.ask hd 12:)
    clear hd
    have c0:=HC0.out W hc
    go_wp2_with fail
    exact hK _ _ rfl (RegLin.keeps_below hcm hpr hc br) rfl
   ·
    intro V W hc hp hd K hK _
    have h13:(V 33)=.slice (some ⟨xb,xoff,none⟩) Ql pc:=(RegLin.ask hd 13:)
    clear hd
    have hbw:B<=W.heap.size:=HBS.out W hc
    have HC:=hid hc
    clear hc hp
    go_wp2_with fail
    refine (HP3.out W HC.out).mono ?_
    rintro e w1 ⟨v1,rfl,g1,g2⟩
    have G1:=hid (show OwnB w1 B v1 (PB) from own_base g1 hbw)
    have G2:=hid g2
    clear g1 g2
    go_wp2_with fail
    refine hK _ _ ?_ ?_ ?_
    . rfl
    . exact RegLin.keeps_below hcm hpr HC.out G2.out
    . exact G1.out
   ·
    intro V W hc hp hd K hK _
    have h14:OwnB W B (V 34) (PB):=(RegLin.ask hd 14:)
    clear hd
    obtain⟨g,cc,e14,hcl⟩:=own_at0 h14 HPB0.out
    have hcv:=conv_bytes W ⟨g,0,none⟩ PB _ cc rfl hcl
    obtain⟨nL,hnL⟩:∃ n,n=PB.length:=⟨_,rfl⟩
    rw [<-hnL] at hcv e14
    rw [<-HSP.out] at hcv
    clear hcl h14 hnL hp
    go_wp2_with fail
    exact hK _ _ rfl (RegLin.keeps_below hcm hpr hc br) rfl
   ·
    intro V W hc hp hd K hK _
    have h15:(V 35)=.string sP:=(RegLin.ask hd 15:)
    clear hd
    have hbw:B<=W.heap.size:=HBS.out W hc
    have HC:=hid hc
    clear hc hp
    go_wp2_with fail
    refine (HP2.out W).mono ?_
    rintro e w1 ⟨v1,rfl,g1,g2⟩
    have G1:=hid (show OwnB w1 B v1 (p2) from own_base g1 hbw)
    have G2:=hid g2
    clear g1 g2
    go_wp2_with fail
    refine hK _ _ ?_ ?_ ?_
    . rfl
    . exact RegLin.keeps_below hcm hpr HC.out G2.out
    . exact G1.out
   ·
    intro V W hc hp hd K hK _
    have h9:OwnB W B (V 29) (l1):=(RegLin.ask hd 9:)
    have h16:OwnB W B (V 36) (p2):=(RegLin.ask hd 16:)
    clear hd
    have hbw:B<=W.heap.size:=HBS.out W hc
    have HA:=hid (show OwnB W B (V 29) (l1) from h9)
    have hne:(p2)≠[]:=HN2.out
    obtain⟨g,gc,e5,hcells⟩:=OwnB.src h16 hne
    have HC:=hid hc
    clear hc hp h16 h9
    go_wp2_with (at_builtin;refine wpList_append_own_loc rfl (.tmp 29) (.tmp 36) 31 rfl B 5 i0 (.int .u8 0) [.int .u8 0] 1 Tryz.underlying31 HI.out.1 HI.out.2.1 rfl HI.out.2.2.1 HI.out.2.2.2 (by decide) (V 29) (l1).length ((l1).flatMap enB) (by first | rfl | exact ea) HA.out ⟨g,0,none⟩ (p2).length gc ((p2).flatMap enB) (by first | exact e5 | rfl) (List.length_pos_iff.2 hne) (flat_enB_len _) hcells (enB_one _) (by unfold maxLen;omega) (by omega) hbw ?_)
    intro v1 w1 g1 g2 g3
    have G1:=hid (show OwnB w1 B v1 (l2) from by unfold OwnB;rw [E2.out,la0,fa0];exact g1)
    have G2:=hid (show Below B w3 w1 from HC.out.grown g2 hbw (fun k hk=>(World.ownsRow.lt HA.out k hk).1))
    clear g1 g2 g3 e5 hcells
    go_wp2_with fail
    refine hK _ _ ?_ ?_ ?_
    . rfl
    ·
     refine RegLin.keeps_by G2.out (by kernel_rfl) (fun j hj hne hl h=>?_)
     iterate 18 (rcases j with _ | j;first | exact h | exact absurd rfl hne | exact RegLin.dead hl)
     exact absurd hj (by omega)
    . exact G1.out
   ·
    intro V W hc hd
    have h17:OwnB W B (V 37) (l2):=hd 17 (by decide) rfl
    clear hd
    simp only [List.drop_succ_cons,List.drop_zero]
    have HO5:=hid h17
    have HC5:=hid hc
    obtain⟨uo,uc,huv⟩:=OwnB.form h17
    clear h17 hc hpr hcm huv
    go_wp2_with fail
    go_roundw
    case rel=>exact⟨i+1,l2,by omega,by go_num,y2,HNX,HO5,HC5⟩
    case measure=>simp [intOf];omega
  ·
   obtain rfl:i=pn:=by omega
   have HO9:=hid (show OwnB wr B _ T from by
    have h:=hcur.out
    rw [List.drop_of_length_le (by rw [HPN.out];exact Nat.le_refl _)] at h
    simp only [List.map_nil,List.flatMap_nil,List.append_nil] at h
    rw [<-h]
    exact ho.out)
   have HB9:=hid hb.out
   have hb93:Below w3.heap.size w3 wr:=by rw [<-HB.out];exact hb.out
   have HM9:=hid (HMR3.out.below hb93)
   have HC9:=hid (HC4.out.below hb93)
   have HKY:=hid (refkeys_any v2 R wr HM9.out (by omega))
   obtain⟨bvo,bvc,hbv⟩:=HO9.out.form
   subst hbv
   clear ho hb hcur hb93
   go_wp2_with fail
   refine HKY.out.mono ?_
   rintro e w5 ⟨v5,rfl,ht5,hb5⟩
   have hke:dupF (R.map (·.1.key))=K:=by rw [HKK.out.1,<-HMAP.out,List.map_map];rfl
   rw [hke] at ht5
   have hKl:K.length<=60:=by rw [<-hke];have:=dupF_len (R.map (·.1.key));rw [lm0] at this;omega
   have hKs:∀ k∈K,k.size<=1000000:=fun k hk=>by
    rw [<-hke] at hk
    obtain⟨x,hx,hxk⟩:=List.mem_map.1 (dupF_mem hk)
    rw [<-hxk]
    have:=(right_sizes (HRR.out x.1 (by rw [<-HMAP.out];exact List.mem_map.2 ⟨x,hx,rfl⟩))).1
    omega
   have HO5:=hid (HO9.out.below hb5)
   have HB5:=hid (hcm _ _ HB9.out hb5)
   have HSV:=hid (refsv_any v5 K w5 ht5.row (by omega) hKs)
   clear hke ht5 hb5 hKs HKY
   go_wp2_with fail
   refine HSV.out.mono ?_
   rintro e w6 ⟨g,rfl,hg,hrow,hb6⟩
   have e6:=HKK.out.2
   rw [<-e6.1,<-e6.2] at hrow
   have hN1:N<=76:=by rw [e6.1];unfold sizeF;omega
   have hN0:0<N:=by rw [e6.1];unfold sizeF;omega
   rw [<-e6.1]
   have HO6:=hid (HO5.out.below hb6)
   have HB6:=hid (hcm _ _ HB5.out hb6)
   have HBY:=hid (refbytes_any g N (8*N) F w6 ⟨hrow.lt,fun j hj=>hrow.cell hj⟩ hN0 (by omega))
   clear e6 hrow hb6 hg HSV
   go_wp2_with fail
   refine HBY.out.mono ?_
   rintro e w7 ⟨g',rfl,hg,hrow,hb7⟩
   have HO7:=hid (HO6.out.below hb7)
   have HB7:=hid (hcm _ _ HB6.out hb7)
   have hcv:=conv_bytes w7 ⟨g',0,none⟩ (sieveL F N) N N (sieveL_len F N).symm (fun j cc h=>by
    obtain⟨h1,rfl⟩:=sieveL_at F N j cc h
    rw [addr_add,Nat.zero_add]
    exact hrow.cell h1)
   obtain⟨sF,hsF⟩:∃ s,s=strOf (sieveL F N):=⟨_,rfl⟩
   have hsFs:sF.size<=76:=by rw [hsF,strOf_size,sieveL_len];exact hN1
   rw [<-hsF] at hcv HEQ
   obtain⟨p3,q3⟩:∃ l,l=textF sF:=⟨_,rfl⟩
   rw [<-q3] at HEQ
   have HN3:=hid (show p3≠[] from by rw [q3];unfold textF;simp [Rd.putF_ne])
   have hp3l:p3.length<=100:=by rw [q3];have:=textF_len sF (by omega);omega
   have HP3:=hid (show Calls _ _ _ w7 (BPost w7 p3) from by rw [q3];exact reftext_any sF w7 (by omega))
   clear hrow hb7 hg HBY hsF q3
   go_wp2_with fail
   refine HP3.out.mono ?_
   rintro e w8 ⟨v8,rfl,g1,g2⟩
   have HO8:=hid (HO7.out.below g2)
   have HB8:=hid (hcm _ _ HB7.out g2)
   have hbw8:B<=w8.heap.size:=HBS.out _ HB8.out
   obtain⟨ga,gc,e5,hcells⟩:=OwnB.src (show OwnB w8 w7.heap.size v8 p3 from g1) HN3.out
   subst e5
   clear g1 g2 hcv
   go_wp2_with (at_builtin;refine wpList_append_own_loc rfl _ _ 31 rfl B 5 i0 (.int .u8 0) [.int .u8 0] 1 Tryz.underlying31 HI.out.1 HI.out.2.1 rfl HI.out.2.2.1 HI.out.2.2.2 (by decide) (.slice bvo T.length bvc) T.length (T.flatMap enB) rfl HO8.out ⟨ga,0,none⟩ p3.length gc (p3.flatMap enB) rfl (List.length_pos_iff.2 HN3.out) (flat_enB_len _) hcells (enB_one _) (by unfold maxLen;omega) (by omega) hbw8 ?_)
   intro v9 w9 g1 g2 g3
   obtain⟨T3,hT3⟩:∃ l,l=T++p3:=⟨_,rfl⟩
   rw [<-hT3] at HEQ
   have hT3l:T3.length<=68000:=by rw [hT3,la0];omega
   have HO10:=hid (show OwnB w9 B v9 T3 from by unfold OwnB;rw [hT3,la0,fa0];exact g1)
   have HB10:=hid (show Below B w3 w9 from HB8.out.grown g2 hbw8 (fun k hk=>(World.ownsRow.lt HO8.out k hk).1))
   have hb93:Below w3.heap.size w3 w9:=by rw [<-HB.out];exact HB10.out
   have HC10:=hid (HC4.out.below hb93)
   have HW10:=hid (below_then HB3.out lr hb93)
   obtain⟨-,s0,s1,s2,-,-,-⟩:=HC10.out
   have HLW:=hid (HLC.out.below HW10.out)
   obtain⟨p4,q4⟩:∃ l,l=bytesR (allF (wipesC c)):=⟨_,rfl⟩
   rw [<-q4] at HEQ
   have HN4:=hid (show p4≠[] from by rw [q4];exact bytesR_ne _)
   have HPS:=hid (show Calls Tryz.prog 64 #[.agg #[.slice none 0 0,.slice o2 n2 k2,.slice none 0 0]] w9 (BPost w9 p4) from by
    rw [q4]
    exact refPut08_any (c:=wipesC c) (Lies.is (show Lies w9 (.slice none 0 0) (.slice o2 n2 k2) (.slice none 0 0) (wipesC c) from ⟨(conE_lies w9).1,HLW.out.2,(conE_lies w9).3⟩)) (good_wipes HG.out) (by omega))
   have hp4l:p4.length<=61000:=by
    have hgw:=good_wipes HG.out
    have h1:=bytesR_len (l:=allF (wipesC c)) (fun m hm=>hgw.okc.right m (mem_allF.1 hm)) (by have:=len_allF (wipesC c);have:=hgw.okc.len;omega)
    have:=len_allF (wipesC c)
    have:=hgw.okc.len
    rw [q4];omega
   obtain⟨v9o,v9c,hv9⟩:=HO10.out.form
   subst hv9
   clear g1 g2 g3 hb93 hT3 q4 hcells HP3
   go_wp2_with fail
   refine HPS.out.mono ?_
   rintro e wa ⟨va,rfl,g1,g2⟩
   have HO11:=hid (HO10.out.below g2)
   have HB11:=hid (hcm _ _ HB10.out g2)
   have hbw11:B<=wa.heap.size:=HBS.out _ HB11.out
   obtain⟨ga,gc,e5,hcells⟩:=OwnB.src (show OwnB wa w9.heap.size va p4 from g1) HN4.out
   subst e5
   clear g1 g2 s0 s1 s2
   go_wp2_with (at_builtin;refine wpList_append_own_loc rfl _ _ 31 rfl B 5 i0 (.int .u8 0) [.int .u8 0] 1 Tryz.underlying31 HI.out.1 HI.out.2.1 rfl HI.out.2.2.1 HI.out.2.2.2 (by decide) (.slice v9o T3.length v9c) T3.length (T3.flatMap enB) rfl HO11.out ⟨ga,0,none⟩ p4.length gc (p4.flatMap enB) rfl (List.length_pos_iff.2 HN4.out) (flat_enB_len _) hcells (enB_one _) (by unfold maxLen;omega) (by omega) hbw11 ?_)
   intro vz wz g1 g2 g3
   have HF:=hid (show OwnB wz w.heap.size vz (tableB c) from by
    rw [HEQ.out]
    refine own_base (show OwnB wz B vz (T3++p4) from by unfold OwnB;rw [la0,fa0];exact g1) (by rw [HB.out];exact HB3.out.size))
   have HBZ:=hid (show Below w.heap.size w wz from by
    have hb3z:Below w3.heap.size w3 wz:=by rw [<-HB.out];exact HB11.out.grown g2 hbw11 (fun k hk=>(World.ownsRow.lt HO11.out k hk).1)
    exact below_then HB3.out lr hb3z)
   clear g1 g2 g3
   go_wp2_with fail
   go_ret
   exact⟨_,rfl,HF.out,HBZ.out⟩
