/- TabRefPut. -/
import Derived.Test.YtpeoonnglnchnaaGreatDoorPkTabPut
set_option linter.unusedSectionVars false
set_option linter.unusedSimpArgs false
set_option linter.unusedVariables false
set_option maxHeartbeats 16000000
set_option maxRecDepth 100000
namespace Go.Proofs.YtpeoonnglnchnaaGreatDoor.Tab
open Go.Lib (hid)
open RowKit YtpeoonnglnchnaaGreatDoor.Spare RegInv Mut Mrk
variable [Inhabited Lim]
theorem refrest_ro (x:Ro) (w:World) (hx:Over w x) (hn:NumM x.1):Calls Tryz.prog 99 #[vM x] w (BPost w (restM x.1)):=by
 obtain⟨⟨tb,kd,key,fin,val,ex,⟨p,l,h⟩,over⟩,ov⟩:=x
 obtain⟨⟨t0,t1⟩,⟨k0,k1⟩,⟨e0,e1⟩,⟨p0,l0,w0,p1,l1,w1⟩,s1,s2,s3,s4,s5⟩:=hn
 simp only [] at t0 t1 k0 k1 e0 e1 p0 l0 w0 p1 l1 w1 s1 s2 s3 s4 s5
 obtain⟨tb,rfl⟩:=Int.eq_ofNat_of_zero_le t0
 obtain⟨kd,rfl⟩:=Int.eq_ofNat_of_zero_le k0
 obtain⟨ex,rfl⟩:=Int.eq_ofNat_of_zero_le e0
 obtain⟨p,rfl⟩:=Int.eq_ofNat_of_zero_le p0
 obtain⟨l,rfl⟩:=Int.eq_ofNat_of_zero_le l0
 obtain⟨h,rfl⟩:=Int.eq_ofNat_of_zero_le w0
 exact refrest_any tb kd ex p l h key fin val over ov w (by omega) (by omega) (by omega) (by omega) (by omega) (by omega) s2 s3 s4 s5 hx.lst
theorem refpage_any (rv:Value) (R:List Ro) (w:World) (hr:MRow w rv R) (hnum:∀ x∈R,NumM x.1) (hwell:∀ x∈R,Well x.1.key) (hn:R.length<=500) (hsmall:(pageB (R.map (·.1))).length<=500000) :
  Calls Tryz.prog 62 #[rv] w fun e w'=>∃ v',e=.returned v'/\OwnB w' w.heap.size v' (pageB (R.map (·.1)))/\Below w.heap.size w w':=by
 obtain⟨ro,cap,rfl,-,-⟩:=hr.form
 obtain⟨i0,hi,hz0,hz1,hz2⟩:=info_parts_B
 have HI:=hid (And.intro hi (And.intro hz0 (And.intro hz1 hz2)))
 obtain⟨n,hnr⟩:∃ k,k=R.length:=⟨_,rfl⟩
 rw [<-hnr] at hr hn ⊢
 have HR:=hid hr
 have HN:=hid hnr
 have HNU:=hid hnum
 have HWE:=hid hwell
 have HPU:=hid (refput_any n w (by omega))
 obtain⟨T,hT⟩:∃ T,T=pageB (R.map (·.1)):=⟨_,rfl⟩
 rw [<-hT] at hsmall ⊢
 have HT:=hid (show putF n++pageL ByteArray.empty ((R.drop 0).map (·.1))=T from by rw [hT,hnr];unfold pageB;rw [lm0];rfl)
 obtain⟨B,hB⟩:∃ B,B=w.heap.size:=⟨_,rfl⟩
 have HB:=hid hB
 have HBS:=hid (show ∀ W,Below B w W->B<=W.heap.size from fun W hW=>by rw [hB];exact hW.size)
 have hcm:∀ a b,Below B w a->Below a.heap.size a b->Below B w b:=fun a b h hb=>below_then h (by rw [hB];exact Nat.le_refl _) hb
 clear hr hnr hnum hwell hT hi hz0 hz1 hz2 hB
 go_enter Tryz.func62,Tryz.ntmps62
 go_wp2_with fail
 refine HPU.out.mono ?_
 rintro e w1 ⟨v1,rfl,ho1,hb1⟩
 have HO1:=hid (show OwnB w1 B v1 (putF n) from by rw [HB.out];exact ho1)
 have HB1:=hid (show Below B w w1 from by rw [HB.out];exact hb1)
 clear ho1 hb1 HPU
 go_wp2_with fail
 go_loopw [3,4,5] (fun ov sv iv wr=>∃ (k:Nat) (last:ByteArray) (cur:List Nat),k<=n/\iv=.int .i64 k/\sv=.string last/\last.size<=1000/\cur.length<=500000/\Hid (Well last)/\Hid (cur++pageL last ((R.drop k).map (·.1))=T)/\Hid (OwnB wr B ov cur)/\Hid (Below B w wr)) (fun _ _ iv _=>n - (intOf iv).toNat)
 case atStart=>exact⟨0,ByteArray.empty,putF n,by omega,rfl,rfl,by simp,by have:=congrArg List.length HT.out;rw [la0] at this;omega,hid well_empty,HT,HO1,HB1⟩
 case round=>
  obtain⟨k,last,cur,hk,rfl,rfl,hls,hcl,hwl,hcur,ho,hb⟩:=hrel
  by_cases hlt:k<n
  ·
   have hkr:k<R.length:=by have:=HN.out;omega
   obtain⟨x,hx⟩:∃ x,R[k]?=some x:=⟨_,ge0 hkr⟩
   have hxm:=mg0 hx
   have hov0:=HR.out.over x hxm
   obtain⟨xo,xc,xe,-,-⟩:=Over.form hov0
   have HNX:=hid (HNU.out x hxm)
   have hwx:=HWE.out x hxm
   have hksz:=HNX.out.key
   obtain⟨xb,xoff,hao,-⟩:=HR.out.at_ hx
   cases hao
   obtain⟨nn,hnn⟩:∃ m,m=sharedF last x.1.key:=⟨_,rfl⟩
   have hnk:nn<=x.1.key.size:=by rw [hnn];exact sharedF_le2 last hwx
   have hstep:=hcur.out
   rw [pageL_drop hx last] at hstep
   unfold rowB at hstep
   rw [<-hnn] at hstep
   obtain⟨ky,hky⟩:∃ ky,ky=x.1.key:=⟨_,rfl⟩
   rw [<-hky] at hnk hksz hstep
   obtain⟨p1,q1⟩:∃ l,l=putF nn:=⟨_,rfl⟩
   obtain⟨p2,q2⟩:∃ l,l=textF (ky.extract nn ky.size):=⟨_,rfl⟩
   obtain⟨p3,q3⟩:∃ l,l=restM x.1:=⟨_,rfl⟩
   rw [<-q1,<-q2,<-q3] at hstep
   obtain⟨l1,e1⟩:∃ l,l=cur++p1:=⟨_,rfl⟩
   obtain⟨l2,e2⟩:∃ l,l=l1++p2:=⟨_,rfl⟩
   obtain⟨l3,e3⟩:∃ l,l=l2++p3:=⟨_,rfl⟩
   have hnext:l3++pageL ky ((R.drop (k+1)).map (·.1))=T:=by rw [e3,e2,e1,<-hstep];simp [List.append_assoc]
   have y3:l3.length<=500000:=by have:=congrArg List.length hnext;rw [la0] at this;omega
   have z3:l2.length+p3.length<=500000:=by rw [e3,la0] at y3;omega
   have z2:l1.length+p2.length<=500000:=by rw [e2,la0] at z3;omega
   have z1:cur.length+p1.length<=500000:=by rw [e1,la0] at z2;omega
   have HN1:=hid (show p1≠[] from by rw [q1];exact putF_ne _)
   have HN2:=hid (show p2≠[] from by rw [q2];unfold textF;simp [putF_ne])
   have HN3:=hid (show p3≠[] from by rw [q3];unfold restM restL;simp [putF_ne])
   have hesz:(ky.extract nn ky.size).size<=1000:=by rw [ByteArray.size_extract];omega
   have HAT:=hid (show ∀ W,Below B w W->W.cell? ⟨xb,xoff+k*10,none⟩=some (.int .i64 x.1.table)/\W.cell? ⟨xb,xoff+k*10+1,none⟩=some (.int .i64 x.1.kind)/\W.cell? ⟨xb,xoff+k*10+2,none⟩=some (.string ky)/\W.cell? ⟨xb,xoff+k*10+3,none⟩=some (.string x.1.fin)/\W.cell? ⟨xb,xoff+k*10+4,none⟩=some (.string x.1.val)/\W.cell? ⟨xb,xoff+k*10+5,none⟩=some (.int .i64 x.1.expiry)/\W.cell? ⟨xb,xoff+k*10+6,none⟩=some (.int .i64 x.1.at_.p)/\W.cell? ⟨xb,xoff+k*10+7,none⟩=some (.int .i64 x.1.at_.l)/\W.cell? ⟨xb,xoff+k*10+8,none⟩=some (.int .i64 x.1.at_.w)/\W.cell? ⟨xb,xoff+k*10+9,none⟩=some (.slice xo x.1.over.length xc) from fun W hW=>by
    rw [HB.out] at hW
    obtain⟨b',o',hb',hat⟩:=(HR.out.below hW).at_ hx
    cases hb'
    obtain⟨-,a0,a1,a2,a3,a4,a5,a6,a7,a8,a9⟩:=hat
    rw [xe] at a9
    rw [hky]
    exact⟨a0,a1,a2,a3,a4,a5,a6,a7,a8,a9⟩)
   have hsh:=fun z=>refshared_any last ky z (by omega) (by omega) hwl.out
   rw [hky,<-hnn,<-hky] at hsh
   have HSH:=hid hsh
   have HP1:=hid (fun W=>show Calls _ _ _ W (BPost W p1) from by rw [q1];exact refput_any nn W (by omega))
   have HP2:=hid (fun W=>show Calls _ _ _ W (BPost W p2) from by rw [q2];exact reftext_any (ky.extract nn ky.size) W (by omega))
   have HP3:=hid (fun W (hW:Below B w W)=>show Calls Tryz.prog 99 #[.agg #[.int .i64 x.1.table,.int .i64 x.1.kind,.string ky,.string x.1.fin,.string x.1.val,.int .i64 x.1.expiry,.int .i64 x.1.at_.p,.int .i64 x.1.at_.l,.int .i64 x.1.at_.w,.slice xo x.1.over.length xc]] W (BPost W p3) from by
    rw [HB.out] at hW
    have h:=refrest_ro x W (hov0.below hW) HNX.out
    unfold vM at h
    rw [xe,<-hky,<-q3] at h
    exact h)
   have E1:=hid e1
   have E2:=hid e2
   have E3:=hid e3
   have HNEXT:=hid hnext
   have HWX:=hid (show Well ky from by rw [hky];exact hwx)
   obtain⟨xn,hxn⟩:∃ m,m=x.1.over.length:=⟨_,rfl⟩
   rw [<-hxn] at HAT HP3
   have j0:(0:Int)<=(k:Int):=by omega
   have j1:(k:Int)<(n:Int):=by omega
   have hnki:(nn:Int)<=(ky.size:Int):=by omega
   clear hx hxm hov0 xe hkr hstep hsh e1 e2 e3 hnn hnext hwx hky q1 q2 q3 hxn hcur
   obtain⟨vo,vc,hvv⟩:=ho.out.form
   subst hvv
   obtain⟨kb,hkb⟩:∃ q,q=cur.length:=⟨_,rfl⟩
   rw [<-hkb] at ho ⊢
   have HKB:=hid hkb
   clear hkb
   have a2:=(HAT.out wr hb.out).2.2.1
   go_wp2_with fail
   refine (HSH.out _).mono ?_
   rintro e W3 ⟨rfl,hb3⟩
   have HB3:=hid (hcm _ _ hb.out hb3)
   have HO3:=hid (show OwnB W3 B (.slice vo kb vc) cur from ho.out.below hb3)
   have HRW:=hid (show OwnB W3.drew B (.slice vo kb vc) cur from HO3.out.below br.drew)
   have hpr:∀ (j:Nat) (a b:World),(j=3->(fun W=>OwnB W B (.slice vo kb vc) cur) a)->Below a.heap.size a b->(j=3->(fun W=>OwnB W B (.slice vo kb vc) cur) b):=fun j a b h hb e=>(h e).below hb
   clear hb3 a2 ho hb
   go_upto_region 7 with fail
   refine RegLin.wp_region_lin (RegLin.useL [(2,3),(3,12),(11,12)]) (fun W=>Below B w W) (fun j W=>j=3->(fun W=>OwnB W B (.slice vo kb vc) cur) W) 13 [false,false,false,false,false,false,false,false,false,false,false,false,false,false,false,false,false,false,false,false,false,false,false,true,true,true,true,true,true,true,true,true,true,true,true,true,false,false,false,false,false,false,false,false,false,false,false,false,false]
    [sLit (.slice vo kb vc),
  sLit (.int .i64 (nn:Nat)),
  sOwn B (p1),
  sOwn B (l1),
  sLit (.slice (some ⟨xb,xoff,none⟩) n cap),
  sLit (.int .i64 (k:Nat)),
  sLit (.pointer (some ⟨xb,xoff+k*10,none⟩)),
  sLit (.pointer (some ⟨xb,xoff+k*10+2,none⟩)),
  sLit (.string ky),
  sLit (.int .i64 (nn:Nat)),
  sLit (.string (ky.extract nn ky.size)),
  sOwn B (p2),
  sOwn B (l2)] (HB3.out.drew) (fun j _ _=>HRW.out) (by kernel_rfl) (by kernel_rfl) (by kernel_rfl) (by kernel_rfl) (fun F hF=>?_)
   simp only [over,overL,Nat.reduceAdd] at hF
   obtain rfl:=funext hF
   clear hF
   refine⟨⟨?_,?_,?_,?_,?_,?_,?_,?_,?_,?_,?_,?_,?_,trivial⟩,?_⟩
   ·
    intro V W hc hp hd K hK _
    clear hd
    go_wp2_with fail
    exact hK _ _ rfl (RegLin.keeps_below hcm hpr hc br) rfl
   ·
    intro V W hc hp hd K hK _
    clear hd
    go_wp2_with fail
    exact hK _ _ rfl (RegLin.keeps_below hcm hpr hc br) rfl
   ·
    intro V W hc hp hd K hK _
    have h1:(V 24)=.int .i64 (nn:Nat):=(RegLin.ask hd 1:)
    clear hd
    have hbw:B<=W.heap.size:=HBS.out W hc
    have HC:=hid hc
    clear hc hp
    go_wp2_with fail
    refine (HP1.out W).mono ?_
    rintro e w1 ⟨v1,rfl,g1,g2⟩
    have G1:=hid (show OwnB w1 B v1 (p1) from own_base g1 hbw)
    have G2:=hid g2
    clear g1 g2
    go_wp2_with fail
    refine hK _ _ ?_ ?_ ?_
    . rfl
    . exact RegLin.keeps_below hcm hpr HC.out G2.out
    . exact G1.out
   ·
    intro V W hc hp hd K hK _
    have h0:(V 23)=.slice vo kb vc:=(RegLin.ask hd 0:)
    have h2:OwnB W B (V 25) (p1):=(RegLin.ask hd 2:)
    clear hd
    have hbw:B<=W.heap.size:=HBS.out W hc
    have HA:=hid (show OwnB W B (.slice vo kb vc) (cur) from hp rfl)
    have ea:=h0
    have hne:(p1)≠[]:=HN1.out
    obtain⟨g,gc,e5,hcells⟩:=OwnB.src h2 hne
    have HC:=hid hc
    clear hc hp h2
    go_wp2_with (at_builtin;refine wpList_append_own_loc rfl (.tmp 23) (.tmp 25) 31 rfl B 5 i0 (.int .u8 0) [.int .u8 0] 1 Tryz.underlying31 HI.out.1 HI.out.2.1 rfl HI.out.2.2.1 HI.out.2.2.2 (by decide) (.slice vo kb vc) (cur).length ((cur).flatMap enB) (by first | rfl | exact ea) HA.out ⟨g,0,none⟩ (p1).length gc ((p1).flatMap enB) (by first | exact e5 | rfl) (List.length_pos_iff.2 hne) (flat_enB_len _) hcells (enB_one _) (by unfold maxLen;omega) (by omega) hbw ?_)
    intro v1 w1 g1 g2 g3
    have G1:=hid (show OwnB w1 B v1 (l1) from by unfold OwnB;rw [E1.out,la0,fa0];exact g1)
    have G2:=hid (show Below B w w1 from HC.out.grown g2 hbw (fun k hk=>(World.ownsRow.lt HA.out k hk).1))
    clear g1 g2 g3 e5 hcells
    go_wp2_with fail
    refine hK _ _ ?_ ?_ ?_
    . rfl
    ·
     refine RegLin.keeps_by G2.out (by kernel_rfl) (fun j hj hne hl h=>?_)
     iterate 13 (rcases j with _ | j;first | exact h | exact absurd rfl hne | exact RegLin.dead hl)
     exact absurd hj (by omega)
    . exact G1.out
   ·
    intro V W hc hp hd K hK _
    clear hd
    go_wp2_with fail
    exact hK _ _ rfl (RegLin.keeps_below hcm hpr hc br) rfl
   ·
    intro V W hc hp hd K hK _
    clear hd
    go_wp2_with fail
    exact hK _ _ rfl (RegLin.keeps_below hcm hpr hc br) rfl
   ·
    intro V W hc hp hd K hK _
    have h4:(V 27)=.slice (some ⟨xb,xoff,none⟩) n cap:=(RegLin.ask hd 4:)
    have h5:(V 28)=.int .i64 (k:Nat):=(RegLin.ask hd 5:)
    clear hd
    go_wp2_with fail
    exact hK _ _ rfl (RegLin.keeps_below hcm hpr hc br) rfl
   ·
    intro V W hc hp hd K hK _
    have h6:(V 29)=.pointer (some ⟨xb,xoff+k*10,none⟩):=(RegLin.ask hd 6:)
    clear hd
    go_wp2_with fail
    exact hK _ _ rfl (RegLin.keeps_below hcm hpr hc br) rfl
   ·
    intro V W hc hp hd K hK _
    have h7:(V 30)=.pointer (some ⟨xb,xoff+k*10+2,none⟩):=(RegLin.ask hd 7:)
    clear hd
    have m2:=(HAT.out W hc).2.2.1
    go_wp2_with fail
    exact hK _ _ rfl (RegLin.keeps_below hcm hpr hc br) rfl
   ·
    intro V W hc hp hd K hK _
    clear hd
    go_wp2_with fail
    exact hK _ _ rfl (RegLin.keeps_below hcm hpr hc br) rfl
   ·
    intro V W hc hp hd K hK _
    have h8:(V 31)=.string ky:=(RegLin.ask hd 8:)
    have h9:(V 32)=.int .i64 (nn:Nat):=(RegLin.ask hd 9:)
    clear hd
    go_wp2_with fail
    exact hK _ _ rfl (RegLin.keeps_below hcm hpr hc br) rfl
   ·
    intro V W hc hp hd K hK _
    have h10:(V 33)=.string (ky.extract nn ky.size):=(RegLin.ask hd 10:)
    clear hd
    have hbw:B<=W.heap.size:=HBS.out W hc
    have HC:=hid hc
    clear hc hp
    go_wp2_with fail
    refine (HP2.out W).mono ?_
    rintro e w1 ⟨v1,rfl,g1,g2⟩
    have G1:=hid (show OwnB w1 B v1 (p2) from own_base g1 hbw)
    have G2:=hid g2
    clear g1 g2
    go_wp2_with fail
    refine hK _ _ ?_ ?_ ?_
    . rfl
    . exact RegLin.keeps_below hcm hpr HC.out G2.out
    . exact G1.out
   ·
    intro V W hc hp hd K hK _
    have h3:OwnB W B (V 26) (l1):=(RegLin.ask hd 3:)
    have h11:OwnB W B (V 34) (p2):=(RegLin.ask hd 11:)
    clear hd
    have hbw:B<=W.heap.size:=HBS.out W hc
    have HA:=hid (show OwnB W B (V 26) (l1) from h3)
    have hne:(p2)≠[]:=HN2.out
    obtain⟨g,gc,e5,hcells⟩:=OwnB.src h11 hne
    have HC:=hid hc
    clear hc hp h11 h3
    go_wp2_with (at_builtin;refine wpList_append_own_loc rfl (.tmp 26) (.tmp 34) 31 rfl B 5 i0 (.int .u8 0) [.int .u8 0] 1 Tryz.underlying31 HI.out.1 HI.out.2.1 rfl HI.out.2.2.1 HI.out.2.2.2 (by decide) (V 26) (l1).length ((l1).flatMap enB) (by first | rfl | exact ea) HA.out ⟨g,0,none⟩ (p2).length gc ((p2).flatMap enB) (by first | exact e5 | rfl) (List.length_pos_iff.2 hne) (flat_enB_len _) hcells (enB_one _) (by unfold maxLen;omega) (by omega) hbw ?_)
    intro v1 w1 g1 g2 g3
    have G1:=hid (show OwnB w1 B v1 (l2) from by unfold OwnB;rw [E2.out,la0,fa0];exact g1)
    have G2:=hid (show Below B w w1 from HC.out.grown g2 hbw (fun k hk=>(World.ownsRow.lt HA.out k hk).1))
    clear g1 g2 g3 e5 hcells
    go_wp2_with fail
    refine hK _ _ ?_ ?_ ?_
    . rfl
    ·
     refine RegLin.keeps_by G2.out (by kernel_rfl) (fun j hj hne hl h=>?_)
     iterate 13 (rcases j with _ | j;first | exact h | exact absurd rfl hne | exact RegLin.dead hl)
     exact absurd hj (by omega)
    . exact G1.out
   ·
    intro V W hc hd
    have h12:OwnB W B (V 35) (l2):=hd 12 (by decide) rfl
    clear hd
    simp only [List.drop_succ_cons,List.drop_zero]
    have HO5:=hid h12
    have HC5:=hid hc
    have hbw:=HBS.out W hc
    obtain⟨m0,m1,m2,m3,m4,m5,m6,m7,m8,m9⟩:=HAT.out W hc
    obtain⟨uo,uc,huv⟩:=OwnB.form h12
    have HUV:=hid huv
    clear h12 hc hpr hcm huv
    go_wp2_with fail
    refine (HP3.out W HC5.out).mono ?_
    rintro e w6 ⟨v6,rfl,g1,g2⟩
    have HC6:=hid (below_then HC5.out (by rw [HB.out];exact Nat.le_refl _) g2)
    have HO6:=hid (HO5.out.below g2)
    have hbw6:=HBS.out w6 HC6.out
    obtain⟨g,gc,e5,hcells⟩:=OwnB.src (show OwnB w6 W.heap.size v6 p3 from g1) HN3.out
    subst e5
    clear g1 g2 m0 m1 m2 m3 m4 m5 m6 m7 m8 m9
    go_wp2_with (at_builtin;refine wpList_append_own_loc rfl _ _ 31 rfl B 5 i0 (.int .u8 0) [.int .u8 0] 1 Tryz.underlying31 HI.out.1 HI.out.2.1 rfl HI.out.2.2.1 HI.out.2.2.2 (by decide) (V 35) l2.length (l2.flatMap enB) rfl HO6.out ⟨g,0,none⟩ p3.length gc (p3.flatMap enB) rfl (List.length_pos_iff.2 HN3.out) (flat_enB_len _) hcells (enB_one _) (by unfold maxLen;omega) (by omega) hbw6 ?_)
    intro v7 w7 g1 g2 g3
    have HO7:=hid (show OwnB w7 B v7 l3 from by unfold OwnB;rw [E3.out,la0,fa0];exact g1)
    have HC7:=hid (show Below B w w7 from HC6.out.grown g2 hbw6 (fun k hk=>(World.ownsRow.lt HO6.out k hk).1))
    have m2:=(HAT.out w7 HC7.out).2.2.1
    clear g1 g2 g3 hcells
    go_wp2_with fail
    go_roundw
    case rel=>exact⟨k+1,ky,l3,by omega,by go_num,rfl,hksz,y3,HWX,HNEXT,HO7,HC7⟩
    case measure=>simp [intOf];omega
  ·
   obtain rfl:k=n:=by omega
   have HO9:=hid (show OwnB wr B _ T from by
    have h:=hcur.out
    rw [List.drop_of_length_le (by have:=HN.out;omega)] at h
    rw [<-h]
    have e:pageL last (([]:List Ro).map (·.1))=[]:=rfl
    rw [e,List.append_nil]
    exact ho.out)
   go_wp2_with fail
   go_ret
   exact⟨_,rfl,by rw [<-HB.out];exact HO9.out,by rw [<-HB.out];exact hb.out⟩
