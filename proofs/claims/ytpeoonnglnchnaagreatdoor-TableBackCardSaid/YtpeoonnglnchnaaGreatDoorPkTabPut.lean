/- PkTabPut. -/
import Derived.Test.YtpeoonnglnchnaaGreatDoorPkTabKeys
set_option linter.unusedSectionVars false
set_option linter.unusedSimpArgs false
set_option linter.unusedVariables false
set_option maxHeartbeats 16000000
set_option maxRecDepth 100000
namespace Go.Proofs.YtpeoonnglnchnaaGreatDoor.Tab
open Go.Lib (hid)
open RowKit YtpeoonnglnchnaaGreatDoor.Spare RegInv Mut Mrk
variable [Inhabited Lim]
theorem pageL_drop {R:List Ro} {k:Nat} {x:Ro} (h:R[k]?=some x) (last:ByteArray):pageL last ((R.drop k).map (·.1))=rowB last x.1++pageL x.1.key ((R.drop (k+1)).map (·.1)):=by
 obtain⟨hi,he⟩:=gs0.1 h
 rw [dg0 hi,he]
 rfl
theorem pageput_any (rv:Value) (R:List Ro) (w:World) (hr:MRow w rv R) (hnum:∀ x∈R,NumM x.1) (hwell:∀ x∈R,Well x.1.key) (hn:R.length<=500) (hsmall:(pageB (R.map (·.1))).length<=500000) :
  Calls Tryz.prog 45 #[.slice none 0 0,rv] w fun e w'=>∃ v',e=.returned v'/\OwnB w' w.heap.size v' (pageB (R.map (·.1)))/\Below w.heap.size w w':=by
 obtain⟨ro,cap,rfl,-,-⟩:=hr.form
 obtain⟨n,hnr⟩:∃ k,k=R.length:=⟨_,rfl⟩
 rw [<-hnr] at hr hn ⊢
 have HR:=hid hr
 have HN:=hid hnr
 have HNU:=hid hnum
 have HWE:=hid hwell
 have HPU:=hid (Rd.put_nil w n (by omega))
 obtain⟨T,hT⟩:∃ T,T=pageB (R.map (·.1)):=⟨_,rfl⟩
 rw [<-hT] at hsmall ⊢
 have HT:=hid (show putF n++pageL ByteArray.empty ((R.drop 0).map (·.1))=T from by rw [hT,hnr];unfold pageB;rw [lm0];rfl)
 obtain⟨B,hB⟩:∃ B,B=w.heap.size:=⟨_,rfl⟩
 have HB:=hid hB
 clear hr hnr hnum hwell hT
 go_enter Tryz.func45,Tryz.ntmps45
 go_wp2_with fail
 refine HPU.out.mono ?_
 rintro e w1 ⟨v1,rfl,ho1,hb1⟩
 have HO1:=hid (show OwnB w1 B v1 (putF n) from by rw [hB];exact ho1)
 have HB1:=hid hb1
 clear ho1 hb1 HPU
 go_wp2_with fail
 go_loopw [0,5,15] (fun ov sv iv wr=>∃ (k:Nat) (last:ByteArray) (cur:List Nat),k<=n/\iv=.int .i64 k/\sv=.string last/\last.size<=1000/\cur.length<=500000/\Hid (Well last)/\Hid (cur++pageL last ((R.drop k).map (·.1))=T)/\Hid (OwnB wr B ov cur)/\Hid (Below w.heap.size w wr)) (fun _ _ iv _=>n - (intOf iv).toNat)
 case atStart=>exact⟨0,ByteArray.empty,putF n,by omega,rfl,rfl,by simp,by have:=congrArg List.length HT.out;rw [la0] at this;omega,hid well_empty,HT,HO1,HB1⟩
 case round=>
  obtain⟨k,last,cur,hk,rfl,rfl,hls,hcl,hwl,hcur,ho,hb⟩:=hrel
  by_cases hlt:k<n
  ·
   have hkr:k<R.length:=by have:=HN.out;omega
   obtain⟨x,hx⟩:∃ x,R[k]?=some x:=⟨_,ge0 hkr⟩
   have hmr:MRow wr (.slice ro n cap) R:=HR.out.below hb.out
   obtain⟨xb,xoff,hao,hat⟩:=hmr.at_ hx
   cases hao
   have hxm:=mg0 hx
   have hov0:=HR.out.over x hxm
   obtain⟨xo,xc,xe,-,-⟩:=Over.form hov0
   have HOV:=hid hov0
   have HNX:=hid (HNU.out x hxm)
   have hwx:=HWE.out x hxm
   have hksz:=HNX.out.key
   obtain⟨nn,hnn⟩:∃ m,m=sharedF last x.1.key:=⟨_,rfl⟩
   have hnk:nn<=x.1.key.size:=by rw [hnn];exact sharedF_le2 last hwx
   have hstep:=hcur.out
   rw [pageL_drop hx last] at hstep
   unfold rowB at hstep
   rw [<-hnn] at hstep
   obtain⟨l1,e1⟩:∃ l,l=cur++putF nn:=⟨_,rfl⟩
   obtain⟨l2,e2⟩:∃ l,l=l1++textF (x.1.key.extract nn x.1.key.size):=⟨_,rfl⟩
   obtain⟨l3,e3⟩:∃ l,l=l2++restM x.1:=⟨_,rfl⟩
   have hnext:l3++pageL x.1.key ((R.drop (k+1)).map (·.1))=T:=by rw [e3,e2,e1,<-hstep];simp [List.append_assoc]
   have y3:l3.length<=500000:=by have:=congrArg List.length hnext;rw [la0] at this;omega
   have y2:l2.length<=500000:=by rw [e3,la0] at y3;omega
   have y1:l1.length<=500000:=by rw [e2,la0] at y2;omega
   have hesz:(x.1.key.extract nn x.1.key.size).size<=1000:=by rw [ByteArray.size_extract];omega
   have HVM:=hid (show vM x=.agg #[.int .i64 x.1.table,.int .i64 x.1.kind,.string x.1.key,.string x.1.fin,.string x.1.val,.int .i64 x.1.expiry,.int .i64 x.1.at_.p,.int .i64 x.1.at_.l,.int .i64 x.1.at_.w,.slice xo x.1.over.length xc] from by unfold vM;rw [xe])
   obtain⟨hbl0,a0,a1,a2,a3,a4,a5,a6,a7,a8,a9⟩:=hat
   rw [xe] at a9
   have hsh:=fun z=>shared_any last x.1.key z (by omega) (by omega) hwl.out hwx
   rw [<-hnn] at hsh
   obtain⟨ky,hky⟩:∃ ky,ky=x.1.key:=⟨_,rfl⟩
   obtain⟨xn,hxn⟩:∃ m,m=x.1.over.length:=⟨_,rfl⟩
   rw [<-hky] at a2 hnk hksz hsh e2 hesz HVM hnext hwx
   rw [<-hxn] at a9 HVM
   have HSH:=hid hsh
   have E1:=hid e1
   have E2:=hid e2
   have E3:=hid e3
   have HNEXT:=hid hnext
   have HWX:=hid hwx
   have j0:(0:Int)<=(k:Int):=by omega
   have j1:(k:Int)<(n:Int):=by omega
   have hnn62:nn<9223372036854775808:=by omega
   clear hmr hx hxm hov0 xe hkr hstep hsh e1 e2 e3 hnn hnext hwx hky hxn
   obtain⟨W2,hW2⟩:∃ W,W=wr.alloc (.cells #[.int .i64 x.1.table,.int .i64 x.1.kind,.string ky,.string x.1.fin,.string x.1.val,.int .i64 x.1.expiry,.int .i64 x.1.at_.p,.int .i64 x.1.at_.l,.int .i64 x.1.at_.w,.slice xo xn xc] 42):=⟨_,rfl⟩
   obtain⟨k3,hk3⟩:∃ k,k=wr.heap.size:=⟨_,rfl⟩
   have hb2:Below wr.heap.size wr W2:=by rw [hW2];exact (Below.refl _ wr).alloc lr _
   have hbx:W2.heap[k3]?=some (.cells #[.int .i64 x.1.table,.int .i64 x.1.kind,.string ky,.string x.1.fin,.string x.1.val,.int .i64 x.1.expiry,.int .i64 x.1.at_.p,.int .i64 x.1.at_.l,.int .i64 x.1.at_.w,.slice xo xn xc] 42 (0,0)):=by rw [hW2,hk3];exact heap_alloc_new wr _
   have HO2:=hid (ho.out.below hb2)
   have HB2:=hid (below_then hb.out lr hb2)
   have HBX2:=hid hbx
   have HW2:=hid hW2
   have HK3:=hid hk3
   clear hb2 hbx hW2 hk3 ho hb hcur
   go_upto_region 6 with fail
   rw [<-HW2.out,<-HK3.out]
   have m2:W2.cell? ⟨k3,2,none⟩=some (.string ky):=by rw [cell_of_row W2 k3 2 _ _ (0,0) HBX2.out];rfl
   clear a0 a1 a2 a3 a4 a5 a6 a7 a8 a9 hbl0 HW2 HK3
   go_wp2_with fail
   refine (HSH.out _).mono ?_
   rintro e W3 ⟨rfl,hb3⟩
   obtain⟨vo,vc,hvv⟩:=HO2.out.form
   subst hvv
   obtain⟨kb,hkb⟩:∃ q,q=cur.length:=⟨_,rfl⟩
   rw [<-hkb] at HO2 ⊢
   have HTY:=hid (show 42≠5 from by decide)
   have HBX:=hid (show BoxG W3 (Value.slice vo kb vc).ownBlock k3 #[.int .i64 x.1.table,.int .i64 x.1.kind,.string ky,.string x.1.fin,.string x.1.val,.int .i64 x.1.expiry,.int .i64 x.1.at_.p,.int .i64 x.1.at_.l,.int .i64 x.1.at_.w,.slice xo xn xc] 42 W3.drew from ⟨World.grownBy.andThen (World.grownBy.refl _ _) (Mrk.grown_below (row:=none) br.drew) (fun j hj=>by cases hj),(hb3.block k3 (ag0.1 HBX2.out).1).trans HBX2.out⟩)
   have HRW:=hid (show RowG W3 B (.slice vo kb vc) cur (.slice vo kb vc) W3.drew from ⟨(HO2.out.below hb3).below br.drew,fun g hg=>Or.inl hg⟩)
   have HB3:=hid (below_then HB2.out lr hb3)
   have HBS:=hid (show B<=W3.heap.size from by rw [HB.out];exact HB3.out.size)
   have hcm:∀ a b,BoxG W3 (Value.slice vo kb vc).ownBlock k3 #[.int .i64 x.1.table,.int .i64 x.1.kind,.string ky,.string x.1.fin,.string x.1.val,.int .i64 x.1.expiry,.int .i64 x.1.at_.p,.int .i64 x.1.at_.l,.int .i64 x.1.at_.w,.slice xo xn xc] 42 a->Below a.heap.size a b->BoxG W3 (Value.slice vo kb vc).ownBlock k3 #[.int .i64 x.1.table,.int .i64 x.1.kind,.string ky,.string x.1.fin,.string x.1.val,.int .i64 x.1.expiry,.int .i64 x.1.at_.p,.int .i64 x.1.at_.l,.int .i64 x.1.at_.w,.slice xo xn xc] 42 b:=fun a b h hb=>h.later hb
   have hpr:∀ (c:Nat) (z:Value) (lz:List Nat) (j:Nat) (a b:World),(j=c->(fun W=>RowG W3 B (.slice vo kb vc) lz z W) a)->Below a.heap.size a b->(j=c->(fun W=>RowG W3 B (.slice vo kb vc) lz z W) b):=fun c z lz j a b h hb e=>(h e).below hb
   have HOW:=hid (show ∀ W,BoxG W3 (Value.slice vo kb vc).ownBlock k3 #[.int .i64 x.1.table,.int .i64 x.1.kind,.string ky,.string x.1.fin,.string x.1.val,.int .i64 x.1.expiry,.int .i64 x.1.at_.p,.int .i64 x.1.at_.l,.int .i64 x.1.at_.w,.slice xo xn xc] 42 W->Below w.heap.size w W from fun W hW=>HB3.out.grown hW.grown HB3.out.size (fun q hq=>by
    have:=(World.ownsRow.lt HRW.out.1 q hq).1
    have:=HB.out
    omega))
   have HKB:=hid hkb
   clear hb3 m2 hkb
   go_upto_region 7 with fail
   refine RegLin.wp_region_lin (RegLin.useL [(2,7),(7,9)]) (fun W=>BoxG W3 (Value.slice vo kb vc).ownBlock k3 #[.int .i64 x.1.table,.int .i64 x.1.kind,.string ky,.string x.1.fin,.string x.1.val,.int .i64 x.1.expiry,.int .i64 x.1.at_.p,.int .i64 x.1.at_.l,.int .i64 x.1.at_.w,.slice xo xn xc] 42 W) (fun j W=>j=2->(fun W=>RowG W3 B (.slice vo kb vc) cur (.slice vo kb vc) W) W) 10 [false,false,false,false,false,false,false,false,false,false,false,false,false,false,false,false,false,false,false,false,false,false,false,true,true,true,true,true,true,true,true,true,true,false,false,false,false]
    [sLit (.slice vo kb vc),
  sLit (.int .i64 (nn:Nat)),
  sRow W3 B (.slice vo kb vc) (l1),
  sLit (.pointer (some ⟨k3,2,none⟩)),
  sLit (.string ky),
  sLit (.int .i64 (nn:Nat)),
  sLit (.string (ky.extract nn ky.size)),
  sRow W3 B (.slice vo kb vc) (l2),
  sLit (.agg #[.int .i64 x.1.table,.int .i64 x.1.kind,.string ky,.string x.1.fin,.string x.1.val,.int .i64 x.1.expiry,.int .i64 x.1.at_.p,.int .i64 x.1.at_.l,.int .i64 x.1.at_.w,.slice xo xn xc]),
  sRow W3 B (.slice vo kb vc) (l3)] (HBX.out) (fun j _ _=>HRW.out) (by kernel_rfl) (by kernel_rfl) (by kernel_rfl) (by kernel_rfl) (fun F hF=>?_)
   simp only [over,overL,Nat.reduceAdd] at hF
   obtain rfl:=funext hF
   clear hF
   refine⟨⟨?_,?_,?_,?_,?_,?_,?_,?_,?_,?_,trivial⟩,?_⟩
   ·
    intro V W hc hp hd K hK _
    clear hd
    go_wp2_with fail
    exact hK _ _ rfl (RegLin.keeps_below hcm (hpr 2 _ _) hc br) rfl
   ·
    intro V W hc hp hd K hK _
    clear hd
    go_wp2_with fail
    exact hK _ _ rfl (RegLin.keeps_below hcm (hpr 2 _ _) hc br) rfl
   ·
    intro V W hc hp hd K hK _
    have h0:(V 23)=.slice vo kb vc:=(RegLin.ask hd 0:)
    have h1:(V 24)=.int .i64 (nn:Nat):=(RegLin.ask hd 1:)
    clear hd
    skip
    have hr:RowG W3 B (.slice vo kb vc) _ _ W:=(hp rfl)
    have hbw:B<=W.heap.size:=Nat.le_trans HBS.out hc.grown.size
    have HR:=hid hr
    have HC:=hid hc
    clear hr hp hc
    go_wp2_with fail
    refine ((by have h:=put_onto nn B _ cur W hnn62 HR.out.1 hbw (by omega);rw [<-E1.out] at h;exact h:Calls _ _ _ W (OnPost B _ l1 W))).mono ?_
    rintro e w1 ⟨v1,rfl,g1,g2,g3⟩
    have hN:=rowG_next HC.out HTY.out HR.out g1 g2 g3
    go_wp2_with fail
    refine hK _ _ ?_ ?_ ?_
    . rfl
    ·
     refine RegLin.keeps_by hN.1 (by kernel_rfl) (fun j hj hne hl h=>?_)
     iterate 10 (rcases j with _ | j;first | exact h | exact absurd rfl hne | exact RegLin.dead hl)
     exact absurd hj (by omega)
    . exact hN.2
   ·
    intro V W hc hp hd K hK _
    clear hd
    go_wp2_with fail
    exact hK _ _ rfl (RegLin.keeps_below hcm (hpr 2 _ _) hc br) rfl
   ·
    intro V W hc hp hd K hK _
    have h3:(V 26)=.pointer (some ⟨k3,2,none⟩):=(RegLin.ask hd 3:)
    clear hd
    obtain⟨m0,m1,m2,m3,m4,m5,m6,m7,m8,m9⟩:=(And.intro (hc.cell 0) (And.intro (hc.cell 1) (And.intro (hc.cell 2) (And.intro (hc.cell 3) (And.intro (hc.cell 4) (And.intro (hc.cell 5) (And.intro (hc.cell 6) (And.intro (hc.cell 7) (And.intro (hc.cell 8) (hc.cell 9))))))))))
    go_wp2_with fail
    exact hK _ _ rfl (RegLin.keeps_below hcm (hpr 2 _ _) hc br) rfl
   ·
    intro V W hc hp hd K hK _
    clear hd
    go_wp2_with fail
    exact hK _ _ rfl (RegLin.keeps_below hcm (hpr 2 _ _) hc br) rfl
   ·
    intro V W hc hp hd K hK _
    have h4:(V 27)=.string ky:=(RegLin.ask hd 4:)
    have h5:(V 28)=.int .i64 (nn:Nat):=(RegLin.ask hd 5:)
    clear hd
    go_wp2_with fail
    exact hK _ _ rfl (RegLin.keeps_below hcm (hpr 2 _ _) hc br) rfl
   ·
    intro V W hc hp hd K hK _
    have h2:RowG W3 B (.slice vo kb vc) (l1) (V 25) W:=(RegLin.ask hd 2:)
    have h6:(V 29)=.string (ky.extract nn ky.size):=(RegLin.ask hd 6:)
    clear hd
    skip
    have hr:RowG W3 B (.slice vo kb vc) _ _ W:=h2
    have hbw:B<=W.heap.size:=Nat.le_trans HBS.out hc.grown.size
    have HR:=hid hr
    have HC:=hid hc
    clear hr hp hc h2
    go_wp2_with fail
    refine ((by have h:=text_onto (ky.extract nn ky.size) B _ l1 W (by omega) HR.out.1 hbw (by omega);rw [<-E2.out] at h;exact h:Calls _ _ _ W (OnPost B _ l2 W))).mono ?_
    rintro e w1 ⟨v1,rfl,g1,g2,g3⟩
    have hN:=rowG_next HC.out HTY.out HR.out g1 g2 g3
    go_wp2_with fail
    refine hK _ _ ?_ ?_ ?_
    . rfl
    ·
     refine RegLin.keeps_by hN.1 (by kernel_rfl) (fun j hj hne hl h=>?_)
     iterate 10 (rcases j with _ | j;first | exact h | exact absurd rfl hne | exact RegLin.dead hl)
     exact absurd hj (by omega)
    . exact hN.2
   ·
    intro V W hc hp hd K hK _
    clear hd
    obtain⟨m0,m1,m2,m3,m4,m5,m6,m7,m8,m9⟩:=(And.intro (hc.cell 0) (And.intro (hc.cell 1) (And.intro (hc.cell 2) (And.intro (hc.cell 3) (And.intro (hc.cell 4) (And.intro (hc.cell 5) (And.intro (hc.cell 6) (And.intro (hc.cell 7) (And.intro (hc.cell 8) (hc.cell 9))))))))))
    go_wp2_with fail
    exact hK _ _ rfl (RegLin.keeps_below hcm (hpr 2 _ _) hc br) rfl
   ·
    intro V W hc hp hd K hK _
    have h7:RowG W3 B (.slice vo kb vc) (l2) (V 30) W:=(RegLin.ask hd 7:)
    have h8:(V 31)=.agg #[.int .i64 x.1.table,.int .i64 x.1.kind,.string ky,.string x.1.fin,.string x.1.val,.int .i64 x.1.expiry,.int .i64 x.1.at_.p,.int .i64 x.1.at_.l,.int .i64 x.1.at_.w,.slice xo xn xc]:=(RegLin.ask hd 8:)
    clear hd
    skip
    have hr:RowG W3 B (.slice vo kb vc) _ _ W:=h7
    have hbw:B<=W.heap.size:=Nat.le_trans HBS.out hc.grown.size
    have HR:=hid hr
    have HC:=hid hc
    clear hr hp hc h7
    go_wp2_with fail
    refine ((by have h:=rest_ro x w W _ l2 HOV.out HNX.out (HOW.out W HC.out) (by rw [<-HB.out];exact HR.out.1) (by omega);rw [<-E3.out,HVM.out,<-HB.out] at h;exact h:Calls _ _ _ W (OnPost B _ l3 W))).mono ?_
    rintro e w1 ⟨v1,rfl,g1,g2,g3⟩
    have hN:=rowG_next HC.out HTY.out HR.out g1 g2 g3
    go_wp2_with fail
    refine hK _ _ ?_ ?_ ?_
    . rfl
    ·
     refine RegLin.keeps_by hN.1 (by kernel_rfl) (fun j hj hne hl h=>?_)
     iterate 10 (rcases j with _ | j;first | exact h | exact absurd rfl hne | exact RegLin.dead hl)
     exact absurd hj (by omega)
    . exact hN.2
   ·
    intro V W hc hd
    have h9:RowG W3 B (.slice vo kb vc) (l3) (V 32) W:=hd 9 (by decide) rfl
    clear hd
    simp only [List.drop_succ_cons,List.drop_zero]
    have H9:=hid h9.1
    have HC:=hid hc
    have HBW:=hid (HOW.out W hc)
    have m2:W.cell? ⟨k3,2,none⟩=some (.string ky):=by rw [hc.cell 2];rfl
    clear h9 hc
    go_wp2_with fail
    go_roundw
    case rel=>exact⟨k+1,ky,l3,by omega,by go_num,rfl,hksz,y3,HWX,HNEXT,H9,HBW⟩
    case measure=>simp [intOf];omega
  ·
   obtain rfl:k=n:=by omega
   have HO9:=hid (show OwnB wr B _ T from by
    have h:=hcur.out
    rw [List.drop_of_length_le (by have:=HN.out;omega)] at h
    rw [<-h]
    have e:pageL last (([]:List Ro).map (·.1))=[]:=rfl
    rw [e,List.append_nil]
    exact ho.out)
   go_wp2_with fail
   go_ret
   exact⟨_,rfl,by rw [<-HB.out];exact HO9.out,hb.out⟩
end Go.Proofs.YtpeoonnglnchnaaGreatDoor.Tab
namespace Go.Proofs.YtpeoonnglnchnaaGreatDoor.Tab
open Go.Lib (hid)
open RowKit Go.Lib RegInv
theorem runes_fine (s:ByteArray):∀ (f pos:Nat),wellFrom s f pos->∀ r∈runesFrom s f pos,∃ c:Nat,r=(c:Int)/\c<=1114111/\(c<55296\/57344<=c)
 | 0,pos,_,r,hr=>by simp [runesFrom] at hr
 | f+1,pos,h,r,hr=>by
  by_cases hp:pos<s.size
  ·
   rw [runesFrom_step s f hp] at hr
   obtain⟨w1,w2⟩:=h hp
   have hl:=fine_len hp w1
   rcases List.mem_cons.1 hr with rfl | hr
   . exact⟨_,rfl,hl.2.2.2⟩
   . exact runes_fine s f _ w2 r hr
  ·
   rw [runesFrom_end s (f+1) hp] at hr
   cases hr
theorem shared_cons {x y:Int} {xs ys:List Int} (h:x=y):sharedR (x::xs) (y::ys)=encLen x.toNat+sharedR xs ys:=by
 conv=>lhs;unfold sharedR
 rw [if_pos h]
theorem shared_ne {x y:Int} {xs ys:List Int} (h:x≠y):sharedR (x::xs) (y::ys)=0:=by unfold sharedR;rw [if_neg h]
theorem shared_nil_l (ys:List Int):sharedR [] ys=0:=by cases ys <;> rfl
theorem shared_nil_r (xs:List Int):sharedR xs []=0:=by cases xs <;> rfl
theorem refshared_any (a b:ByteArray) (w:World) (sa:a.size<=1000000) (sb:b.size<=1000000) (wa:Well a) :
  Calls Tryz.prog 98 #[.string a,.string b] w fun e w'=>e=.returned (.int .i64 (sharedF a b:Nat))/\Below w.heap.size w w':=by
 obtain⟨GX,CX,hcx,hGX,hCX⟩:=runes_row (P:=Tryz.prog) 9 150 21 a Tryz.underlying9 Tryz.underlying150 Tryz.underlying21 (by omega)
 obtain⟨GY,CY,hcy,hGY,hCY⟩:=runes_row (P:=Tryz.prog) 9 150 21 b Tryz.underlying9 Tryz.underlying150 Tryz.underlying21 (by omega)
 obtain⟨T,hT⟩:∃ T,T=sharedF a b:=⟨_,rfl⟩
 have hln:=runesOf_len a
 have hln2:=runesOf_len b
 have hfine:=runes_fine a a.size 0 wa
 obtain⟨LX,hLX⟩:∃ L,L=runesOf a:=⟨_,rfl⟩
 obtain⟨LY,hLY⟩:∃ L,L=runesOf b:=⟨_,rfl⟩
 have hT2:T=sharedR LX LY:=by rw [hT,hLX,hLY];rfl
 rw [show runesFrom a a.size 0=runesOf a from rfl,<-hLX] at hfine
 rw [<-hLX] at hCX hcx hln hGX
 rw [<-hLY] at hCY hcy hln2 hGY
 rw [<-hT]
 obtain⟨nx,hnx⟩:∃ n,n=LX.length:=⟨_,rfl⟩
 obtain⟨ny,hny⟩:∃ n,n=LY.length:=⟨_,rfl⟩
 rw [<-hnx] at hcx hln hGX
 rw [<-hny] at hcy hln2 hGY
 have HC:=hid (And.intro hCX hCY)
 have HG:=hid (And.intro hGX hGY)
 have HN:=hid (And.intro hnx hny)
 have HT:=hid hT2
 have HF:=hid hfine
 clear hT hT2 hCX hCY hGX hGY hnx hny hLX hLY wa hfine
 go_enter Tryz.func98,Tryz.ntmps98
 obtain⟨wx,hwx⟩:∃ wx,wx=w.alloc (.cells (CX w) 21):=⟨_,rfl⟩
 obtain⟨W2,hW2⟩:∃ W2,W2=(wx.alloc (.cells (CY wx.drew) 21)).drew.drew:=⟨_,rfl⟩
 have hsx:wx.heap.size=w.heap.size+1:=by rw [hwx];simp
 have hbx:Below w.heap.size w wx:=by rw [hwx];exact br.alloc lr _
 have hb2:Below wx.heap.size wx W2:=by rw [hW2];exact ((br.alloc lr _).drew).drew
 have hs2:W2.heap.size=w.heap.size+2:=by rw [hW2];simp [hsx]
 have HCLX:=hid (show ∀ (i:Nat) (x:Int),LX[i]?=some x->W2.cell? ⟨w.heap.size,i,none⟩=some (.int .i32 x) from fun i x hx=>by
  have h:=HC.out.1 w i x hx
  refine (hb2.cell (p:=⟨w.heap.size,i,none⟩) (by show w.heap.size<wx.heap.size;omega)).trans ?_
  rw [hwx]
  go_simp)
 have HCLY:=hid (show ∀ (i:Nat) (x:Int),LY[i]?=some x->W2.cell? ⟨w.heap.size+1,i,none⟩=some (.int .i32 x) from fun i x hx=>by
  have h:=HC.out.2 wx.drew i x hx
  rw [hW2,<-hsx]
  rw [hwx] at h
  go_simp)
 have HB2:=hid (below_then hbx lr hb2)
 have HGL:=hid (And.intro (HG.out.1 w) (HG.out.2 wx.drew))
 obtain⟨gx,hgx⟩:∃ g,g=GX w:=⟨_,rfl⟩
 obtain⟨gy,hgy⟩:∃ g,g=GY wx.drew:=⟨_,rfl⟩
 rw [<-hgx,<-hgy] at HGL
 obtain⟨hg1,hg2⟩:=HGL.out
 have HSX:=hid hsx
 have HWW:=hid (And.intro hwx (And.intro hW2 (And.intro hgx hgy)))
 have hwx2:w.alloc (.cells (CX w) 21)=wx:=hwx.symm
 have hbd:nx<=1000000/\ny<=1000000:=⟨by omega,by omega⟩
 clear hbx hb2 hwx hW2 hgx hgy hsx
 go_upto_region 3 with fail
 rw [<-HWW.out.2.1,<-HWW.out.2.2.1,<-HWW.out.2.2.2,HSX.out]
 clear hwx2 hcx hcy HC HG
 obtain⟨hx1,hx2,-⟩:=hg1
 obtain⟨hy1,hy2,-⟩:=hg2
 obtain⟨hnx,hny⟩:=hbd
 go_wp2_with fail
 go_loopw [7,8] (fun sv iv wr=>∃ (i:Nat) (s:ByteArray),i<=nx/\i<=ny/\sv=.string s/\iv=.int .i64 i/\s.size<=4*i/\Hid (T=s.size+sharedR (LX.drop i) (LY.drop i))/\Hid (Below w.heap.size w wr)/\Hid (Below W2.heap.size W2 wr)) (fun _ iv _=>nx - (RowKit.intOf iv).toNat)
 case atStart=>exact⟨0,_,Nat.zero_le _,Nat.zero_le _,rfl,rfl,by decide,hid (by rw [HT.out,List.drop_zero,List.drop_zero];exact (Nat.zero_add _).symm),HB2,hid br⟩
 case round=>
  obtain⟨i,s,hi1,hi2,rfl,rfl,hss,hTT,hB,hBW⟩:=hrel
  have HB:=hB
  have HSZ:=hid (show T=T from rfl)
  clear hB
  by_cases h1:nx<=i
  ·
   have HEND:=hid (show T=s.size by rw [hTT.out,show LX.drop i=[] from List.drop_eq_nil_of_le (by rw [<-HN.out.1];exact h1),shared_nil_l];rfl)
   go_upto_region 4 with fail
   have q0:¬ ((i:Int)<(nx:Int)):=by omega
   have q0n:¬ (i<nx):=by omega
   refine wp_region_calm (by kernel_rfl) (by kernel_rfl) ?_
   repeat (go_big_quiet_step (fail))
   refine wpQuiet_nil ?_
   rintro _ ⟨z0,rfl⟩
   have hb:=z0.below
   obtain⟨W,hW⟩:∃ W,W=z0.at:=⟨_,rfl⟩
   rw [<-hW] at hb ⊢
   clear hW
   have HB9:=hid (below_then HB.out lr hb)
   clear hb
   go_wp2_with fail
   go_ret
   exact⟨by rw [HEND.out];rfl,HB9.out⟩
  by_cases h2:ny<=i
  ·
   have HEND:=hid (show T=s.size by rw [hTT.out,show LY.drop i=[] from List.drop_eq_nil_of_le (by rw [<-HN.out.2];exact h2),shared_nil_r];rfl)
   go_upto_region 4 with fail
   have q0:(i:Int)<(nx:Int):=by omega
   have q1:¬ ((i:Int)<(ny:Int)):=by omega
   have q1n:¬ (i<ny):=by omega
   refine wp_region_calm (by kernel_rfl) (by kernel_rfl) ?_
   repeat (go_big_quiet_step (fail))
   refine wpQuiet_nil ?_
   rintro _ ⟨z0,rfl⟩
   have hb:=z0.below
   obtain⟨W,hW⟩:∃ W,W=z0.at:=⟨_,rfl⟩
   rw [<-hW] at hb ⊢
   clear hW
   have HB9:=hid (below_then HB.out lr hb)
   clear hb
   go_wp2_with fail
   go_ret
   exact⟨by rw [HEND.out];rfl,HB9.out⟩
  have hlx:i<LX.length:=by rw [<-HN.out.1];omega
  have hly:i<LY.length:=by rw [<-HN.out.2];omega
  obtain⟨x,hx⟩:∃ x,LX[i]?=some x:=⟨_,ge0 hlx⟩
  obtain⟨y,hy⟩:∃ y,LY[i]?=some y:=⟨_,ge0 hly⟩
  have hdx:LX.drop i=x::LX.drop (i+1):=by rw [dg0 hlx,(gs0.1 hx).2]
  have hdy:LY.drop i=y::LY.drop (i+1):=by rw [dg0 hly,(gs0.1 hy).2]
  have HCX:=hid ((hBW.out.cell (p:=⟨w.heap.size,i,none⟩) (by show w.heap.size<W2.heap.size;omega)).trans (HCLX.out i x hx))
  have HCY:=hid ((hBW.out.cell (p:=⟨w.heap.size+1,i,none⟩) (by show w.heap.size+1<W2.heap.size;omega)).trans (HCLY.out i y hy))
  have hsr:=hBW.out.size
  have HLX:=hid (show w.heap.size<wr.heap.size by omega)
  have HLY:=hid (show w.heap.size+1<wr.heap.size by omega)
  obtain⟨cx,hcx,hc1,hc2⟩:=HF.out x (mg0 hx)
  by_cases h3:x=y
  ·
   have HXY:=hid (show (x == y)=true by rw [h3];exact beq_self_eq_true y)
   have hes:(encS x).size=encLen x.toNat:=by rw [hcx,Int.toNat_natCast];exact encS_size cx hc1 hc2
   have hel:=encLen_le x.toNat
   have HTN:=hid (show T=(s.size+(encS x).size)+sharedR (LX.drop (i+1)) (LY.drop (i+1)) by rw [hTT.out,hdx,hdy,shared_cons h3,hes];omega)
   have hcv:=fun W=>run_encS x W
   obtain⟨E,hE⟩:∃ E,E=encS x:=⟨_,rfl⟩
   rw [<-hE] at hcv hes HTN
   have hEs:E.size<=4:=by omega
   have hcat:(s++E).size<=4000004:=by rw [ByteArray.size_append];omega
   clear hx hy hdx hdy hlx hly h3 hE hes hel hcx hc1 hc2
   go_upto_region 4 with fail
   have q0:(i:Int)<(nx:Int):=by omega
   have q1:(i:Int)<(ny:Int):=by omega
   have qi:(0:Int)<=(i:Int):=by omega
   have lx:=HLX.out
   have ly:=HLY.out
   have sx:=HCX.out
   have sy:=HCY.out
   have hxy:=HXY.out
   refine wp_region_calm (by kernel_rfl) (by kernel_rfl) ?_
   repeat (go_big_quiet_step (fail))
   refine wpQuiet_nil ?_
   rintro _ ⟨z0,rfl⟩
   have hb:=z0.below
   obtain⟨W,hW⟩:∃ W,W=z0.at:=⟨_,rfl⟩
   rw [<-hW] at hb ⊢
   clear hW
   have sx:=(hb.cell (p:=⟨w.heap.size,i,none⟩) HLX.out).trans HCX.out
   have HB9:=hid (below_then HB.out lr hb)
   have HBW9:=hid (below_then hBW.out lr hb)
   clear hb
   go_wp2_with fail
   go_roundw
   case rel=>exact⟨i+1,s++E,by omega,by omega,rfl,by go_num,by rw [ByteArray.size_append];omega,hid (by rw [ByteArray.size_append];exact HTN.out),HB9,HBW9⟩
   case measure=>simp [RowKit.intOf];omega
  ·
   have HXY:=hid (show (x == y)=false by rw [beq_eq_false_iff_ne];exact h3)
   have HEND:=hid (show T=s.size by rw [hTT.out,hdx,hdy,shared_ne h3];rfl)
   clear hx hy hdx hdy hlx hly h3 hcx hc1 hc2
   go_upto_region 4 with fail
   have q0:(i:Int)<(nx:Int):=by omega
   have q1:(i:Int)<(ny:Int):=by omega
   have qi:(0:Int)<=(i:Int):=by omega
   have lx:=HLX.out
   have ly:=HLY.out
   have sx:=HCX.out
   have sy:=HCY.out
   have hxy:=HXY.out
   refine wp_region_calm (by kernel_rfl) (by kernel_rfl) ?_
   repeat (go_big_quiet_step (fail))
   refine wpQuiet_nil ?_
   rintro _ ⟨z0,rfl⟩
   have hb:=z0.below
   obtain⟨W,hW⟩:∃ W,W=z0.at:=⟨_,rfl⟩
   rw [<-hW] at hb ⊢
   clear hW
   have HB9:=hid (below_then HB.out lr hb)
   clear hb
   go_wp2_with fail
   go_ret
   exact⟨by rw [HEND.out];rfl,HB9.out⟩
