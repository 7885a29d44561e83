/- TabStGet. -/
import Derived.Test.YtpeoonnglnchnaaGreatDoorPkTabRefMay
set_option linter.unusedSectionVars false
set_option linter.unusedSimpArgs false
set_option linter.unusedVariables false
set_option maxHeartbeats 16000000
set_option maxRecDepth 100000
namespace Go.Proofs.YtpeoonnglnchnaaGreatDoor.Rd
open Go.Lib (hid)
open RowKit Mrk RegInv Mut
variable [Inhabited Lim]
def getCs (B:List Nat) (s:S):Con × S:=
 if (listS B 400 s).2.2=0 then
  if bytesR (allF (Mut.leftOf (listS B 400 s).1))=(B.drop s.1).take ((listS B 400 s).2.1 - s.1) then (Mut.leftOf (listS B 400 s).1,(listS B 400 s).2)
  else (conE,((listS B 400 s).2.1,31))
 else (conE,(listS B 400 s).2)
theorem getCs_good (B:List Nat) (s:S) (hs:s.1<=B.length):Mut.Good (Mut.leftOf (listS B 400 s).1) 400/\(listS B 400 s).1.length<=400/\∀ m∈(listS B 400 s).1,rightF m=true:=by
 have h:=listS_right B 400 s hs
 exact⟨(Mut.leftOf_good _).more h.1,h.1,h.2⟩
theorem getCs_back {c:Con} {n:Nat} (h:Mut.Good c n) (hn:n<=400) (pre post:List Nat):getCs (pre++(bytesR (allF c)++post)) (pre.length,0)=(c,(pre.length+(bytesR (allF c)).length,0)):=by
 have hl:(allF c).length<=400:=by have:=h.okc.len;have:=len_allF c;omega
 have h1:=list_back pre post (allF c) 400 (by omega) (by omega) (fun m hm=>h.okc.right m (mem_allF.1 hm))
 unfold getCs
 rw [h1]
 simp only [left_allF h,List.drop_left,Nat.add_sub_cancel_left,List.take_left]
 simp
theorem stgetS_any (r:Nat) (v:Value) (B:List Nat) (s0:S) (w wb:World) (h:Rdr w r v B s0) (hB:∀ c∈B,c<256) (hT:Tabs wb) (hbw:Below wb.heap.size wb w) (hrb:wb.heap.size<=r) :
  Calls Tryz.prog 37 #[pR r] w (GetP r v B (getCs B s0) w):=by
 have hs0:s0.1<=B.length:=h.at_
 obtain⟨a0,y0⟩:=s0
 simp only [] at hs0
 have HBB:=hid (show ∀ W,w.grownBy W (some r)->Below wb.heap.size wb W from fun W hg=>hbw.grown hg hbw.size (fun j hj=>by cases hj;exact hrb))
 have HTA:=hid (show ∀ W,w.grownBy W (some r)->Tabs W from fun W hg=>hT.below (HBB.out W hg))
 obtain⟨ls,hls⟩:∃ x,x=listS B 400 (a0,y0):=⟨_,rfl⟩
 obtain⟨hg0,hl0,hr0⟩:=getCs_good B (a0,y0) hs0
 have hpos:=listS_pos B 400 (a0,y0) hs0
 obtain⟨GC,hGC⟩:∃ x,x=getCs B (a0,y0):=⟨_,rfl⟩
 rw [<-hGC]
 have HGC:=hid (show GC=if ls.2.2=0 then if bytesR (allF (Mut.leftOf ls.1))=(B.drop a0).take (ls.2.1 - a0) then (Mut.leftOf ls.1,ls.2) else (conE,(ls.2.1,31)) else (conE,ls.2) from by rw [hGC];unfold getCs;rw [hls])
 have HLI:=hid (show ∀ W,Rdr W r v B (a0,y0)->w.grownBy W (some r)->Calls Tryz.prog 73 #[pR r,.int .i64 400] W (ListP r v B ls W) from fun W hr hg=>by rw [hls];exact list_any r v B 400 (a0,y0) W wb hr hB hT (HBB.out W hg) hrb (by decide))
 rw [<-hls] at hg0 hl0 hr0 hpos
 obtain⟨c,hc⟩:∃ c,c=Mut.leftOf ls.1:=⟨_,rfl⟩
 rw [<-hc] at hg0 HGC
 have HOF:=hid (show ∀ W v',w.grownBy W (some r)->Reads W v' ls.1->Calls Tryz.prog 10 #[v'] W (RetC c W) from fun W v' hg hv=>by rw [hc];exact c_of (HTA.out W hg) hv (by omega) (fun m hm=>small_right (hr0 m hm)))
 have HGO:=hid hg0
 have hrw:r<w.heap.size:=h.lt
 obtain⟨L,qa,qy⟩:=ls
 simp only [] at HGC HLI HOF hpos
 have HPOS:=hid hpos
 have HAT:=hid (show ∀ W,Rdr W r v B (a0,y0)->Calls Tryz.prog 72 #[pR r] W fun e w'=>e=.returned (.int .i64 (a0:Nat))/\W=w' from fun W hr=>at_any r v B (a0,y0) W hr)
 have HWY:=hid (fun (s:S) (w1:World) (h:Rdr w1 r v B s)=>why_any r v B s w1 h)
 have HFA:=hid (fun (s:S) (y:Int) (w1:World) (h:Rdr w1 r v B s)=>fail_any r v B s y w1 h)
 have HVL:=hid (show B≠[]->∀ ad n c,v=.slice (some ad) n c->ad.block<w.heap.size from fun hb ad n c e=>h.vlow hb ad n c e)
 obtain⟨W0,hW0⟩:∃ W,W=w.alloc (.cells #[.slice none 0 0,.slice none 0 0,.slice none 0 0] 33):=⟨_,rfl⟩
 obtain⟨k2',hk2⟩:∃ k,k=w.heap.size:=⟨_,rfl⟩
 have hb0:Below w.heap.size w W0:=by rw [hW0];exact br.alloc lr _
 have HZ0:=hid (show C3 W0 k2' (.slice none 0 0) (.slice none 0 0) (.slice none 0 0) from by rw [hW0,hk2];exact C3.new w _ _ _)
 have HR0:=hid (h.below hb0)
 have HG0:=hid (show w.grownBy W0 (some r) from below_grown hb0)
 have HW0:=hid hW0
 have HK2:=hid hk2
 have hrk:r≠k2':=by rw [hk2];omega
 clear h hT hbw hls hGC hl0 hr0 hpos hg0 hc hW0 hk2 hb0
 go_enter Tryz.func37,Tryz.ntmps37
 go_upto_region 1 with fail
 rw [<-HW0.out,<-HK2.out]
 go_wp2_with fail
 refine (HAT.out W0 HR0.out).mono ?_
 rintro e w1 ⟨rfl,h1⟩
 subst h1
 go_wp2_with fail
 refine (HLI.out W0 HR0.out HG0.out).mono ?_
 rintro e w2 ⟨v2,R,rfl,hm2,hcp2,hr2,hg2⟩
 have HR2:=hid hr2
 have HG2:=hid (HG0.out.andThen hg2 (fun j hj=>Or.inr hj))
 have HZ2:=hid (show C3 w2 k2' (.slice none 0 0) (.slice none 0 0) (.slice none 0 0) from HZ0.out.grown hg2 (by simpa using hrk))
 have HRD:=hid (show Reads w2 v2 L from ⟨R,hm2,hcp2.mrow⟩)
 obtain⟨vo2,vn2,vc2,rfl⟩:=HRD.out.slice
 clear hm2 hcp2 hr2 hg2
 go_wp2_with fail
 refine (HOF.out w2 _ HG2.out HRD.out).mono ?_
 rintro e w3 ⟨v3,rfl,hc3,hb3⟩
 obtain⟨o1,n1,k1,o2,n2,k2,o3,n3,k3,rfl,hlc⟩:=hc3.form
 go_upto_region 3 with fail
 obtain⟨WR,hWR⟩:∃ W,W=w3.alloc (.cells #[.slice o1 n1 k1,.slice o2 n2 k2,.slice o3 n3 k3] 33):=⟨_,rfl⟩
 obtain⟨k4,hk4⟩:∃ k,k=w3.heap.size:=⟨_,rfl⟩
 rw [<-hWR,<-hk4]
 have hbR:Below w3.heap.size w3 WR:=by rw [hWR];exact br.alloc lr _
 have hb2R:Below w2.heap.size w2 WR:=below_then hb3 lr hbR
 have HBX:=hid (show C3 WR k4 (.slice o1 n1 k1) (.slice o2 n2 k2) (.slice o3 n3 k3) from by rw [hWR,hk4];exact C3.new w3 _ _ _)
 have HIC:=hid (show IsC c (.agg #[.slice o1 n1 k1,.slice o2 n2 k2,.slice o3 n3 k3]) WR from (hlc.below hbR).is)
 have HRR:=hid (HR2.out.below hb2R)
 have HGR:=hid (show w.grownBy WR (some r) from HG2.out.andThen (below_grown (row:=some r) hb2R) (fun j hj=>Or.inr hj))
 have HZR:=hid (HZ2.out.below hb2R)
 clear hb3 hc3 hlc hWR hk4 hbR hb2R HR2 HG2 HZ2 HRD HR0 HG0 HZ0 HLI HOF HAT
 cases hy:((qy:Int) == 0)
 ·
  have hy':¬ qy=0:=by simpa using hy
  have HE:=hid (show GC=(conE,((qa,qy):S)) from by rw [HGC.out,if_neg hy'])
  have hne:(qy != (0:Int))=true:=by simpa using hy'
  clear hy' HGC HPOS
  refine wp_region_calm (by kernel_rfl) (by kernel_rfl) ?_
  repeat (go_big_quiet_step ((go_at_call 35;exact calm_same (HWY.out _ _ (HRR.out.below (BW.below _))))))
  refine wpQuiet_nil ?_
  rintro _ ⟨y,rfl⟩
  have HRY:=hid (HRR.out.below y.below)
  have HGY:=hid (show w.grownBy y.at (some r) from HGR.out.andThen (below_grown (row:=some r) y.below) (fun j hj=>Or.inr hj))
  have HZY:=hid (HZR.out.below y.below)
  go_wp2_with fail
  refine (HWY.out _ _ HRY.out).mono ?_
  rintro e w5 ⟨rfl,h1⟩
  subst h1
  obtain⟨-,z0,z1,z2,f0,f1,f2⟩:=HZY.out
  obtain⟨hp,hgp,u0,u1,u2⟩:=c3_put (o1:=none) (o2:=none) (o3:=none) (n1:=0) (n2:=0) (n3:=0) (k1:=0) (k2:=0) (k3:=0) HZY.out (.slice none 0 0) (.slice none 0 0) (.slice none 0 0) _ rfl
  have HF:=hid (show GetP r v B (conE,((qa,qy):S)) w (.returned (.agg #[.slice none 0 0,.slice none 0 0,.slice none 0 0])) _ from ⟨_,rfl,(conE_lies _).is,HRY.out.apart hgp hrk (fun hb ad n c e=>by have:=HVL.out hb ad n c e;have:=HK2.out;omega),HGY.out.andThen hgp (fun j hj=>by cases hj;exact Or.inl (by rw [HK2.out];exact Nat.le_refl _))⟩)
  clear hp hgp
  go_wp2_with fail
  refine bodyPost_ret (v:=.agg #[.slice none 0 0,.slice none 0 0,.slice none 0 0]) (by simp [results,Tryz.f37,go_sem,u0,u1,u2]) rfl (by rw [HE.out];exact HF.out)
 ·
  have hy':qy=0:=by simpa using hy
  subst hy'
  obtain⟨hq1,hq2⟩:=HPOS.out rfl
  obtain⟨L1,hL1⟩:∃ l,l=bytesR (allF c):=⟨_,rfl⟩
  obtain⟨L2,hL2⟩:∃ l,l=(B.drop a0).take (qa - a0):=⟨_,rfl⟩
  have HE:=hid (show GC=if L1=L2 then (c,((qa,(0:Int)):S)) else (conE,((qa,(31:Int)):S)) from by rw [HGC.out,if_pos rfl,hL1,hL2])
  have HN1:=hid (show L1≠[] from by rw [hL1];exact bytesR_ne _)
  have HN2:=hid (show L2≠[] from fun e=>by
   have h:=congrArg List.length e
   rw [hL2,List.length_take,List.length_drop,List.length_nil] at h
   omega)
  have HST:=hid (show strOf L1=strOf L2->L1=L2 from fun e=>strOf_inj (by rw [hL1];exact bytesR_lt _) (by rw [hL2];exact fun c hc=>hB c (List.mem_of_mem_drop (List.mem_of_mem_take hc))) e)
  have HPU:=hid (show ∀ W,Below WR.heap.size WR W->Calls Tryz.prog 49 #[.slice none 0 0,.agg #[.slice o1 n1 k1,.slice o2 n2 k2,.slice o3 n3 k3]] W fun e w'=>∃ v',e=.returned v'/\OwnB w' W.heap.size v' L1/\Below W.heap.size W w' from fun W hb=>by
   have h:=statePut_any (b:=.slice none 0 0) (bs:=[]) (HIC.out.below hb) (HGO.out.more (by omega:400<=420)) (by omega) (by simp) (fun W' k _ hk=>put_nil W' k (by omega))
   rw [List.nil_append,<-hL1] at h
   exact h)
  have HTK:=hid (show ∀ W,Below WR.heap.size WR W->Calls Tryz.prog 74 #[pR r,.int .i64 (a0:Nat)] W fun e w'=>∃ v',e=.returned v'/\OwnB w' W.heap.size v' L2/\Below W.heap.size W w' from fun W hb=>by
   have h:=taken_any r v B (qa,0) a0 W (HRR.out.below hb) (Nat.le_of_lt hq1) (Nat.lt_of_le_of_lt (Nat.zero_le _) hq1)
   rw [hL2]
   exact h)
  have HBR:=hid (show ∀ W,Below WR.heap.size WR W->WR.heap.size<=W.heap.size from fun W hb=>hb.size)
  clear hL1 hL2 hy HGC HPOS hq1 hq2
  obtain⟨ne,hne⟩:∃ b:Bool,b=((strOf L1).toList != (strOf L2).toList):=⟨_,rfl⟩
  have HNE:=hid hne
  clear hne
  refine wp_region_told [] 12 [false,false,false,false,false,false,false,false,false,false,true,true,true,true,true,true,true,true,true,true,true,true,false,false,false,false,false,false,false,false]
   [sLit (pR r),
  sLit (.int .i64 0),
  sLit (.bool true),
  sLit (.bool true),
  sLit (.agg #[.slice o1 n1 k1,.slice o2 n2 k2,.slice o3 n3 k3]),
  sOne (fun v1 W=>OwnB W WR.heap.size v1 L1) (fun _ _ _ h hb=>h.below hb),
  sLit (.string (strOf L1)),
  sLit (pR r),
  sLit (.int .i64 (a0:Nat)),
  sOne (fun v1 W=>OwnB W WR.heap.size v1 L2) (fun _ _ _ h hb=>h.below hb),
  sLit (.string (strOf L2)),
  sLit (.bool ne)] (by kernel_rfl) (by kernel_rfl) (by kernel_rfl) (fun F hF=>?_)
  simp only [over,overL,Nat.reduceAdd] at hF
  obtain rfl:=funext hF
  clear hF
  refine⟨⟨?_,?_,?_,?_,?_,?_,?_,?_,?_,?_,?_,?_,trivial⟩,?_⟩
  ·
   intro V W hb hd K hK _
   clear hd
   go_wp2_with fail
   exact hK _ _ rfl br rfl trivial
  ·
   intro V W hb hd K hK _
   have h0:(V 10)=pR r:=hd 0 (by kernel_rfl)
   clear hd
   have HCC:=hid hb
   clear hb
   go_wp2_with fail
   refine (HWY.out _ W (HRR.out.below HCC.out)).mono ?_
   rintro e w1 ⟨rfl,h1⟩
   subst h1
   go_wp2_with fail
   exact hK _ _ rfl br rfl trivial
  ·
   intro V W hb hd K hK _
   have h1:(V 11)=.int .i64 0:=hd 1 (by kernel_rfl)
   clear hd
   go_wp2_with fail
   exact hK _ _ rfl br rfl trivial
  ·
   intro V W hb hd K hK _
   have h2:(V 12)=.bool true:=hd 2 (by kernel_rfl)
   clear hd
   go_wp2_with fail
   exact hK _ _ rfl br rfl trivial
  ·
   intro V W hb hd K hK _
   have h3:(V 13)=.bool true:=hd 3 (by kernel_rfl)
   clear hd
   obtain⟨-,s0,s1,s2,-,-,-⟩:=(HBX.out.below hb)
   go_wp2_with fail
   exact hK _ _ rfl br rfl trivial
  ·
   intro V W hb hd K hK _
   have h3:(V 13)=.bool true:=hd 3 (by kernel_rfl)
   have h4:(V 14)=.agg #[.slice o1 n1 k1,.slice o2 n2 k2,.slice o3 n3 k3]:=hd 4 (by kernel_rfl)
   clear hd
   have hbw:WR.heap.size<=W.heap.size:=hb.size
   have HCC:=hid hb
   clear hb
   go_wp2_with fail
   refine (HPU.out W HCC.out).mono ?_
   rintro e w1 ⟨v1,rfl,g1,g2⟩
   obtain⟨vo1,vc1,rfl⟩:=g1.form
   go_wp2_with fail
   refine hK _ _ ?_ ?_ ?_ ?_
   . rfl
   . exact g2
   . exact own_base g1 hbw
   . trivial
  ·
   intro V W hb hd K hK _
   have h3:(V 13)=.bool true:=hd 3 (by kernel_rfl)
   have h5:OwnB W WR.heap.size (V 15) L1:=hd 5 (by kernel_rfl)
   clear hd
   obtain⟨g,cc,e5,hcl⟩:=own_at0 h5 HN1.out
   have hcv:=conv_bytes W ⟨g,0,none⟩ L1 _ cc rfl hcl
   obtain⟨nL,hnL⟩:∃ n,n=L1.length:=⟨_,rfl⟩
   rw [<-hnL] at hcv e5
   clear hcl h5 hnL
   go_wp2_with fail
   exact hK _ _ rfl br rfl trivial
  ·
   intro V W hb hd K hK _
   have h3:(V 13)=.bool true:=hd 3 (by kernel_rfl)
   clear hd
   go_wp2_with fail
   exact hK _ _ rfl br rfl trivial
  ·
   intro V W hb hd K hK _
   have h3:(V 13)=.bool true:=hd 3 (by kernel_rfl)
   clear hd
   go_wp2_with fail
   exact hK _ _ rfl br rfl trivial
  ·
   intro V W hb hd K hK _
   have h3:(V 13)=.bool true:=hd 3 (by kernel_rfl)
   have h7:(V 17)=pR r:=hd 7 (by kernel_rfl)
   have h8:(V 18)=.int .i64 (a0:Nat):=hd 8 (by kernel_rfl)
   clear hd
   have hbw:WR.heap.size<=W.heap.size:=hb.size
   have HCC:=hid hb
   clear hb
   go_wp2_with fail
   refine (HTK.out W HCC.out).mono ?_
   rintro e w1 ⟨v1,rfl,g1,g2⟩
   obtain⟨vo1,vc1,rfl⟩:=g1.form
   go_wp2_with fail
   refine hK _ _ ?_ ?_ ?_ ?_
   . rfl
   . exact g2
   . exact own_base g1 hbw
   . trivial
  ·
   intro V W hb hd K hK _
   have h3:(V 13)=.bool true:=hd 3 (by kernel_rfl)
   have h9:OwnB W WR.heap.size (V 19) L2:=hd 9 (by kernel_rfl)
   clear hd
   obtain⟨g,cc,e9,hcl⟩:=own_at0 h9 HN2.out
   have hcv:=conv_bytes W ⟨g,0,none⟩ L2 _ cc rfl hcl
   obtain⟨nL,hnL⟩:∃ n,n=L2.length:=⟨_,rfl⟩
   rw [<-hnL] at hcv e9
   clear hcl h9 hnL
   go_wp2_with fail
   exact hK _ _ rfl br rfl trivial
  ·
   intro V W hb hd K hK _
   have h3:(V 13)=.bool true:=hd 3 (by kernel_rfl)
   have h6:(V 16)=.string (strOf L1):=hd 6 (by kernel_rfl)
   have h10:(V 20)=.string (strOf L2):=hd 10 (by kernel_rfl)
   clear hd
   go_wp2_with fail
   refine hK _ _ ?_ ?_ ?_ ?_
   . rfl
   . exact Below.refl _ _
   . first | rfl | exact congrArg Value.bool HNE.out.symm | (show _=Value.bool ne;rw [HNE.out];rfl)
   . trivial
  ·
   intro V W hb hd hap
   have h3:(V 13)=.bool true:=hd 3 (by decide)
   have h11:(V 21)=.bool ne:=hd 11 (by decide)
   clear hd hap
   simp only [List.drop_succ_cons,List.drop_zero]
   have HRY:=hid (HRR.out.below hb)
   have HGY:=hid (show w.grownBy W (some r) from HGR.out.andThen (below_grown (row:=some r) hb) (fun j hj=>Or.inr hj))
   have HZY:=hid (HZR.out.below hb)
   have HXY:=hid (HBX.out.below hb)
   have HIY:=hid (HIC.out.below hb)
   clear hb
   cases ne
   ·
    have hEq:L1=L2:=HST.out (by
     have h:=HNE.out
     have h2:(strOf L1).toList=(strOf L2).toList:=by simpa using h.symm
     exact Ord.bytes_ext h2)
    rw [if_pos hEq] at HE
    clear hEq
    go_wp2_with fail
    refine (HWY.out _ _ HRY.out).mono ?_
    rintro e w5 ⟨rfl,h1⟩
    subst h1
    obtain⟨-,z0,z1,z2,f0,f1,f2⟩:=HZY.out
    obtain⟨-,x0,x1,x2,-,-,-⟩:=HXY.out
    obtain⟨hp,hgp,u0,u1,u2⟩:=c3_put (o1:=o1) (o2:=o2) (o3:=o3) (n1:=n1) (n2:=n2) (n3:=n3) (k1:=k1) (k2:=k2) (k3:=k3) HZY.out (.slice o1 n1 k1) (.slice o2 n2 k2) (.slice o3 n3 k3) _ rfl
    have HF:=hid (show GetP r v B (c,((qa,(0:Int)):S)) w (.returned (.agg #[.slice o1 n1 k1,.slice o2 n2 k2,.slice o3 n3 k3])) _ from ⟨_,rfl,HIY.out.plain3 hp,HRY.out.apart hgp hrk (fun hb ad n c e=>by have:=HVL.out hb ad n c e;have:=HK2.out;omega),HGY.out.andThen hgp (fun j hj=>by cases hj;exact Or.inl (by rw [HK2.out];exact Nat.le_refl _))⟩)
    clear hp hgp
    go_wp2_with fail
    refine bodyPost_ret (v:=.agg #[.slice o1 n1 k1,.slice o2 n2 k2,.slice o3 n3 k3]) (by simp [results,Tryz.f37,go_sem,u0,u1,u2]) rfl (by rw [HE.out];exact HF.out)
   ·
    have hEq:¬ L1=L2:=fun e=>by
     have h:=HNE.out
     rw [e] at h
     simp at h
    rw [if_neg hEq] at HE
    clear hEq
    go_wp2_with fail
    refine (HFA.out _ 31 _ HRY.out).mono ?_
    rintro e w5 ⟨rfl,hr5,hg5⟩
    have HR5:=hid (show Rdr w5 r v B (qa,(31:Int)) from hr5)
    have HG5:=hid (HGY.out.andThen hg5 (fun j hj=>Or.inr hj))
    have HZ5:=hid (show C3 w5 k2' (.slice none 0 0) (.slice none 0 0) (.slice none 0 0) from HZY.out.grown hg5 (by simpa using hrk))
    clear hr5 hg5
    go_wp2_with fail
    refine (HWY.out _ _ HR5.out).mono ?_
    rintro e w6 ⟨rfl,h1⟩
    subst h1
    obtain⟨-,z0,z1,z2,f0,f1,f2⟩:=HZ5.out
    obtain⟨hp,hgp,u0,u1,u2⟩:=c3_put (o1:=none) (o2:=none) (o3:=none) (n1:=0) (n2:=0) (n3:=0) (k1:=0) (k2:=0) (k3:=0) HZ5.out (.slice none 0 0) (.slice none 0 0) (.slice none 0 0) _ rfl
    have HF:=hid (show GetP r v B (conE,((qa,(31:Int)):S)) w (.returned (.agg #[.slice none 0 0,.slice none 0 0,.slice none 0 0])) _ from ⟨_,rfl,(conE_lies _).is,HR5.out.apart hgp hrk (fun hb ad n c e=>by have:=HVL.out hb ad n c e;have:=HK2.out;omega),HG5.out.andThen hgp (fun j hj=>by cases hj;exact Or.inl (by rw [HK2.out];exact Nat.le_refl _))⟩)
    clear hp hgp
    go_wp2_with fail
    refine bodyPost_ret (v:=.agg #[.slice none 0 0,.slice none 0 0,.slice none 0 0]) (by simp [results,Tryz.f37,go_sem,u0,u1,u2]) rfl (by rw [HE.out];exact HF.out)
