/- MutRest. -/
import Derived.Test.YtpeoonnglnchnaaGreatDoorPkMutBytes
set_option linter.unusedSectionVars false
set_option linter.unusedSimpArgs false
set_option linter.unusedVariables false
set_option maxHeartbeats 16000000
set_option maxRecDepth 100000
namespace Go.Proofs.YtpeoonnglnchnaaGreatDoor.Mrk
open Go.Lib (hid)
open RowKit YtpeoonnglnchnaaGreatDoor.Spare RegInv
def restL (tb kd ex p l h:Nat) (fin val:ByteArray) (O:List Mut.Stp):List Nat:=putF tb++(putF kd++(textF fin++(textF val++(putF ex++(putF p++(putF l++(putF h++(putF O.length++O.flatMap stF))))))))
structure NumS (s:Mut.Stp):Prop where
 p0:0<=s.p
 l0:0<=s.l
 w0:0<=s.w
 p1:s.p<9223372036854775808
 l1:s.l<9223372036854775808
 w1:s.w<9223372036854775808
theorem textF_len (s:ByteArray) (h:s.size<=1000000):(textF s).length<=10+s.size:=by
 unfold textF
 rw [la0,strL_len]
 have:=putF_ten (n:=s.size) (by omega)
 omega
theorem stF_len {s:Mut.Stp} (h:NumS s):(stF s).length<=30:=by
 unfold stF
 rw [la0,la0]
 have h1:=putF_ten (n:=s.p.toNat) (by have:=h.p1;have:=h.p0;omega)
 have h2:=putF_ten (n:=s.l.toNat) (by have:=h.l1;have:=h.l0;omega)
 have h3:=putF_ten (n:=s.w.toNat) (by have:=h.w1;have:=h.w0;omega)
 omega
theorem flat_len {O:List Mut.Stp} (h:∀ s∈O,NumS s):(O.flatMap stF).length<=30*O.length:=by
 induction O with
 | nil=>simp
 | cons s O ih=>
  rw [List.flatMap_cons,la0,List.length_cons]
  have h1:=stF_len (h s (List.mem_cons_self ..))
  have h2:=ih (fun x hx=>h x (List.mem_cons_of_mem _ hx))
  omega
theorem rest_onK (tb kd ex p l h:Nat) (key fin val:ByteArray) (O:List Mut.Stp) (ov:Value) (base:Nat) (v:Value) (bs:List Nat) (w:World) (n1:tb<9223372036854775808) (n2:kd<9223372036854775808) (n3:ex<9223372036854775808) (n4:p<9223372036854775808) (n5:l<9223372036854775808) (n6:h<9223372036854775808)
  (hf:fin.size<=1000) (hvl:val.size<=1000) (hO:O.length<=1000) (hOn:∀ s∈O,NumS s) (hov:∀ W,w.grownBy W v.ownBlock->Lst 3 Mut.enS W ov O) (hbase:base<=w.heap.size) (hv:OwnB w base v bs) (hbs:bs.length<=700000) :
  Calls Tryz.prog 82 #[v,.agg #[.int .i64 tb,.int .i64 kd,.string key,.string fin,.string val,.int .i64 ex,.int .i64 p,.int .i64 l,.int .i64 h,ov]] w (OnPost base v (bs++restL tb kd ex p l h fin val O) w):=by
 have HOW:=hid hov
 clear hov
 obtain⟨vo,vc,rfl⟩:=hv.form
 obtain⟨w0,hw0⟩:∃ W,W=w.alloc (.cells #[.int .i64 tb,.int .i64 kd,.string key,.string fin,.string val,.int .i64 ex,.int .i64 p,.int .i64 l,.int .i64 h,ov] 42):=⟨_,rfl⟩
 obtain⟨k3,hk3⟩:∃ k,k=w.heap.size:=⟨_,rfl⟩
 obtain⟨kb,hkb⟩:∃ k,k=bs.length:=⟨_,rfl⟩
 rw [<-hkb] at hv HOW ⊢
 have HBX:=hid (show BoxG w0 (Value.slice vo kb vc).ownBlock k3 #[.int .i64 tb,.int .i64 kd,.string key,.string fin,.string val,.int .i64 ex,.int .i64 p,.int .i64 l,.int .i64 h,ov] 42 w0.drew from ⟨World.grownBy.andThen (World.grownBy.refl _ _) (grown_below (row:=none) br.drew) (fun j hj=>by cases hj),by rw [hw0,hk3];exact heap_alloc_new w _⟩)
 have HRW:=hid (show RowG w0 base (.slice vo kb vc) bs (.slice vo kb vc) w0.drew from by
  refine⟨?_,fun g hg=>Or.inl hg⟩
  rw [hw0]
  exact (hv.below (br.alloc lr _)).below br.drew)
 have HBS:=hid (show base<=w0.heap.size from by rw [hw0];simp;omega)
 have HTY:=hid (show 42≠5 from by decide)
 have HW0:=hid hw0
 have HK3:=hid hk3
 have HOUT:=hid (show ∀ W v1 l1,BoxG w0 (Value.slice vo kb vc).ownBlock k3 #[.int .i64 tb,.int .i64 kd,.string key,.string fin,.string val,.int .i64 ex,.int .i64 p,.int .i64 l,.int .i64 h,ov] 42 W->RowG w0 base (.slice vo kb vc) l1 v1 W->OnPost base (.slice vo kb vc) l1 w (.returned v1) W from fun W v1 l1 h1 h2=>by
  refine⟨v1,rfl,h2.1,World.grownBy.andThen (by rw [hw0];exact World.grownBy_alloc w _ _) h1.grown (fun j hj=>Or.inr hj),fun g hg=>?_⟩
  rcases h2.2 g hg with h | h
  . exact Or.inl h
  . refine Or.inr (Nat.le_trans ?_ h);rw [hw0];simp)
 have hcm:∀ a b,BoxG w0 (Value.slice vo kb vc).ownBlock k3 #[.int .i64 tb,.int .i64 kd,.string key,.string fin,.string val,.int .i64 ex,.int .i64 p,.int .i64 l,.int .i64 h,ov] 42 a->Below a.heap.size a b->BoxG w0 (Value.slice vo kb vc).ownBlock k3 #[.int .i64 tb,.int .i64 kd,.string key,.string fin,.string val,.int .i64 ex,.int .i64 p,.int .i64 l,.int .i64 h,ov] 42 b:=fun a b h hb=>h.later hb
 clear hw0 hk3 hv hkb
 obtain⟨oo,oc,rfl,-,-⟩:=Lst.form (HOW.out w (World.grownBy.refl _ _))
 obtain⟨no,hno⟩:∃ n,n=O.length:=⟨_,rfl⟩
 rw [<-hno] at HOW HBX HW0 HOUT hcm hO ⊢
 have HNO:=hid hno
 clear hno
 have HOV:=hid (show ∀ W,BoxG w0 (Value.slice vo kb vc).ownBlock k3 #[.int .i64 tb,.int .i64 kd,.string key,.string fin,.string val,.int .i64 ex,.int .i64 p,.int .i64 l,.int .i64 h,.slice oo no oc] 42 W->Lst 3 Mut.enS W (.slice oo no oc) O from fun W hW=>by
  exact HOW.out W (World.grownBy.andThen (by rw [HW0.out];exact World.grownBy_alloc w _ _) hW.grown (fun j hj=>Or.inr hj)))
 have HON:=hid hOn
 clear hOn
 have x1:=putF_ten (n:=tb) (by omega)
 have x2:=putF_ten (n:=kd) (by omega)
 have x3:=textF_len fin (by omega)
 have x4:=textF_len val (by omega)
 have x5:=putF_ten (n:=ex) (by omega)
 have x6:=putF_ten (n:=p) (by omega)
 have x7:=putF_ten (n:=l) (by omega)
 have x8:=putF_ten (n:=h) (by omega)
 have x9:=putF_ten (n:=no) (by omega)
 obtain⟨l1,e1⟩:∃ x,x=bs++putF tb:=⟨_,rfl⟩
 obtain⟨l2,e2⟩:∃ x,x=l1++putF kd:=⟨_,rfl⟩
 obtain⟨l3,e3⟩:∃ x,x=l2++textF fin:=⟨_,rfl⟩
 obtain⟨l4,e4⟩:∃ x,x=l3++textF val:=⟨_,rfl⟩
 obtain⟨l5,e5⟩:∃ x,x=l4++putF ex:=⟨_,rfl⟩
 obtain⟨l6,e6⟩:∃ x,x=((l5++putF p)++putF l)++putF h:=⟨_,rfl⟩
 obtain⟨l7,e7⟩:∃ x,x=l6++putF no:=⟨_,rfl⟩
 have y1:l1.length<=700100:=by rw [e1,la0];omega
 have y2:l2.length<=700200:=by rw [e2,la0];omega
 have y3:l3.length<=701300:=by rw [e3,la0];omega
 have y4:l4.length<=702400:=by rw [e4,la0];omega
 have y5:l5.length<=702500:=by rw [e5,la0];omega
 have y6:l6.length<=702600:=by rw [e6,la0,la0,la0];omega
 have y7:l7.length<=702700:=by rw [e7,la0];omega
 have HL:=hid (show bs++restL tb kd ex p l h fin val O=l7++O.flatMap stF from by
  rw [e7,e6,e5,e4,e3,e2,e1,HNO.out]
  unfold restL
  simp only [List.append_assoc])
 rw [HL.out]
 have E1:=hid e1
 have E2:=hid e2
 have E3:=hid e3
 have E4:=hid e4
 have E5:=hid e5
 have E6:=hid e6
 have E7:=hid e7
 clear e1 e2 e3 e4 e5 e6 e7 x1 x2 x3 x4 x5 x6 x7 x8 x9 HL HOW
 have hpr:∀ (c:Nat) (z:Value) (lz:List Nat) (j:Nat) (a b:World),(j=c->(fun W=>RowG w0 base (.slice vo kb vc) lz z W) a)->Below a.heap.size a b->(j=c->(fun W=>RowG w0 base (.slice vo kb vc) lz z W) b):=fun c z lz j a b h hb e=>(h e).below hb
 go_enter Tryz.func82,Tryz.ntmps82
 go_upto_region 1 with fail
 rw [<-HW0.out,<-HK3.out]
 clear HW0 HK3
 refine RegLin.wp_region_lin (RegLin.useL [(3,6)]) (fun W=>BoxG w0 (Value.slice vo kb vc).ownBlock k3 #[.int .i64 tb,.int .i64 kd,.string key,.string fin,.string val,.int .i64 ex,.int .i64 p,.int .i64 l,.int .i64 h,.slice oo no oc] 42 W) (fun j W=>j=3->(fun W=>RowG w0 base (.slice vo kb vc) bs (.slice vo kb vc) W) W) 7 [false,false,false,false,false,false,false,true,true,true,true,true,true,true,false,false,false,false,false,false,false,false,false,false,false,false,false,false,false,false,false,false,false,false,false,false,false,false,false,false,false,false,false,false,false]
  [sLit (.slice vo kb vc),
  sLit (.pointer (some ⟨k3,0,none⟩)),
  sLit (.int .i64 tb),
  sRow w0 base (.slice vo kb vc) (l1),
  sLit (.pointer (some ⟨k3,1,none⟩)),
  sLit (.int .i64 kd),
  sRow w0 base (.slice vo kb vc) (l2)] (HBX.out) (fun j _ _=>HRW.out) (by kernel_rfl) (by kernel_rfl) (by kernel_rfl) (by kernel_rfl) (fun F hF=>?_)
 simp only [over,overL,Nat.reduceAdd] at hF
 obtain rfl:=funext hF
 clear hF
 refine⟨⟨?_,?_,?_,?_,?_,?_,?_,trivial⟩,?_⟩
 ·
  intro V W hc hp hd K hK _
  clear hd
  go_wp2_with fail
  exact hK _ _ rfl (RegLin.keeps_below hcm (hpr 3 _ _) hc br) rfl
 ·
  intro V W hc hp hd K hK _
  clear hd
  go_wp2_with fail
  exact hK _ _ rfl (RegLin.keeps_below hcm (hpr 3 _ _) hc br) rfl
 ·
  intro V W hc hp hd K hK _
  have h1:(V 8)=.pointer (some ⟨k3,0,none⟩):=(RegLin.ask hd 1:)
  clear hd
  obtain⟨m0,m1,m2,m3,m4,m5,m6,m7,m8,m9⟩:=(And.intro (hc.cell 0) (And.intro (hc.cell 1) (And.intro (hc.cell 2) (And.intro (hc.cell 3) (And.intro (hc.cell 4) (And.intro (hc.cell 5) (And.intro (hc.cell 6) (And.intro (hc.cell 7) (And.intro (hc.cell 8) (hc.cell 9))))))))))
  go_wp2_with fail
  exact hK _ _ rfl (RegLin.keeps_below hcm (hpr 3 _ _) hc br) rfl
 ·
  intro V W hc hp hd K hK _
  have h0:(V 7)=.slice vo kb vc:=(RegLin.ask hd 0:)
  have h2:(V 9)=.int .i64 tb:=(RegLin.ask hd 2:)
  clear hd
  skip
  have hr:RowG w0 base (.slice vo kb vc) _ _ W:=(hp rfl)
  have hbw:base<=W.heap.size:=Nat.le_trans HBS.out hc.grown.size
  have HR:=hid hr
  have HC:=hid hc
  clear hr hp hc
  go_wp2_with fail
  refine ((by have h:=put_onto tb base _ bs W n1 HR.out.1 hbw (by omega);rw [<-E1.out] at h;exact h:Calls _ _ _ W (OnPost base _ l1 W))).mono ?_
  rintro e w1 ⟨v1,rfl,g1,g2,g3⟩
  have hN:=rowG_next HC.out HTY.out HR.out g1 g2 g3
  go_wp2_with fail
  refine hK _ _ ?_ ?_ ?_
  . rfl
  ·
   refine RegLin.keeps_by hN.1 (by kernel_rfl) (fun j hj hne hl h=>?_)
   iterate 7 (rcases j with _ | j;first | exact h | exact absurd rfl hne | exact RegLin.dead hl)
   exact absurd hj (by omega)
  . exact hN.2
 ·
  intro V W hc hp hd K hK _
  clear hd
  go_wp2_with fail
  exact hK _ _ rfl (RegLin.keeps_below hcm (hpr 3 _ _) hc br) rfl
 ·
  intro V W hc hp hd K hK _
  have h4:(V 11)=.pointer (some ⟨k3,1,none⟩):=(RegLin.ask hd 4:)
  clear hd
  obtain⟨m0,m1,m2,m3,m4,m5,m6,m7,m8,m9⟩:=(And.intro (hc.cell 0) (And.intro (hc.cell 1) (And.intro (hc.cell 2) (And.intro (hc.cell 3) (And.intro (hc.cell 4) (And.intro (hc.cell 5) (And.intro (hc.cell 6) (And.intro (hc.cell 7) (And.intro (hc.cell 8) (hc.cell 9))))))))))
  go_wp2_with fail
  exact hK _ _ rfl (RegLin.keeps_below hcm (hpr 3 _ _) hc br) rfl
 ·
  intro V W hc hp hd K hK _
  have h3:RowG w0 base (.slice vo kb vc) (l1) (V 10) W:=(RegLin.ask hd 3:)
  have h5:(V 12)=.int .i64 kd:=(RegLin.ask hd 5:)
  clear hd
  skip
  have hr:RowG w0 base (.slice vo kb vc) _ _ W:=h3
  have hbw:base<=W.heap.size:=Nat.le_trans HBS.out hc.grown.size
  have HR:=hid hr
  have HC:=hid hc
  clear hr hp hc h3
  go_wp2_with fail
  refine ((by have h:=put_onto kd base _ l1 W n2 HR.out.1 hbw (by omega);rw [<-E2.out] at h;exact h:Calls _ _ _ W (OnPost base _ l2 W))).mono ?_
  rintro e w1 ⟨v1,rfl,g1,g2,g3⟩
  have hN:=rowG_next HC.out HTY.out HR.out g1 g2 g3
  go_wp2_with fail
  refine hK _ _ ?_ ?_ ?_
  . rfl
  ·
   refine RegLin.keeps_by hN.1 (by kernel_rfl) (fun j hj hne hl h=>?_)
   iterate 7 (rcases j with _ | j;first | exact h | exact absurd rfl hne | exact RegLin.dead hl)
   exact absurd hj (by omega)
  . exact hN.2
 ·
  intro V W hc hd
  have h6:RowG w0 base (.slice vo kb vc) (l2) (V 13) W:=hd 6 (by decide) rfl
  clear hd
  simp only [List.drop_succ_cons,List.drop_zero]
  have HRn:=hid h6
  have HCn:=hid hc
  clear h6 hc
  go_upto_region 2 with fail
  generalize V 13=z1 at HRn ⊢
  obtain⟨W1,hWq⟩:∃ W',W'=W:=⟨_,rfl⟩
  subst hWq
  have HR1:=hid (HRn.out.below br.drew)
  have HC1:=hid (hcm _ _ HCn.out br.drew)
  clear HRn HCn
  refine RegLin.wp_region_lin (RegLin.useL [(3,6)]) (fun W=>BoxG w0 (Value.slice vo kb vc).ownBlock k3 #[.int .i64 tb,.int .i64 kd,.string key,.string fin,.string val,.int .i64 ex,.int .i64 p,.int .i64 l,.int .i64 h,.slice oo no oc] 42 W) (fun j W=>j=3->(fun W=>RowG w0 base (.slice vo kb vc) l2 (z1) W) W) 7 [false,false,false,false,false,false,false,false,false,false,false,false,false,false,true,true,true,true,true,true,true,false,false,false,false,false,false,false,false,false,false,false,false,false,false,false,false,false,false,false,false,false,false,false,false]
   [sLit (z1),
  sLit (.pointer (some ⟨k3,3,none⟩)),
  sLit (.string fin),
  sRow w0 base (.slice vo kb vc) (l3),
  sLit (.pointer (some ⟨k3,4,none⟩)),
  sLit (.string val),
  sRow w0 base (.slice vo kb vc) (l4)] (HC1.out) (fun j _ _=>HR1.out) (by kernel_rfl) (by kernel_rfl) (by kernel_rfl) (by kernel_rfl) (fun F hF=>?_)
  simp only [over,overL,Nat.reduceAdd] at hF
  obtain rfl:=funext hF
  clear hF
  refine⟨⟨?_,?_,?_,?_,?_,?_,?_,trivial⟩,?_⟩
  ·
   intro V W hc hp hd K hK _
   clear hd
   go_wp2_with fail
   exact hK _ _ rfl (RegLin.keeps_below hcm (hpr 3 _ _) hc br) rfl
  ·
   intro V W hc hp hd K hK _
   clear hd
   go_wp2_with fail
   exact hK _ _ rfl (RegLin.keeps_below hcm (hpr 3 _ _) hc br) rfl
  ·
   intro V W hc hp hd K hK _
   have h1:(V 15)=.pointer (some ⟨k3,3,none⟩):=(RegLin.ask hd 1:)
   clear hd
   obtain⟨m0,m1,m2,m3,m4,m5,m6,m7,m8,m9⟩:=(And.intro (hc.cell 0) (And.intro (hc.cell 1) (And.intro (hc.cell 2) (And.intro (hc.cell 3) (And.intro (hc.cell 4) (And.intro (hc.cell 5) (And.intro (hc.cell 6) (And.intro (hc.cell 7) (And.intro (hc.cell 8) (hc.cell 9))))))))))
   go_wp2_with fail
   exact hK _ _ rfl (RegLin.keeps_below hcm (hpr 3 _ _) hc br) rfl
  ·
   intro V W hc hp hd K hK _
   have h0:(V 14)=z1:=(RegLin.ask hd 0:)
   have h2:(V 16)=.string fin:=(RegLin.ask hd 2:)
   clear hd
   skip
   have hr:RowG w0 base (.slice vo kb vc) _ _ W:=(hp rfl)
   have hbw:base<=W.heap.size:=Nat.le_trans HBS.out hc.grown.size
   have HR:=hid hr
   have HC:=hid hc
   clear hr hp hc
   go_wp2_with fail
   refine ((by have h:=text_onto fin base _ l2 W (by omega) HR.out.1 hbw (by omega);rw [<-E3.out] at h;exact h:Calls _ _ _ W (OnPost base _ l3 W))).mono ?_
   rintro e w1 ⟨v1,rfl,g1,g2,g3⟩
   have hN:=rowG_next HC.out HTY.out HR.out g1 g2 g3
   go_wp2_with fail
   refine hK _ _ ?_ ?_ ?_
   . rfl
   ·
    refine RegLin.keeps_by hN.1 (by kernel_rfl) (fun j hj hne hl h=>?_)
    iterate 7 (rcases j with _ | j;first | exact h | exact absurd rfl hne | exact RegLin.dead hl)
    exact absurd hj (by omega)
   . exact hN.2
  ·
   intro V W hc hp hd K hK _
   clear hd
   go_wp2_with fail
   exact hK _ _ rfl (RegLin.keeps_below hcm (hpr 3 _ _) hc br) rfl
  ·
   intro V W hc hp hd K hK _
   have h4:(V 18)=.pointer (some ⟨k3,4,none⟩):=(RegLin.ask hd 4:)
   clear hd
   obtain⟨m0,m1,m2,m3,m4,m5,m6,m7,m8,m9⟩:=(And.intro (hc.cell 0) (And.intro (hc.cell 1) (And.intro (hc.cell 2) (And.intro (hc.cell 3) (And.intro (hc.cell 4) (And.intro (hc.cell 5) (And.intro (hc.cell 6) (And.intro (hc.cell 7) (And.intro (hc.cell 8) (hc.cell 9))))))))))
   go_wp2_with fail
   exact hK _ _ rfl (RegLin.keeps_below hcm (hpr 3 _ _) hc br) rfl
  ·
   intro V W hc hp hd K hK _
   have h3:RowG w0 base (.slice vo kb vc) (l3) (V 17) W:=(RegLin.ask hd 3:)
   have h5:(V 19)=.string val:=(RegLin.ask hd 5:)
   clear hd
   skip
   have hr:RowG w0 base (.slice vo kb vc) _ _ W:=h3
   have hbw:base<=W.heap.size:=Nat.le_trans HBS.out hc.grown.size
   have HR:=hid hr
   have HC:=hid hc
   clear hr hp hc h3
   go_wp2_with fail
   refine ((by have h:=text_onto val base _ l3 W (by omega) HR.out.1 hbw (by omega);rw [<-E4.out] at h;exact h:Calls _ _ _ W (OnPost base _ l4 W))).mono ?_
   rintro e w1 ⟨v1,rfl,g1,g2,g3⟩
   have hN:=rowG_next HC.out HTY.out HR.out g1 g2 g3
   go_wp2_with fail
   refine hK _ _ ?_ ?_ ?_
   . rfl
   ·
    refine RegLin.keeps_by hN.1 (by kernel_rfl) (fun j hj hne hl h=>?_)
    iterate 7 (rcases j with _ | j;first | exact h | exact absurd rfl hne | exact RegLin.dead hl)
    exact absurd hj (by omega)
   . exact hN.2
  ·
   intro V W hc hd
   have h6:RowG w0 base (.slice vo kb vc) (l4) (V 20) W:=hd 6 (by decide) rfl
   clear hd
   simp only [List.drop_succ_cons,List.drop_zero]
   have HRn:=hid h6
   have HCn:=hid hc
   clear h6 hc
   go_upto_region 3 with fail
   generalize V 20=z2 at HRn ⊢
   obtain⟨W2,hWq⟩:∃ W',W'=W:=⟨_,rfl⟩
   subst hWq
   have HR2:=hid (HRn.out.below br.drew)
   have HC2:=hid (hcm _ _ HCn.out br.drew)
   clear HRn HCn
   refine RegLin.wp_region_lin (RegLin.useL [(3,6)]) (fun W=>BoxG w0 (Value.slice vo kb vc).ownBlock k3 #[.int .i64 tb,.int .i64 kd,.string key,.string fin,.string val,.int .i64 ex,.int .i64 p,.int .i64 l,.int .i64 h,.slice oo no oc] 42 W) (fun j W=>j=3->(fun W=>RowG w0 base (.slice vo kb vc) l4 (z2) W) W) 7 [false,false,false,false,false,false,false,false,false,false,false,false,false,false,false,false,false,false,false,false,false,true,true,true,true,true,true,true,false,false,false,false,false,false,false,false,false,false,false,false,false,false,false,false,false]
    [sLit (z2),
  sLit (.pointer (some ⟨k3,5,none⟩)),
  sLit (.int .i64 ex),
  sRow w0 base (.slice vo kb vc) (l5),
  sLit (.pointer (some ⟨k3,6,none⟩)),
  sLit (.agg #[.int .i64 p,.int .i64 l,.int .i64 h]),
  sRow w0 base (.slice vo kb vc) (l6)] (HC2.out) (fun j _ _=>HR2.out) (by kernel_rfl) (by kernel_rfl) (by kernel_rfl) (by kernel_rfl) (fun F hF=>?_)
   simp only [over,overL,Nat.reduceAdd] at hF
   obtain rfl:=funext hF
   clear hF
   refine⟨⟨?_,?_,?_,?_,?_,?_,?_,trivial⟩,?_⟩
   ·
    intro V W hc hp hd K hK _
    clear hd
    go_wp2_with fail
    exact hK _ _ rfl (RegLin.keeps_below hcm (hpr 3 _ _) hc br) rfl
   ·
    intro V W hc hp hd K hK _
    clear hd
    go_wp2_with fail
    exact hK _ _ rfl (RegLin.keeps_below hcm (hpr 3 _ _) hc br) rfl
   ·
    intro V W hc hp hd K hK _
    have h1:(V 22)=.pointer (some ⟨k3,5,none⟩):=(RegLin.ask hd 1:)
    clear hd
    obtain⟨m0,m1,m2,m3,m4,m5,m6,m7,m8,m9⟩:=(And.intro (hc.cell 0) (And.intro (hc.cell 1) (And.intro (hc.cell 2) (And.intro (hc.cell 3) (And.intro (hc.cell 4) (And.intro (hc.cell 5) (And.intro (hc.cell 6) (And.intro (hc.cell 7) (And.intro (hc.cell 8) (hc.cell 9))))))))))
    go_wp2_with fail
    exact hK _ _ rfl (RegLin.keeps_below hcm (hpr 3 _ _) hc br) rfl
   ·
    intro V W hc hp hd K hK _
    have h0:(V 21)=z2:=(RegLin.ask hd 0:)
    have h2:(V 23)=.int .i64 ex:=(RegLin.ask hd 2:)
    clear hd
    skip
    have hr:RowG w0 base (.slice vo kb vc) _ _ W:=(hp rfl)
    have hbw:base<=W.heap.size:=Nat.le_trans HBS.out hc.grown.size
    have HR:=hid hr
    have HC:=hid hc
    clear hr hp hc
    go_wp2_with fail
    refine ((by have h:=put_onto ex base _ l4 W n3 HR.out.1 hbw (by omega);rw [<-E5.out] at h;exact h:Calls _ _ _ W (OnPost base _ l5 W))).mono ?_
    rintro e w1 ⟨v1,rfl,g1,g2,g3⟩
    have hN:=rowG_next HC.out HTY.out HR.out g1 g2 g3
    go_wp2_with fail
    refine hK _ _ ?_ ?_ ?_
    . rfl
    ·
     refine RegLin.keeps_by hN.1 (by kernel_rfl) (fun j hj hne hl h=>?_)
     iterate 7 (rcases j with _ | j;first | exact h | exact absurd rfl hne | exact RegLin.dead hl)
     exact absurd hj (by omega)
    . exact hN.2
   ·
    intro V W hc hp hd K hK _
    clear hd
    go_wp2_with fail
    exact hK _ _ rfl (RegLin.keeps_below hcm (hpr 3 _ _) hc br) rfl
   ·
    intro V W hc hp hd K hK _
    have h4:(V 25)=.pointer (some ⟨k3,6,none⟩):=(RegLin.ask hd 4:)
    clear hd
    obtain⟨m0,m1,m2,m3,m4,m5,m6,m7,m8,m9⟩:=(And.intro (hc.cell 0) (And.intro (hc.cell 1) (And.intro (hc.cell 2) (And.intro (hc.cell 3) (And.intro (hc.cell 4) (And.intro (hc.cell 5) (And.intro (hc.cell 6) (And.intro (hc.cell 7) (And.intro (hc.cell 8) (hc.cell 9))))))))))
    go_wp2_with fail
    exact hK _ _ rfl (RegLin.keeps_below hcm (hpr 3 _ _) hc br) rfl
   ·
    intro V W hc hp hd K hK _
    have h3:RowG w0 base (.slice vo kb vc) (l5) (V 24) W:=(RegLin.ask hd 3:)
    have h5:(V 26)=.agg #[.int .i64 p,.int .i64 l,.int .i64 h]:=(RegLin.ask hd 5:)
    clear hd
    skip
    have hr:RowG w0 base (.slice vo kb vc) _ _ W:=h3
    have hbw:base<=W.heap.size:=Nat.le_trans HBS.out hc.grown.size
    have HR:=hid hr
    have HC:=hid hc
    clear hr hp hc h3
    go_wp2_with fail
    refine ((by have h:=stamp_onto p l h base _ l5 W n4 n5 n6 HR.out.1 hbw (by omega);rw [<-E6.out] at h;exact h:Calls _ _ _ W (OnPost base _ l6 W))).mono ?_
    rintro e w1 ⟨v1,rfl,g1,g2,g3⟩
    have hN:=rowG_next HC.out HTY.out HR.out g1 g2 g3
    go_wp2_with fail
    refine hK _ _ ?_ ?_ ?_
    . rfl
    ·
     refine RegLin.keeps_by hN.1 (by kernel_rfl) (fun j hj hne hl h=>?_)
     iterate 7 (rcases j with _ | j;first | exact h | exact absurd rfl hne | exact RegLin.dead hl)
     exact absurd hj (by omega)
    . exact hN.2
   ·
    intro V W hc hd
    have h6:RowG w0 base (.slice vo kb vc) (l6) (V 27) W:=hd 6 (by decide) rfl
    clear hd
    simp only [List.drop_succ_cons,List.drop_zero]
    have HR3:=hid h6
    have HC3:=hid hc
    clear h6 hc
    generalize V 27=z3 at HR3 ⊢
    obtain⟨W3,hWq⟩:∃ W',W'=W:=⟨_,rfl⟩
    subst hWq
    have hbw3:base<=W3.heap.size:=Nat.le_trans HBS.out HC3.out.grown.size
    have m9:W3.cell? ⟨k3,9,none⟩=some (.slice oo no oc):=by rw [HC3.out.cell 9];rfl
    go_wp2_with fail
    refine (put_onto no base z3 l6 W3 (by omega) HR3.out.1 hbw3 (by omega)).mono ?_
    rintro e w4 ⟨z4,rfl,g1,g2,g3⟩
    have hN:=rowG_next HC3.out HTY.out HR3.out g1 g2 g3
    rw [<-E7.out] at hN
    have HC4:=hid hN.1
    have HR4:=hid hN.2
    have m9:w4.cell? ⟨k3,9,none⟩=some (.slice oo no oc):=by rw [HC4.out.cell 9];rfl
    clear g1 g2 g3 hN
    go_wp2_with fail
    go_loopw [0,36] (fun bv iv wr=>∃ k:Nat,k<=no/\iv=.int .i64 k/\Hid (RowG w0 base (.slice vo kb vc) (l7++(O.take k).flatMap stF) bv wr)/\Hid (BoxG w0 (Value.slice vo kb vc).ownBlock k3 #[.int .i64 tb,.int .i64 kd,.string key,.string fin,.string val,.int .i64 ex,.int .i64 p,.int .i64 l,.int .i64 h,.slice oo no oc] 42 wr)) (fun _ iv _=>no - (intOf iv).toNat)
    case atStart=>exact⟨0,by omega,rfl,hid (by simpa using HR4.out),HC4⟩
    case round=>
     obtain⟨k,hk,rfl,hr,hc⟩:=hrel
     by_cases hlt:k<no
     ·
      have hkl:k<O.length:=by rw [<-HNO.out];exact hlt
      obtain⟨s,hs⟩:∃ s,O[k]?=some s:=⟨_,ge0 hkl⟩
      have hse:O[k]=s:=(gs0.1 hs).2
      have hnum:=HON.out s (mg0 hs)
      obtain⟨sb,soff,rfl,hsb,hsc⟩:=Lst.get (HOV.out wr hc.out) hkl
      rw [hse] at hsc
      obtain⟨sp,sl,sw⟩:=s
      obtain⟨p0,l0,w0',p1,l1',w1⟩:=hnum
      simp only [] at p0 l0 w0' p1 l1' w1
      obtain⟨sp,rfl⟩:=Int.eq_ofNat_of_zero_le p0
      obtain⟨sl,rfl⟩:=Int.eq_ofNat_of_zero_le l0
      obtain⟨sw,rfl⟩:=Int.eq_ofNat_of_zero_le w0'
      have a0:wr.cell? ⟨sb,soff+k*3,none⟩=some (.int .i64 sp):=hsc 0 (by decide)
      have a1:wr.cell? ⟨sb,soff+k*3+1,none⟩=some (.int .i64 sl):=hsc 1 (by decide)
      have a2:wr.cell? ⟨sb,soff+k*3+2,none⟩=some (.int .i64 sw):=hsc 2 (by decide)
      obtain⟨lk,hlk⟩:∃ x,x=l7++(O.take k).flatMap stF:=⟨_,rfl⟩
      have hlk2:lk.length<=800000:=by
       rw [hlk,la0]
       have h1:=flat_len (O:=O.take k) (fun x hx=>HON.out x (List.mem_of_mem_take hx))
       have h2:=List.length_take_le k O
       omega
      have HLK:=hid (show l7++(O.take (k+1)).flatMap stF=((lk++putF sp)++putF sl)++putF sw from by
       rw [hlk,List.take_add_one,hs]
       simp [stF,List.append_assoc])
      rw [<-hlk] at hr
      have i0:(0:Int)<=(k:Int):=by omega
      have i1:(k:Int)<(no:Int):=by omega
      have HRk:=hr
      have HCk:=hc
      clear hr hc hsc hse hs hlk
      go_upto_region 8 with fail
      obtain⟨W6,hW6⟩:∃ W,W=wr.alloc (.cells #[.int .i64 sp,.int .i64 sl,.int .i64 sw] 39):=⟨_,rfl⟩
      rw [<-hW6]
      have hb6:Below wr.heap.size wr W6:=by rw [hW6];exact br.alloc lr _
      have t0:W6.cell? ⟨wr.heap.size,0,none⟩=some (.int .i64 sp):=by rw [hW6];go_simp
      have t1:W6.cell? ⟨wr.heap.size,1,none⟩=some (.int .i64 sl):=by rw [hW6];go_simp
      have t2:W6.cell? ⟨wr.heap.size,2,none⟩=some (.int .i64 sw):=by rw [hW6];go_simp
      have HR6:=hid (HRk.out.below hb6)
      have HC6:=hid (hcm _ _ HCk.out hb6)
      have hbw6:base<=W6.heap.size:=Nat.le_trans HBS.out HC6.out.grown.size
      clear hW6 hb6 HRk HCk a0 a1 a2
      go_wp2_with fail
      refine (stamp_onto sp sl sw base u0 lk W6 (by omega) (by omega) (by omega) HR6.out.1 hbw6 (by omega)).mono ?_
      rintro e w7 ⟨z7,rfl,g1,g2,g3⟩
      have hN:=rowG_next HC6.out HTY.out HR6.out g1 g2 g3
      rw [<-HLK.out] at hN
      have HC7:=hid hN.1
      have HR7:=hid hN.2
      clear g1 g2 g3 hN t0 t1 t2
      go_wp2_with fail
      go_roundw
      case rel=>exact⟨k+1,by omega,by go_num,HR7,HC7⟩
      case measure=>simp [intOf];omega
     ·
      obtain rfl:k=no:=by omega
      have HR9:=hid (show RowG w0 base (.slice vo kb vc) (l7++O.flatMap stF) u0 wr from by have h:=hr.out;rw [List.take_of_length_le (by rw [<-HNO.out];exact Nat.le_refl _)] at h;exact h)
      have HC9:=hc
      clear hr hc
      go_wp2_with fail
      go_ret
      exact HOUT.out _ _ _ HC9.out HR9.out
theorem rest_onto (tb kd ex p l h:Nat) (key fin val:ByteArray) (O:List Mut.Stp) (ov:Value) (wb:World) (v:Value) (bs:List Nat) (w:World) (n1:tb<9223372036854775808) (n2:kd<9223372036854775808) (n3:ex<9223372036854775808) (n4:p<9223372036854775808) (n5:l<9223372036854775808) (n6:h<9223372036854775808)
  (hf:fin.size<=1000) (hvl:val.size<=1000) (hO:O.length<=1000) (hOn:∀ s∈O,NumS s) (hov:Lst 3 Mut.enS wb ov O) (hbw:Below wb.heap.size wb w) (hv:OwnB w wb.heap.size v bs) (hbs:bs.length<=700000) :
  Calls Tryz.prog 82 #[v,.agg #[.int .i64 tb,.int .i64 kd,.string key,.string fin,.string val,.int .i64 ex,.int .i64 p,.int .i64 l,.int .i64 h,ov]] w (OnPost wb.heap.size v (bs++restL tb kd ex p l h fin val O) w):=
 rest_onK tb kd ex p l h key fin val O ov wb.heap.size v bs w n1 n2 n3 n4 n5 n6 hf hvl hO hOn (fun W hg=>Lst.below hov (hbw.grown hg hbw.size (fun k hk=>(World.ownsRow.lt hv k hk).1))) hbw.size hv hbs
theorem mutput_onK (tb kd ex p l h:Nat) (key fin val:ByteArray) (O:List Mut.Stp) (ov:Value) (base:Nat) (v:Value) (bs:List Nat) (w:World) (n1:tb<9223372036854775808) (n2:kd<9223372036854775808) (n3:ex<9223372036854775808) (n4:p<9223372036854775808) (n5:l<9223372036854775808) (n6:h<9223372036854775808)
  (hky:key.size<=1000) (hf:fin.size<=1000) (hvl:val.size<=1000) (hO:O.length<=1000) (hOn:∀ s∈O,NumS s) (hov:∀ W,w.grownBy W v.ownBlock->Lst 3 Mut.enS W ov O) (hbase:base<=w.heap.size) (hv:OwnB w base v bs) (hbs:bs.length<=600000) :
  Calls Tryz.prog 116 #[v,.agg #[.int .i64 tb,.int .i64 kd,.string key,.string fin,.string val,.int .i64 ex,.int .i64 p,.int .i64 l,.int .i64 h,ov]] w (OnPost base v (bs++(textF key++restL tb kd ex p l h fin val O)) w):=by
 have HOW:=hid hov
 clear hov
 obtain⟨vo,vc,rfl⟩:=hv.form
 obtain⟨w0,hw0⟩:∃ W,W=w.alloc (.cells #[.int .i64 tb,.int .i64 kd,.string key,.string fin,.string val,.int .i64 ex,.int .i64 p,.int .i64 l,.int .i64 h,ov] 42):=⟨_,rfl⟩
 obtain⟨k3,hk3⟩:∃ k,k=w.heap.size:=⟨_,rfl⟩
 obtain⟨kb,hkb⟩:∃ k,k=bs.length:=⟨_,rfl⟩
 rw [<-hkb] at hv HOW ⊢
 have HBX:=hid (show BoxG w0 (Value.slice vo kb vc).ownBlock k3 #[.int .i64 tb,.int .i64 kd,.string key,.string fin,.string val,.int .i64 ex,.int .i64 p,.int .i64 l,.int .i64 h,ov] 42 w0.drew from ⟨World.grownBy.andThen (World.grownBy.refl _ _) (grown_below (row:=none) br.drew) (fun j hj=>by cases hj),by rw [hw0,hk3];exact heap_alloc_new w _⟩)
 have HRW:=hid (show RowG w0 base (.slice vo kb vc) bs (.slice vo kb vc) w0.drew from by
  refine⟨?_,fun g hg=>Or.inl hg⟩
  rw [hw0]
  exact (hv.below (br.alloc lr _)).below br.drew)
 have HBS:=hid (show base<=w0.heap.size from by rw [hw0];simp;omega)
 have HTY:=hid (show 42≠5 from by decide)
 have HW0:=hid hw0
 have HK3:=hid hk3
 have HOUT:=hid (show ∀ W v1 l1,BoxG w0 (Value.slice vo kb vc).ownBlock k3 #[.int .i64 tb,.int .i64 kd,.string key,.string fin,.string val,.int .i64 ex,.int .i64 p,.int .i64 l,.int .i64 h,ov] 42 W->RowG w0 base (.slice vo kb vc) l1 v1 W->OnPost base (.slice vo kb vc) l1 w (.returned v1) W from fun W v1 l1 h1 h2=>by
  refine⟨v1,rfl,h2.1,World.grownBy.andThen (by rw [hw0];exact World.grownBy_alloc w _ _) h1.grown (fun j hj=>Or.inr hj),fun g hg=>?_⟩
  rcases h2.2 g hg with h | h
  . exact Or.inl h
  . refine Or.inr (Nat.le_trans ?_ h);rw [hw0];simp)
 have hcm:∀ a b,BoxG w0 (Value.slice vo kb vc).ownBlock k3 #[.int .i64 tb,.int .i64 kd,.string key,.string fin,.string val,.int .i64 ex,.int .i64 p,.int .i64 l,.int .i64 h,ov] 42 a->Below a.heap.size a b->BoxG w0 (Value.slice vo kb vc).ownBlock k3 #[.int .i64 tb,.int .i64 kd,.string key,.string fin,.string val,.int .i64 ex,.int .i64 p,.int .i64 l,.int .i64 h,ov] 42 b:=fun a b h hb=>h.later hb
 clear hw0 hk3 hv hkb
 have HOV:=hid (show ∀ W,BoxG w0 (Value.slice vo kb vc).ownBlock k3 #[.int .i64 tb,.int .i64 kd,.string key,.string fin,.string val,.int .i64 ex,.int .i64 p,.int .i64 l,.int .i64 h,ov] 42 W->w.grownBy W (Value.slice vo kb vc).ownBlock from fun W hW=>World.grownBy.andThen (by rw [HW0.out];exact World.grownBy_alloc w _ _) hW.grown (fun j hj=>Or.inr hj))
 have HSZ:=hid (show w.heap.size<=w0.heap.size from by rw [HW0.out];simp)
 have HON:=hid hOn
 have HLO:=hid (fun (W:World) (v1:Value) (l1:List Nat) (h:w.grownBy W (Value.slice vo kb vc).ownBlock) (hr:RowG w0 base (.slice vo kb vc) l1 v1 W) (W2:World) (h2:W.grownBy W2 v1.ownBlock)=>HOW.out W2 (h.andThen h2 (fun j hj=>by rcases hr.2 j hj with h3 | h3;exact Or.inr h3;exact Or.inl (Nat.le_trans HSZ.out h3))))
 clear hOn HOW
 have x1:=textF_len key (by omega)
 obtain⟨l1,e1⟩:∃ x,x=bs++textF key:=⟨_,rfl⟩
 obtain⟨l2,e2⟩:∃ x,x=l1++restL tb kd ex p l h fin val O:=⟨_,rfl⟩
 have y1:l1.length<=700000:=by rw [e1,la0];omega
 have HL:=hid (show bs++(textF key++restL tb kd ex p l h fin val O)=l2 from by rw [e2,e1,List.append_assoc])
 rw [HL.out]
 have E1:=hid e1
 have E2:=hid e2
 clear e1 e2 x1 HL
 have hpr:∀ (c:Nat) (z:Value) (lz:List Nat) (j:Nat) (a b:World),(j=c->(fun W=>RowG w0 base (.slice vo kb vc) lz z W) a)->Below a.heap.size a b->(j=c->(fun W=>RowG w0 base (.slice vo kb vc) lz z W) b):=fun c z lz j a b h hb e=>(h e).below hb
 go_enter Tryz.func116,Tryz.ntmps116
 go_upto_region 1 with fail
 rw [<-HW0.out,<-HK3.out]
 clear HW0 HK3
 refine RegLin.wp_region_lin (RegLin.useL [(3,5)]) (fun W=>BoxG w0 (Value.slice vo kb vc).ownBlock k3 #[.int .i64 tb,.int .i64 kd,.string key,.string fin,.string val,.int .i64 ex,.int .i64 p,.int .i64 l,.int .i64 h,ov] 42 W) (fun j W=>j=3->(fun W=>RowG w0 base (.slice vo kb vc) bs (.slice vo kb vc) W) W) 6 [false,false,false,false,false,true,true,true,true,true,true]
  [sLit (.slice vo kb vc),
  sLit (.pointer (some ⟨k3,2,none⟩)),
  sLit (.string key),
  sRow w0 base (.slice vo kb vc) (l1),
  sLit (.agg #[.int .i64 tb,.int .i64 kd,.string key,.string fin,.string val,.int .i64 ex,.int .i64 p,.int .i64 l,.int .i64 h,ov]),
  sRow w0 base (.slice vo kb vc) (l2)] (HBX.out) (fun j _ _=>HRW.out) (by kernel_rfl) (by kernel_rfl) (by kernel_rfl) (by kernel_rfl) (fun F hF=>?_)
 simp only [over,overL,Nat.reduceAdd] at hF
 obtain rfl:=funext hF
 clear hF
 refine⟨⟨?_,?_,?_,?_,?_,?_,trivial⟩,?_⟩
 ·
  intro V W hc hp hd K hK _
  clear hd
  go_wp2_with fail
  exact hK _ _ rfl (RegLin.keeps_below hcm (hpr 3 _ _) hc br) rfl
 ·
  intro V W hc hp hd K hK _
  clear hd
  go_wp2_with fail
  exact hK _ _ rfl (RegLin.keeps_below hcm (hpr 3 _ _) hc br) rfl
 ·
  intro V W hc hp hd K hK _
  have h1:(V 6)=.pointer (some ⟨k3,2,none⟩):=(RegLin.ask hd 1:)
  clear hd
  obtain⟨m0,m1,m2,m3,m4,m5,m6,m7,m8,m9⟩:=(And.intro (hc.cell 0) (And.intro (hc.cell 1) (And.intro (hc.cell 2) (And.intro (hc.cell 3) (And.intro (hc.cell 4) (And.intro (hc.cell 5) (And.intro (hc.cell 6) (And.intro (hc.cell 7) (And.intro (hc.cell 8) (hc.cell 9))))))))))
  go_wp2_with fail
  exact hK _ _ rfl (RegLin.keeps_below hcm (hpr 3 _ _) hc br) rfl
 ·
  intro V W hc hp hd K hK _
  have h0:(V 5)=.slice vo kb vc:=(RegLin.ask hd 0:)
  have h2:(V 7)=.string key:=(RegLin.ask hd 2:)
  clear hd
  skip
  have hr:RowG w0 base (.slice vo kb vc) _ _ W:=(hp rfl)
  have hbw:base<=W.heap.size:=Nat.le_trans HBS.out hc.grown.size
  have HR:=hid hr
  have HC:=hid hc
  clear hr hp hc
  go_wp2_with fail
  refine ((by have h:=text_onto key base _ bs W (by omega) HR.out.1 hbw (by omega);rw [<-E1.out] at h;exact h:Calls _ _ _ W (OnPost base _ l1 W))).mono ?_
  rintro e w1 ⟨v1,rfl,g1,g2,g3⟩
  have hN:=rowG_next HC.out HTY.out HR.out g1 g2 g3
  go_wp2_with fail
  refine hK _ _ ?_ ?_ ?_
  . rfl
  ·
   refine RegLin.keeps_by hN.1 (by kernel_rfl) (fun j hj hne hl h=>?_)
   iterate 6 (rcases j with _ | j;first | exact h | exact absurd rfl hne | exact RegLin.dead hl)
   exact absurd hj (by omega)
  . exact hN.2
 ·
  intro V W hc hp hd K hK _
  clear hd
  obtain⟨m0,m1,m2,m3,m4,m5,m6,m7,m8,m9⟩:=(And.intro (hc.cell 0) (And.intro (hc.cell 1) (And.intro (hc.cell 2) (And.intro (hc.cell 3) (And.intro (hc.cell 4) (And.intro (hc.cell 5) (And.intro (hc.cell 6) (And.intro (hc.cell 7) (And.intro (hc.cell 8) (hc.cell 9))))))))))
  go_wp2_with fail
  exact hK _ _ rfl (RegLin.keeps_below hcm (hpr 3 _ _) hc br) rfl
 ·
  intro V W hc hp hd K hK _
  have h3:RowG w0 base (.slice vo kb vc) (l1) (V 8) W:=(RegLin.ask hd 3:)
  have h4:(V 9)=.agg #[.int .i64 tb,.int .i64 kd,.string key,.string fin,.string val,.int .i64 ex,.int .i64 p,.int .i64 l,.int .i64 h,ov]:=(RegLin.ask hd 4:)
  clear hd
  skip
  have hr:RowG w0 base (.slice vo kb vc) _ _ W:=h3
  have hbw:base<=W.heap.size:=Nat.le_trans HBS.out hc.grown.size
  have HR:=hid hr
  have HC:=hid hc
  clear hr hp hc h3
  go_wp2_with fail
  refine ((by have h:=rest_onK tb kd ex p l h key fin val O ov base _ l1 W n1 n2 n3 n4 n5 n6 hf hvl hO HON.out (HLO.out W _ _ (HOV.out W HC.out) HR.out) hbw HR.out.1 (by omega);rw [<-E2.out] at h;exact h:Calls _ _ _ W (OnPost base _ l2 W))).mono ?_
  rintro e w1 ⟨v1,rfl,g1,g2,g3⟩
  have hN:=rowG_next HC.out HTY.out HR.out g1 g2 g3
  go_wp2_with fail
  refine hK _ _ ?_ ?_ ?_
  . rfl
  ·
   refine RegLin.keeps_by hN.1 (by kernel_rfl) (fun j hj hne hl h=>?_)
   iterate 6 (rcases j with _ | j;first | exact h | exact absurd rfl hne | exact RegLin.dead hl)
   exact absurd hj (by omega)
  . exact hN.2
 ·
  intro V W hc hd
  have h5:RowG w0 base (.slice vo kb vc) (l2) (V 10) W:=hd 5 (by decide) rfl
  clear hd
  simp only [List.drop_succ_cons,List.drop_zero]
  have H9:=hid h5
  have HC:=hid hc
  clear h5 hc
  go_wp2_with fail
  go_ret
  exact HOUT.out _ _ _ HC.out H9.out
theorem mutput_onto (tb kd ex p l h:Nat) (key fin val:ByteArray) (O:List Mut.Stp) (ov:Value) (wb:World) (v:Value) (bs:List Nat) (w:World) (n1:tb<9223372036854775808) (n2:kd<9223372036854775808) (n3:ex<9223372036854775808) (n4:p<9223372036854775808) (n5:l<9223372036854775808) (n6:h<9223372036854775808)
  (hky:key.size<=1000) (hf:fin.size<=1000) (hvl:val.size<=1000) (hO:O.length<=1000) (hOn:∀ s∈O,NumS s) (hov:Lst 3 Mut.enS wb ov O) (hbw:Below wb.heap.size wb w) (hv:OwnB w wb.heap.size v bs) (hbs:bs.length<=600000) :
  Calls Tryz.prog 116 #[v,.agg #[.int .i64 tb,.int .i64 kd,.string key,.string fin,.string val,.int .i64 ex,.int .i64 p,.int .i64 l,.int .i64 h,ov]] w (OnPost wb.heap.size v (bs++(textF key++restL tb kd ex p l h fin val O)) w):=
 mutput_onK tb kd ex p l h key fin val O ov wb.heap.size v bs w n1 n2 n3 n4 n5 n6 hky hf hvl hO hOn (fun W hg=>Lst.below hov (hbw.grown hg hbw.size (fun k hk=>(World.ownsRow.lt hv k hk).1))) hbw.size hv hbs
