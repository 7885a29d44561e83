/- PkBytPut. -/
import Derived.Test.YtpeoonnglnchnaaGreatDoorPkMrkBytes
set_option linter.unusedSectionVars false
set_option linter.unusedSimpArgs false
set_option linter.unusedVariables false
set_option maxHeartbeats 16000000
set_option maxRecDepth 100000
namespace Go.Proofs.YtpeoonnglnchnaaGreatDoor.Mrk
open Go.Lib (hid)
open RowKit YtpeoonnglnchnaaGreatDoor.Spare RegInv Mut
variable [Inhabited Lim]
theorem right_sizes {m:Mu} (h:rightF m=true):m.key.size<=24/\m.fin.size<=24/\m.val.size<=64/\m.over.length<=24:=by
 unfold rightF rightG at h
 simp only [Bool.and_eq_true,Bool.not_eq_true',Bool.or_eq_false_iff,Bool.and_eq_false_iff,decide_eq_true_eq,decide_eq_false_iff_not,Bool.not_eq_false'] at h
 obtain⟨h1,h2,h3,⟨e1,e2,-⟩,h4,h5,h6⟩:=h
 have k1:=keyF_size h2
 have k2:=valF_size h4.2
 unfold overF at h3
 simp only [Bool.and_eq_true,decide_eq_true_eq] at h3
 have k4:m.fin.size<=24:=by
  by_cases hk:m.kind=3
  ·
   rcases h5.2 with h | h
   . exact absurd hk h
   . exact keyF_size h.1
  ·
   rcases h5.1 with h | h
   . exact absurd h hk
   . have:=empty_size h;omega
 exact⟨k1,k4,k2,by omega⟩
theorem flat30:∀ (l:List Stp),(∀ s∈l,NumS s)->(l.flatMap stF).length<=30*l.length
 | [],_=>by simp
 | s::l,h=>by
  have h1:=flat30 l fun x hx=>h x (by simp [hx])
  obtain⟨p0,l0,w0,p1,l1,w1⟩:=h s (by simp)
  have y1:=putF_ten (n:=s.p.toNat) (by omega)
  have y2:=putF_ten (n:=s.l.toNat) (by omega)
  have y3:=putF_ten (n:=s.w.toNat) (by omega)
  rw [List.flatMap_cons,la0,List.length_cons]
  have:(stF s).length<=30:=by unfold stF;simp only [la0];omega
  omega
theorem right_len {m:Mu} (h:rightF m=true):(bytesM m).length<=1000:=by
 obtain⟨z1,z2,z3,z4⟩:=right_sizes h
 obtain⟨⟨t0,t1⟩,⟨k0,k1⟩,⟨e0,e1⟩,⟨p0,l0,w0,p1,l1,w1⟩,s1,s2,s3,s4,s5⟩:=num_right h
 have y0:=textF_len m.key (by omega)
 have y1:=putF_ten (n:=m.table.toNat) (by omega)
 have y2:=putF_ten (n:=m.kind.toNat) (by omega)
 have y3:=textF_len m.fin (by omega)
 have y4:=textF_len m.val (by omega)
 have y5:=putF_ten (n:=m.expiry.toNat) (by omega)
 have y6:=putF_ten (n:=m.at_.p.toNat) (by omega)
 have y7:=putF_ten (n:=m.at_.l.toNat) (by omega)
 have y8:=putF_ten (n:=m.at_.w.toNat) (by omega)
 have y9:=putF_ten (n:=m.over.length) (by omega)
 have y10:=flat30 m.over s5
 unfold bytesM restL
 simp only [la0]
 omega
theorem bytesR_len {l:List Mu} (h:∀ m∈l,rightF m=true) (hn:l.length<=1000):(bytesR l).length<=10+1000*l.length:=by
 have hp:=putF_ten (n:=l.length) (by omega)
 have hf:∀ (l:List Mu),(∀ m∈l,rightF m=true)->(l.flatMap bytesM).length<=1000*l.length:=by
  intro l
  induction l with
  | nil=>intro _;simp
  | cons m l ih=>
   intro h
   have h1:=ih fun x hx=>h x (by simp [hx])
   have h2:=right_len (h m (by simp))
   rw [List.flatMap_cons,la0,List.length_cons]
   omega
 have:=hf l h
 unfold bytesR
 rw [la0]
 omega
theorem statePut_any {c:Con} {n:Nat} {v b:Value} {bs:List Nat} {w:World} (hv:IsC c v w) (h:Mut.Good c n) (hn:n<=420) (hbs:bs.length<=1000)
  (hput:∀ (W:World) (k:Nat),Below w.heap.size w W->k<=n->Calls Tryz.prog 43 #[b,.int .i64 (k:Nat)] W fun e w'=>∃ v',e=.returned v'/\OwnB w' W.heap.size v' (bs++putF k)/\Below W.heap.size W w') :
  Calls Tryz.prog 49 #[b,v] w fun e w'=>∃ v',e=.returned v'/\OwnB w' w.heap.size v' (bs++bytesR (allF c))/\Below w.heap.size w w':=by
 obtain⟨o1,n1,k1,o2,n2,k2,o3,n3,k3,rfl,hlc⟩:=hv.form
 have HG:=hid h
 have HP:=hid hput
 have hlen:=len_allF c
 have hO:=h.okc.len
 have HLN:=hid (show (allF c).length<=n from by omega)
 have HRT:=hid (show ∀ m∈allF c,rightF m=true from fun m hm=>h.okc.right m (mem_allF.1 hm))
 obtain⟨W,hW⟩:∃ W,W=w.alloc (.cells #[.slice o1 n1 k1,.slice o2 n2 k2,.slice o3 n3 k3] 33):=⟨_,rfl⟩
 have hb:Below w.heap.size w W:=by rw [hW];exact br.alloc lr _
 have hc3:C3 W w.heap.size (.slice o1 n1 k1) (.slice o2 n2 k2) (.slice o3 n3 k3):=by rw [hW];exact C3.new w _ _ _
 have HAL:=hid (c_all (n:=n) (hlc.below hb).is h (by omega))
 have HW:=hid hW
 have HB:=hid hb
 obtain⟨-,s0,s1,s2,-,-,-⟩:=hc3
 clear hv h hput hlen hO hW hb hlc
 go_enter Tryz.func49,Tryz.ntmps49
 go_upto_region 1 with fail
 rw [<-HW.out]
 go_wp2_with fail
 refine HAL.out.mono ?_
 rintro e w1 ⟨g,cap,R,rfl,hcp,hm,hb1⟩
 have HB1:=hid (below_then HB.out lr hb1)
 have hl:R.length<=n:=by have h1:=congrArg List.length hm;rw [lm0] at h1;have:=HLN.out;omega
 have HAA:=hid (all_any bs b _ R w1 hcp.mrow (fun x hx=>num_right (HRT.out _ (by rw [<-hm];exact List.mem_map.2 ⟨x,hx,rfl⟩))) (by omega) (by
  rw [hm,la0]
  have h1:=bytesR_len HRT.out (by have:=HLN.out;omega)
  have:=HLN.out
  omega) (HP.out w1 _ HB1.out (by omega)))
 have HM:=hid hm
 clear hcp hm hb1
 go_wp2_with fail
 refine HAA.out.mono ?_
 rintro e w2 ⟨v2,rfl,ho2,hb2⟩
 have HO2:=hid (show OwnB w2 w.heap.size v2 (bs++bytesR (allF c)) from by rw [<-HM.out];exact own_base ho2 HB1.out.size)
 have HB2:=hid (below_then HB1.out lr hb2)
 clear ho2 hb2
 go_wp2_with fail
 go_ret
 exact⟨_,rfl,HO2.out,HB2.out⟩
theorem refPut08_any {c:Con} {n:Nat} {v:Value} {w:World} (hv:IsC c v w) (h:Mut.Good c n) (hn:n<=420) :
  Calls Tryz.prog 64 #[v] w fun e w'=>∃ v',e=.returned v'/\OwnB w' w.heap.size v' (bytesR (allF c))/\Below w.heap.size w w':=by
 obtain⟨o1,n1,k1,o2,n2,k2,o3,n3,k3,rfl,hlc⟩:=hv.form
 have hlen:=len_allF c
 have hO:=h.okc.len
 have HLN:=hid (show (allF c).length<=420 from by omega)
 have HRT:=hid (show ∀ m∈allF c,rightF m=true from fun m hm=>h.okc.right m (mem_allF.1 hm))
 obtain⟨W,hW⟩:∃ W,W=w.alloc (.cells #[.slice o1 n1 k1,.slice o2 n2 k2,.slice o3 n3 k3] 25):=⟨_,rfl⟩
 have hb:Below w.heap.size w W:=by rw [hW];exact br.alloc lr _
 have hc3:C3 W w.heap.size (.slice o1 n1 k1) (.slice o2 n2 k2) (.slice o3 n3 k3):=by rw [hW];exact C3.newR w _ _ _
 have HAL:=hid (c_refall (n:=n) (hlc.below hb).is h (by omega))
 have HW:=hid hW
 have HB:=hid hb
 obtain⟨-,s0,s1,s2,-,-,-⟩:=hc3
 clear hv h hlen hO hW hb hlc
 go_enter Tryz.func64,Tryz.ntmps64
 go_upto_region 1 with fail
 rw [<-HW.out]
 go_wp2_with fail
 refine HAL.out.mono ?_
 rintro e w1 ⟨v1,rfl,⟨R,hm,hmr⟩,hb1⟩
 have HB1:=hid (below_then HB.out lr hb1)
 have hl:R.length<=420:=by have h1:=congrArg List.length hm;rw [lm0] at h1;have:=HLN.out;omega
 have HAA:=hid (refall07_any v1 R w1 hmr (fun x hx=>num_right (HRT.out _ (by rw [<-hm];exact List.mem_map.2 ⟨x,hx,rfl⟩))) (by omega) (by
  rw [hm]
  have h1:=bytesR_len HRT.out (by have:=HLN.out;omega)
  have:=HLN.out
  omega))
 have HM:=hid hm
 clear hmr hm hb1
 go_wp2_with fail
 refine HAA.out.mono ?_
 rintro e w2 ⟨v2,rfl,ho2,hb2⟩
 have HO2:=hid (show OwnB w2 w.heap.size v2 (bytesR (allF c)) from by rw [<-HM.out];exact own_base ho2 HB1.out.size)
 have HB2:=hid (below_then HB1.out lr hb2)
 clear ho2 hb2
 go_wp2_with fail
 go_ret
 exact⟨_,rfl,HO2.out,HB2.out⟩
end Go.Proofs.YtpeoonnglnchnaaGreatDoor.Mrk
namespace Go.Proofs.YtpeoonnglnchnaaGreatDoor.Rd
open Go Mrk Mut
variable [Inhabited Lim]
theorem low_st {s:Stp} (h:stR s=true):LowS s:=by
 have hn:=num_st h
 unfold stR at h
 simp only [Bool.and_eq_true,decide_eq_true_eq] at h
 obtain⟨⟨⟨⟨⟨⟨h1,h2⟩,h3⟩,h4⟩,h5⟩,h6⟩,-⟩:=h
 exact⟨hn,by omega,by omega,by omega⟩
theorem low_over (t:Stp):∀ (l:List Stp) (p:Option Stp),overFrom t p l=true->∀ s∈l,LowS s
 | [],_,_=>fun s hs=>by simp at hs
 | x::l,p,h=>fun s hs=>by
  unfold overFrom at h
  simp only [Bool.and_eq_true] at h
  rcases List.mem_cons.1 hs with rfl | hs
  . exact low_st h.1
  . exact low_over t l (some x) h.2.2.2 s hs
theorem low_right {m:Mu} (h:rightF m=true):LowS m.at_/\(∀ s∈m.over,LowS s)/\m.table<4/\m.kind<4/\m.expiry<=1099511627776:=by
 unfold rightF rightG at h
 simp only [Bool.and_eq_true,Bool.not_eq_true',Bool.or_eq_false_iff,Bool.and_eq_false_iff,decide_eq_true_eq,decide_eq_false_iff_not,Bool.not_eq_false'] at h
 obtain⟨h1,h2,h3,⟨e1,e2,-⟩,h4,h5,h6⟩:=h
 unfold overF at h3
 simp only [Bool.and_eq_true,decide_eq_true_eq] at h3
 have k5:(m.table=1\/m.table=2)/\1<=m.kind/\m.kind<=3:=by
  by_cases t1:m.table=1
  ·
   rw [if_pos t1] at h6
   simp only [Bool.and_eq_true,decide_eq_true_eq] at h6
   exact⟨Or.inl t1,h6.2.1,h6.2.2⟩
  ·
   rw [if_neg t1] at h6
   by_cases t2:m.table=2
   ·
    rw [if_pos t2] at h6
    simp only [Bool.or_eq_true,decide_eq_true_eq] at h6
    exact⟨Or.inr t2,by omega,by omega⟩
   . rw [if_neg t2] at h6;cases h6
 exact⟨low_st h1,low_over _ _ _ h3.1,by omega,by omega,by omega⟩
theorem raw_back (pre post:List Nat) (m:Mu) (h:rightF m=true):rawS (pre++(restL m.table.toNat m.kind.toNat m.expiry.toNat m.at_.p.toNat m.at_.l.toNat m.at_.w.toNat m.fin m.val m.over++post)) m.key (pre.length,0)=(m,(pre.length+(restL m.table.toNat m.kind.toNat m.expiry.toNat m.at_.p.toNat m.at_.l.toNat m.at_.w.toNat m.fin m.val m.over).length,0)):=by
 obtain⟨z1,z2,z3,z4⟩:=right_sizes h
 obtain⟨ha,ho,ht,hk,he⟩:=low_right h
 have hn:=num_right h
 obtain⟨L,hL⟩:∃ L,L=m.over.flatMap stF:=⟨_,rfl⟩
 obtain⟨B,hB⟩:∃ B,B=pre++(restL m.table.toNat m.kind.toNat m.expiry.toNat m.at_.p.toNat m.at_.l.toNat m.at_.w.toNat m.fin m.val m.over++post):=⟨_,rfl⟩
 obtain⟨P1,hP1⟩:∃ P,P=pre++putF m.table.toNat:=⟨_,rfl⟩
 obtain⟨P2,hP2⟩:∃ P,P=P1++putF m.kind.toNat:=⟨_,rfl⟩
 obtain⟨P3,hP3⟩:∃ P,P=P2++textF m.fin:=⟨_,rfl⟩
 obtain⟨P4,hP4⟩:∃ P,P=P3++textF m.val:=⟨_,rfl⟩
 obtain⟨P5,hP5⟩:∃ P,P=P4++putF m.expiry.toNat:=⟨_,rfl⟩
 obtain⟨P6,hP6⟩:∃ P,P=P5++stF m.at_:=⟨_,rfl⟩
 obtain⟨P7,hP7⟩:∃ P,P=P6++putF m.over.length:=⟨_,rfl⟩
 have hB7:B=P7++(L++post):=by rw [hB,hP7,hP6,hP5,hP4,hP3,hP2,hP1,hL];unfold restL stF;simp
 have hB6:B=P6++(putF m.over.length++(L++post)):=by rw [hB7,hP7];simp
 have hB5:B=P5++(stF m.at_++(putF m.over.length++(L++post))):=by rw [hB6,hP6];simp
 have hB4:B=P4++(putF m.expiry.toNat++(stF m.at_++(putF m.over.length++(L++post)))):=by rw [hB5,hP5];simp
 have hB3:B=P3++(textF m.val++(putF m.expiry.toNat++(stF m.at_++(putF m.over.length++(L++post))))):=by rw [hB4,hP4];simp
 have hB2:B=P2++(textF m.fin++(textF m.val++(putF m.expiry.toNat++(stF m.at_++(putF m.over.length++(L++post)))))):=by rw [hB3,hP3];simp
 have hB1:B=P1++(putF m.kind.toNat++(textF m.fin++(textF m.val++(putF m.expiry.toNat++(stF m.at_++(putF m.over.length++(L++post))))))):=by rw [hB2,hP2];simp
 have hB0:B=pre++(putF m.table.toNat++(putF m.kind.toNat++(textF m.fin++(textF m.val++(putF m.expiry.toNat++(stF m.at_++(putF m.over.length++(L++post)))))))):=by rw [hB1,hP1];simp
 have q0:=num_back pre (putF m.kind.toNat++(textF m.fin++(textF m.val++(putF m.expiry.toNat++(stF m.at_++(putF m.over.length++(L++post))))))) m.table.toNat (by omega)
 have q1:=num_back P1 (textF m.fin++(textF m.val++(putF m.expiry.toNat++(stF m.at_++(putF m.over.length++(L++post)))))) m.kind.toNat (by omega)
 have q2:=text_back P2 (textF m.val++(putF m.expiry.toNat++(stF m.at_++(putF m.over.length++(L++post))))) m.fin 24 (by omega) (by omega)
 have q3:=text_back P3 (putF m.expiry.toNat++(stF m.at_++(putF m.over.length++(L++post)))) m.val 64 (by omega) (by omega)
 have q4:=num_back P4 (stF m.at_++(putF m.over.length++(L++post))) m.expiry.toNat (by omega)
 have q5:=get_back P5 (putF m.over.length++(L++post)) m.at_ ha.n ha.p ha.l ha.w
 have q6:=count_back P6 (L++post) m.over.length 24 (by omega) (by omega)
 have q7:=overs_back m.over P7 post ho
 rw [<-hL,<-hB7] at q7
 rw [<-hB6] at q6
 rw [<-hB5] at q5
 rw [<-hB4] at q4
 rw [<-hB3] at q3
 rw [<-hB2] at q2
 rw [<-hB1] at q1
 rw [<-hB0] at q0
 rw [<-la0,<-hP1] at q0
 rw [<-la0,<-hP2] at q1
 rw [<-la0,<-hP3] at q2
 rw [<-la0,<-hP4] at q3
 rw [<-la0,<-hP5] at q4
 rw [<-la0,<-hP6] at q5
 rw [<-la0,<-hP7] at q6
 rw [<-hB]
 unfold rawS
 simp only [q0,q1,q2,q3,q4,q5,q6,q7,stOf_back ha.n]
 have len:P7.length+L.length=pre.length+(restL m.table.toNat m.kind.toNat m.expiry.toNat m.at_.p.toNat m.at_.l.toNat m.at_.w.toNat m.fin m.val m.over).length:=by
  rw [hP7,hP6,hP5,hP4,hP3,hP2,hP1,hL];unfold restL stF;simp only [la0];omega
 rw [len]
 obtain⟨t0,k0,e0⟩:0<=m.table/\0<=m.kind/\0<=m.expiry:=⟨hn.t.1,hn.k.1,hn.e.1⟩
 obtain⟨tb,kd,ky,fi,va,ex,at_,ov⟩:=m
 simp only [Prod.mk.injEq,Mu.mk.injEq,and_true,true_and]
 exact⟨Int.toNat_of_nonneg t0,Int.toNat_of_nonneg k0,Int.toNat_of_nonneg e0⟩
theorem getM_back (pre post:List Nat) (m:Mu) (h:rightF m=true):getM (pre++(bytesM m++post)) (pre.length,0)=(m,(pre.length+(bytesM m).length,0)):=by
 obtain⟨z1,z2,z3,z4⟩:=right_sizes h
 obtain⟨R,hR⟩:∃ R,R=restL m.table.toNat m.kind.toNat m.expiry.toNat m.at_.p.toNat m.at_.l.toNat m.at_.w.toNat m.fin m.val m.over:=⟨_,rfl⟩
 have hb:bytesM m=textF m.key++R:=by rw [hR];rfl
 have h1:=text_back pre (R++post) m.key 24 (by omega) (by omega)
 have h2:=raw_back (pre++textF m.key) post m h
 rw [<-hR] at h2
 rw [hb]
 have e:(pre++textF m.key)++(R++post)=pre++(textF m.key++R++post):=by simp
 have e1:pre++(textF m.key++(R++post))=pre++(textF m.key++R++post):=by simp
 rw [e,la0] at h2
 rw [e1] at h1
 unfold getM
 rw [h1]
 unfold withS
 simp only [h2]
 have hr:¬ (((0:Int)=0)/\rightF m=false):=by rintro⟨-,hx⟩;rw [h] at hx;cases hx
 simp [h]
 omega
theorem listG_back:∀ (l:List Mu) (pre post:List Nat),(∀ m∈l,rightF m=true)->listG (pre++(l.flatMap bytesM++post)) l.length (pre.length,0)=(some l,(pre.length+(l.flatMap bytesM).length,0))
 | [],pre,post,_=>by simp [listG]
 | m::l,pre,post,h=>by
  have h1:=getM_back pre (l.flatMap bytesM++post) m (h m (by simp))
  have h2:=listG_back l (pre++bytesM m) post fun x hx=>h x (by simp [hx])
  have e1:pre++(bytesM m++(l.flatMap bytesM++post))=pre++((m::l).flatMap bytesM++post):=by simp
  have e2:(pre++bytesM m)++(l.flatMap bytesM++post)=pre++((m::l).flatMap bytesM++post):=by simp
  rw [e1] at h1
  rw [e2,la0] at h2
  rw [List.length_cons,listG,if_pos rfl,h1]
  simp only [h2,Option.map_some]
  simp
  omega
theorem list_back (pre post:List Nat) (l:List Mu) (most:Int) (hl:(l.length:Int)<=most) (hz:l.length<4611686018427387904) (h:∀ m∈l,rightF m=true):listS (pre++(bytesR l++post)) most (pre.length,0)=(l,(pre.length+(bytesR l).length,0)):=by
 have h1:=count_back pre (l.flatMap bytesM++post) l.length most hz hl
 have h2:=listG_back l (pre++putF l.length) post h
 have e1:pre++(putF l.length++(l.flatMap bytesM++post))=pre++(bytesR l++post):=by unfold bytesR;simp
 have e2:(pre++putF l.length)++(l.flatMap bytesM++post)=pre++(bytesR l++post):=by unfold bytesR;simp
 rw [e1] at h1
 rw [e2,la0] at h2
 unfold listS
 simp only [h1,h2]
 unfold bytesR
 simp
 omega
theorem fold_push_nat:∀ (l:List Nat) (acc:ByteArray),(l.map fun c:Nat=>(c:Int)).foldl (fun r n=>r.push (UInt8.ofNat n.toNat)) acc=⟨acc.data++(l.map UInt8.ofNat).toArray⟩
 | [],acc=>by simp
 | c::l,acc=>by
  rw [List.map_cons,List.foldl_cons,fold_push_nat l]
  have e:UInt8.ofNat ((c:Int)).toNat=UInt8.ofNat c:=by simp
  rw [e]
  show (⟨(acc.data.push (UInt8.ofNat c))++(l.map UInt8.ofNat).toArray⟩:ByteArray)=_
  congr 1
  simp
theorem strL_of (l:List Nat) (h:∀ c∈l,c<256):strL (strOf l)=l:=by
 have e:strOf l=⟨ByteArray.empty.data++(l.map UInt8.ofNat).toArray⟩:=fold_push_nat l _
 have e0:ByteArray.empty.data=#[]:=rfl
 rw [e,e0]
 unfold strL
 simp only [Array.empty_append,List.map_map]
 conv=>rhs;rw [<-List.map_id l]
 refine List.map_congr_left fun c hc=>?_
 show (UInt8.ofNat c).toNat=c
 have:=h c hc
 rw [UInt8.toNat_ofNat']
 omega
theorem strOf_inj {a b:List Nat} (ha:∀ c∈a,c<256) (hb:∀ c∈b,c<256) (h:strOf a=strOf b):a=b:=by
 rw [<-strL_of a ha,h,strL_of b hb]
theorem bytesR_lt (l:List Mu):∀ c∈bytesR l,c<256:=by
 intro c hc
 unfold bytesR at hc
 rcases List.mem_append.1 hc with h | h
 . exact Mrk.putF_lt _ c h
 obtain⟨m,-,hm⟩:=List.mem_flatMap.1 h
 exact bytesM_byte m c hm
theorem getM_right (B:List Nat) (s:S) (h:(getM B s).2.2=0):rightF (getM B s).1=true:=by
 unfold getM withS at h ⊢
 obtain⟨m,hm⟩:∃ m,m=rawS B (textS B 24 s).1 (textS B 24 s).2:=⟨_,rfl⟩
 simp only [<-hm] at h ⊢
 by_cases h1:m.2.2=0
 ·
  cases h2:rightF m.1
  . simp [h1,h2] at h
  . simp [h1,h2]
 . simp [h1] at h
theorem listG_bad (B:List Nat):∀ (n:Nat) (s:S),s.2≠0->(listG B n s).2.2≠0
 | 0,s,h=>h
 | n+1,s,h=>by rw [listG,if_neg h];exact h
theorem listG_ok (B:List Nat):∀ (n:Nat) (s:S),(listG B n s).2.2=0->∃ l,(listG B n s).1=some l/\l.length=n/\∀ m∈l,rightF m=true
 | 0,s,h=>⟨[],rfl,rfl,fun m hm=>by cases hm⟩
 | n+1,s,h=>by
  rw [listG] at h ⊢
  split at h
  ·
   rename_i h0
   rw [if_pos h0]
   have h1:(getM B s).2.2=0:=Classical.byContradiction fun hx=>listG_bad B n _ hx h
   obtain⟨l,e,hl,hr⟩:=listG_ok B n _ h
   refine⟨(getM B s).1::l,by rw [e];rfl,by simp [hl],fun m hm=>?_⟩
   rcases List.mem_cons.1 hm with rfl | hm
   . exact getM_right B s h1
   . exact hr m hm
  ·
   rename_i h0
   exact absurd h h0
theorem listS_right (B:List Nat) (most:Nat) (s:S) (hs:s.1<=B.length):(listS B most s).1.length<=most/\∀ m∈(listS B most s).1,rightF m=true:=by
 unfold listS
 obtain⟨-,-,h3⟩:=countS_ok B most s hs
 simp only []
 split
 ·
  rename_i h
  obtain⟨l,e,hl,hr⟩:=listG_ok B _ _ h
  rw [e]
  exact⟨by show l.length<=most;omega,hr⟩
 . exact⟨Nat.zero_le _,fun m hm=>by cases hm⟩
def On (B:List Nat) (s t:S):Prop:=s.1<=t.1/\t.1<=B.length
theorem On.trans {B:List Nat} {a b c:S} (h:On B a b) (k:On B b c):On B a c:=⟨Nat.le_trans h.1 k.1,k.2⟩
theorem num_on (B:List Nat) (s:S) (h:s.1<=B.length):On B s (numS B s).2:=by
 obtain⟨h1,-,h3⟩:=numS_ok B s h
 exact⟨h3,h1⟩
theorem text_on (B:List Nat) (most:Int) (s:S) (h:s.1<=B.length):On B s (textS B most s).2:=by
 have h1:=num_on B s h
 unfold textS
 split
 ·
  split
  . exact⟨Nat.le_refl _,h⟩
  ·
   split
   . exact⟨Nat.le_refl _,h⟩
   ·
    rename_i h2
    exact⟨by show s.1<=(numS B s).2.1+(numS B s).1;have:=h1.1;omega,by show (numS B s).2.1+(numS B s).1<=B.length;have:=h1.2;omega⟩
 . exact⟨Nat.le_refl _,h⟩
theorem get_on (B:List Nat) (s:S) (h:s.1<=B.length):On B s (getS B s).2:=by
 have h1:=num_on B s h
 have h2:=num_on B _ h1.2
 have h3:=num_on B _ h2.2
 exact (h1.trans h2).trans h3
theorem count_on (B:List Nat) (most:Int) (s:S) (h:s.1<=B.length):On B s (countS B most s).2:=by
 obtain⟨h1,h2,-⟩:=countS_ok B most s h
 exact⟨h2,h1⟩
theorem overs_on (B:List Nat):∀ (n:Nat) (s:S),s.1<=B.length->On B s (oversS B n s).2
 | 0,s,h=>⟨Nat.le_refl _,h⟩
 | n+1,s,h=>by
  have h1:=get_on B s h
  exact h1.trans (overs_on B n _ h1.2)
theorem raw_on (B:List Nat) (key:ByteArray) (s:S) (h:s.1<=B.length):On B s (rawS B key s).2:=by
 have h1:=num_on B s h
 have h2:=h1.trans (num_on B _ h1.2)
 have h3:=h2.trans (text_on B 24 _ h2.2)
 have h4:=h3.trans (text_on B 64 _ h3.2)
 have h5:=h4.trans (num_on B _ h4.2)
 have h6:=h5.trans (get_on B _ h5.2)
 have h7:=h6.trans (count_on B 24 _ h6.2)
 exact h7.trans (overs_on B _ _ h7.2)
theorem with_on (B:List Nat) (key:ByteArray) (s:S) (h:s.1<=B.length):On B s (withS B key s).2:=by
 have h1:=raw_on B key s h
 unfold withS
 simp only []
 by_cases c1:(rawS B key s).2.2=0/\rightF (rawS B key s).1=false
 ·
  rw [if_pos c1]
  split <;> exact h1
 ·
  rw [if_neg c1]
  split <;> exact h1
theorem getM_on (B:List Nat) (s:S) (h:s.1<=B.length):On B s (getM B s).2:=by
 have h1:=text_on B 24 s h
 exact h1.trans (with_on B _ _ h1.2)
theorem listG_on (B:List Nat):∀ (n:Nat) (s:S),s.1<=B.length->On B s (listG B n s).2
 | 0,s,h=>⟨Nat.le_refl _,h⟩
 | n+1,s,h=>by
  rw [listG]
  split
  ·
   have h1:=getM_on B s h
   exact h1.trans (listG_on B n _ h1.2)
  . exact⟨Nat.le_refl _,h⟩
theorem listS_snd (B:List Nat) (most:Int) (s:S):(listS B most s).2=(listG B (countS B most s).1 (countS B most s).2).2:=by
 unfold listS
 simp only []
 split <;> rfl
theorem listS_pos (B:List Nat) (most:Int) (s:S) (hs:s.1<=B.length) (h:(listS B most s).2.2=0):s.1<(listS B most s).2.1/\(listS B most s).2.1<=B.length:=by
 rw [listS_snd] at h ⊢
 have h0:(countS B most s).2.2=0:=Classical.byContradiction fun hx=>listG_bad B _ _ hx h
 have hn:(countS B most s).2=(numS B s).2/\(numS B s).2.2=0:=by
  unfold countS at h0 ⊢
  split
  ·
   rename_i h1
   rw [if_pos h1] at h0
   split
   ·
    rename_i h2
    rw [if_pos h2] at h0
    exact absurd h0 (by show ¬ (31:Int)=0;decide)
   . exact⟨rfl,h1⟩
  ·
   rename_i h1
   rw [if_neg h1] at h0
   exact absurd h0 h1
 have h1:=numS_pos B s hs hn.2
 have h2:=count_on B most s hs
 have h3:=listG_on B (countS B most s).1 _ h2.2
 rw [<-hn.1] at h1
 exact⟨Nat.lt_of_lt_of_le h1 h3.1,h3.2⟩
def conE:Con:=⟨[],[],[]⟩
theorem left_allF {c:Con} {n:Nat} (h:Mut.Good c n):Mut.leftOf (allF c)=c:=by
 rw [<-h.left]
 exact Mut.leftOf_congr fun m=>by unfold Fits;rw [mem_allF,h.left]
theorem putF_ne (n:Nat):putF n≠[]:=by
 intro h
 have e:putF n=hi (low n).tail.reverse++[n % 128]:=rfl
 rw [e] at h
 simp at h
theorem bytesR_ne (l:List Mu):bytesR l≠[]:=by
 unfold bytesR
 intro h
 exact putF_ne _ (List.append_eq_nil_iff.1 h).1
