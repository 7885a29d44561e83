/- PkAlive08. -/
import Derived.Test.YtpeoonnglnchnaaGreatDoorTabOpen
set_option linter.unusedSectionVars false
set_option linter.unusedSimpArgs false
set_option linter.unusedVariables false
set_option maxHeartbeats 16000000
set_option maxRecDepth 100000
namespace Go.Proofs.YtpeoonnglnchnaaGreatDoor.Mut
open RowKit Go.Sort YtpeoonnglnchnaaGreatDoor.Ord
variable [Inhabited Lim]
def kB:ByteArray:=⟨#[107]⟩
def vB:ByteArray:=⟨#[118]⟩
def mA:Mu:=⟨1,1,kB,⟨#[]⟩,vB,0,⟨2,0,0⟩,[]⟩
theorem rightA:rightF mA=true:=by kernel_rfl
def rA:Ro:=(mA,.slice none 0 0)
end Go.Proofs.YtpeoonnglnchnaaGreatDoor.Mut
namespace Go.Proofs.YtpeoonnglnchnaaGreatDoor.Tab
open Go.Lib (hid)
open RowKit YtpeoonnglnchnaaGreatDoor.Ord YtpeoonnglnchnaaGreatDoor.Spare Mut Mrk YtpeoonnglnchnaaGreatDoor.Rd
variable [Inhabited Lim]
def jB:ByteArray:=⟨#[106]⟩
theorem one_reps:Reps (Fits [mA]) ⟨[mA],[],[]⟩ where
 fit:=fun m h=>fit_of h.2
 cells:=fun m h=>by
  rw [List.mem_singleton] at h;subst h
  exact⟨⟨by simp,rightA⟩,by show ¬ (1:Int)=2;decide,by show ¬ (1:Int)=3;decide⟩
 wipes:=fun _ h=>by cases h
 sibs:=fun m=>⟨fun h=>(by cases h),fun h=>by
  obtain⟨⟨h1,-⟩,h2⟩:=h
  rw [List.mem_singleton] at h1
  subst h1
  exact absurd h2 (by show ¬ (1:Int)=2;decide)⟩
 rc:=List.pairwise_singleton _ _
 rw_:=List.Pairwise.nil
 rs:=List.Pairwise.nil
 free:=fun _ _ w hw=>by cases hw
 alone:=fun _ h=>by cases h
 domW:=fun x h1 h2=>by
  obtain⟨h1,-⟩:=h1
  rw [List.mem_singleton] at h1
  subst h1
  exact absurd h2.2 (by show ¬ (1:Int)=3;decide)
 domC:=fun x h1 h2=>by
  obtain⟨h1,-⟩:=h1
  rw [List.mem_singleton] at h1
  subst h1
  exact Or.inl ⟨mA,by simp,rfl,by rw [muO.self];omega⟩
theorem one_left:Mut.leftOf [mA]=⟨[mA],[],[]⟩:=(Mut.leftOf_eq one_reps).symm
theorem one_rows:rowsC (Mut.leftOf [mA])=[mA]:=by rw [one_left];rfl
theorem one_k:(rowsC (Mut.leftOf [mA])).filter (keyB kB)=[mA]:=by
 rw [one_rows]
 have e:keyB kB mA=true:=by unfold keyB;exact beq_self_eq_true _
 simp [e]
theorem one_j:(rowsC (Mut.leftOf [mA])).filter (keyB jB)=[]:=by
 rw [one_rows]
 have e:keyB jB mA=false:=by kernel_rfl
 simp [e]
theorem one_reads:readsF (Mut.leftOf [mA]) kB=1:=by
 unfold readsF
 have h1:mayF (bitsC (Mut.leftOf [mA])) mA.key (8*sizeC (Mut.leftOf [mA]))=true:=may_key (by rw [one_rows];exact List.mem_singleton.2 rfl)
 have h2:mayF (bitsC (Mut.leftOf [mA])) kB (8*sizeC (Mut.leftOf [mA]))=true:=h1
 rw [if_pos h2,one_rows,pagesF_short _ (by simp) (by simp)]
 show hitsF [[mA]] kB 1=1
 show 0+cond (hitF [[mA]] kB 0) 1 0=1
 have h3:hitF [[mA]] kB 0=true:=by
  show (!lessS kB kB && (decide (1<=0+1) || _))=true
  rw [less_irrefl]
  simp
 rw [h3]
 rfl
theorem sizeC_pos (c:Con):0<sizeC c:=by unfold sizeC sizeF;omega
theorem sizeC_le (c:Con):sizeC c<=65536:=Nat.min_le_right _ _
theorem one_row (w:World) (t:TypeId):MRow (w.alloc (.cells ⟨enM rA⟩ t)) (.slice (some ⟨w.heap.size,0,none⟩) 1 1) [rA]:=by
 refine⟨⟨_,1,rfl,by decide,by decide,Or.inr ⟨_,_,rfl,by simp,fun i x hi j hj=>?_⟩⟩,fun x hx=>?_⟩
 ·
  rw [cells_at (heap_alloc_new w _),Nat.zero_add]
  have:[rA].flatMap enM=enM rA:=by simp
  rw [<-this]
  exact flatMap_get enM_len _ i x hi j hj
 ·
  rw [List.mem_singleton] at hx
  subst hx
  exact⟨Lst.nil _,ZN.none _ _⟩
theorem tbl_below {w w1 w2:World} {t:Nat} (hb:Below w.heap.size w w1) (ht:w.heap.size<=t) (hg:w1.grownBy w2 (some t)):Below w.heap.size w w2:=hb.grown hg hb.size (fun j hj=>by cases hj;exact ht)
theorem alive16_any (w:World) (hT:Tabs w):Calls Tryz.prog 17 #[] w fun e w'=>e=.returned (.bool true)/\Below w.heap.size w w':=by
 have HT:=hid hT
 clear hT
 obtain⟨W0,hW0⟩:∃ z,z=w.alloc (.cells ⟨enM rA⟩ 42):=⟨_,rfl⟩
 obtain⟨W1,hW1⟩:∃ z,z=W0.alloc (.cells ⟨enM rA⟩ 42):=⟨_,rfl⟩
 have hb0:Below w.heap.size w W0:=by rw [hW0];exact br.alloc lr _
 have hb1:Below w.heap.size w W1:=by rw [hW1];exact hb0.alloc hb0.size _
 have hrow:MRow W1 (.slice (some ⟨W0.heap.size,0,none⟩) 1 1) [rA]:=by rw [hW1];exact one_row W0 _
 have hs0:W0.heap.size=w.heap.size+1:=by rw [hW0];simp
 rw [hs0] at hrow
 obtain⟨c,hc⟩:∃ c,c=Mut.leftOf [mA]:=⟨_,rfl⟩
 have HGC:=hid (show Mut.Good c 1 from by rw [hc];exact Mut.leftOf_good [mA])
 have HOF:=hid (show Calls Tryz.prog 10 #[.slice (some ⟨w.heap.size+1,0,none⟩) 1 1] W1 (RetC c W1) from by
  rw [hc]
  exact c_of (HT.out.below hb1) ⟨[rA],rfl,hrow⟩ (by simp) (fun m hm=>by rw [List.mem_singleton] at hm;subst hm;exact small_right rightA))
 have HK:=hid (show getT (pagesF (rowsC c)) (bitsC c) (sizeC c) kB=([mA],1) from by rw [getT_rows HGC.out,hc,one_k,one_reads])
 have HJ:=hid (show (getT (pagesF (rowsC c)) (bitsC c) (sizeC c) jB).1=[] from by rw [getT_rows HGC.out,hc,one_j])
 have HGP:=hid (good_pages HGC.out (by omega))
 have HB1:=hid hb1
 have HW1:=hid (show W1=(w.alloc (.cells ⟨enM rA⟩ 42)).alloc (.cells ⟨enM rA⟩ 42) from by rw [hW1,hW0])
 clear hW0 hW1 hb0 hb1 hrow hs0 hc
 go_enter Tryz.func17,Tryz.ntmps17
 go_wp2_with fail
 have HOF2:=HOF.out
 rw [HW1.out] at HOF2
 refine HOF2.mono ?_
 clear HOF2 HOF
 rw [<-HW1.out]
 clear HW1
 rintro e w2 ⟨cv,rfl,hic,hb2⟩
 have HB2:=hid (below_then HB1.out lr hb2)
 have HPU:=hid (tabput_any hic HGC.out (by omega))
 clear hic hb2
 go_wp2_with fail
 refine HPU.out.mono ?_
 rintro e w3 ⟨bv,rfl,hob,hb3⟩
 have HB3:=hid (below_then HB2.out lr hb3)
 have HOP:=hid (topen_any bv c 1 w3 w (row_of hob) HGC.out (by omega) HT.out HB3.out)
 clear hob hb3 HPU
 go_wp2_with fail
 refine HOP.out.mono ?_
 rintro e w4 ⟨t,lv,wv,fv,rfl,htw,htb,hb4⟩
 have HB4:=hid (below_then HB3.out lr hb4)
 have htw2:w.heap.size<=t:=Nat.le_trans HB3.out.size htw
 have HG1:=hid (tget_any t lv wv fv 0 _ _ _ _ kB w4 w htb HT.out HB4.out htw2 HGP.out (sizeC_pos c) (sizeC_le c) (by decide) (by omega))
 clear htb hb4 htw HOP
 rw [HK.out] at HG1
 go_wp2_with fail
 refine HG1.out.mono ?_
 rintro e w5 ⟨v5,R5,rfl,hm5,hc5,ht5,hg5⟩
 have hl5:R5.length=1:=by have:=congrArg List.length hm5;simpa using this
 obtain⟨o5,q5,hv5⟩:=row_form hc5.row
 rw [hl5] at hv5
 subst hv5
 have HB5:=hid (tbl_below HB4.out htw2 hg5)
 have HT5:=hid (show Tbl w5 t lv wv fv 1 (pagesF (rowsC c)) c.wipes (bitsC c) (sizeC c) from ht5)
 have HRE:=hid (treads_any t lv wv fv 1 _ _ _ _ w5 HT5.out)
 clear hm5 hl5 hc5 ht5 hg5 HG1
 go_wp2_with fail
 refine HRE.out.mono ?_
 rintro e w6 ⟨rfl,h1⟩
 subst h1
 have HG2:=hid (tget_any t lv wv fv 1 _ _ _ _ jB w5 w HT5.out HT.out HB5.out htw2 HGP.out (sizeC_pos c) (sizeC_le c) (by decide) (by omega))
 clear HRE
 go_wp2_with fail
 refine HG2.out.mono ?_
 rintro e w7 ⟨v7,R7,rfl,hm7,hc7,ht7,hg7⟩
 have hl7:R7.length=0:=by rw [HJ.out] at hm7;have:=congrArg List.length hm7;simpa using this
 obtain⟨o7,q7,hv7⟩:=row_form hc7.row
 rw [hl7] at hv7
 subst hv7
 have HB7:=hid (tbl_below HB5.out htw2 hg7)
 clear hm7 hl7 hc7 ht7 hg7 HG2
 go_wp2_with fail
 go_ret
 exact⟨rfl,HB7.out⟩
end Go.Proofs.YtpeoonnglnchnaaGreatDoor.Tab
namespace Go.Proofs.YtpeoonnglnchnaaGreatDoor.Spare
open Go RowKit
section
variable {P : Program}
end
end Go.Proofs.YtpeoonnglnchnaaGreatDoor.Spare
namespace Go.Proofs.YtpeoonnglnchnaaGreatDoor.Mut
open RowKit Go.Sort YtpeoonnglnchnaaGreatDoor.Ord
variable [Inhabited Lim]
end Go.Proofs.YtpeoonnglnchnaaGreatDoor.Mut
namespace Go.Proofs.YtpeoonnglnchnaaGreatDoor.Mrk
open Go.Lib (hid)
open RowKit YtpeoonnglnchnaaGreatDoor.Spare
def eqB (a b:List Nat):Bool:=decide (a=b)
theorem eqB_iff (a b:List Nat):eqB a b=true ↔ a=b:=by unfold eqB;simp
theorem eqB_self (a:List Nat):eqB a a=true:=(eqB_iff a a).2 rfl
theorem equalB_any (ao bo:Option Addr) (ac bc:Nat) (a b:List Nat) (w:World) (ha:BRow w (.slice ao a.length ac) a) (hb:BRow w (.slice bo b.length bc) b) (h1:a.length<=100000) (h2:b.length<=100000) :
  Calls Tryz.prog 22 #[.slice ao a.length ac,.slice bo b.length bc] w fun e w'=>e=.returned (.bool (eqB a b))/\Below w.heap.size w w':=by
 have HA:=hid ha
 have HB:=hid hb
 clear ha hb
 cases hl:((a.length:Int) != (b.length:Int))
 ·
  have hll:a.length=b.length:=by simp at hl;omega
  have HLL:=hid hll
  obtain⟨r,hr⟩:∃ r,r=eqB a b:=⟨_,rfl⟩
  rw [<-hr]
  have HR:=hid hr
  clear hr hll
  go_enter Tryz.func22,Tryz.ntmps22
  go_wp2_with fail
  go_loopw [13] (fun iv wr=>∃ (k nq:Nat),k<=a.length/\iv=.int .i64 k/\wr=w.drewN nq/\Hid (eqB (a.drop k) (b.drop k)=r)) (fun iv _=>a.length - (intOf iv).toNat)
  case atStart=>exact⟨0,0,by omega,rfl,rfl,hid (by rw [HR.out];simp)⟩
  case round=>
   obtain⟨k,nq0,hk,rfl,rfl,hq0⟩:=hrel
   by_cases hlt:k<a.length
   ·
    have hlb:k<b.length:=by have:=HLL.out;omega
    obtain⟨ab,aoff,rfl,_,a0⟩:=byte_at HA.out (ge0 hlt)
    obtain⟨bb,boff,rfl,_,b0⟩:=byte_at HB.out (ge0 hlb)
    have hda:=dg0 hlt
    have hdb:=dg0 hlb
    generalize a[k]=x at *
    generalize b[k]=y at *
    have HDA:=hid hda
    have HDB:=hid hdb
    clear hda hdb
    cases hqq:((x:Int) != (y:Int))
    ·
     have HQ:=hid hqq
     go_wp2_with fail
     go_quiet (fail)
     go_wp2_with fail
     go_roundw
     case rel=>exact⟨k+1,_,by omega,by go_num,rfl,hid (by have h1:=hq0.out;rw [HDA.out,HDB.out] at h1;have h2:x=y:=(by have h3:=HQ.out;simp at h3;omega);rw [<-h1];unfold eqB;simp [h2])⟩
     case measure=>simp [intOf];omega
    ·
     have HQ:=hid hqq
     go_wp2_with fail
     go_quiet (fail)
     go_wp2_with fail
     go_ret
     exact⟨by have h1:=hq0.out;rw [HDA.out,HDB.out] at h1;have h2:¬ x=y:=(by have h3:=HQ.out;simp at h3;omega);rw [<-h1];unfold eqB;simp [h2],by repeat (first | exact Below.refl _ _ | apply below_drewN)⟩
   ·
    obtain rfl:k=a.length:=by omega
    go_wp2_with fail
    go_ret
    exact⟨by have:=hq0.out;rw [List.drop_length,HLL.out,List.drop_length] at this;rw [<-this];rfl,by repeat (first | exact Below.refl _ _ | apply below_drewN)⟩
 ·
  have hll:a.length≠b.length:=by simp at hl;omega
  have:eqB a b=false:=by
   cases h:eqB a b with
   | false=>rfl
   | true=>rw [eqB_iff] at h;exact (hll (by rw [h])).elim
  rw [this]
  clear hll this
  go_enter Tryz.func22,Tryz.ntmps22
  go_wp2_with fail
  go_ret
  exact⟨rfl,Below.refl _ _⟩
theorem equalB_lit (q:Bool) (ao bo:Option Addr) (ac bc:Nat) (a b:List Nat) (w:World) (hq:eqB a b=q) (ha:BRow w (.slice ao a.length ac) a) (hb:BRow w (.slice bo b.length bc) b) (h1:a.length<=100000) (h2:b.length<=100000) :
  Calls Tryz.prog 22 #[.slice ao a.length ac,.slice bo b.length bc] w fun e w'=>e=.returned (.bool q)/\Below w.heap.size w w':=by
 rw [<-hq];exact equalB_any ao bo ac bc a b w ha hb h1 h2
end Go.Proofs.YtpeoonnglnchnaaGreatDoor.Mrk
namespace Go.Proofs.YtpeoonnglnchnaaGreatDoor.Tab
open Go.Lib (hid)
open RowKit YtpeoonnglnchnaaGreatDoor.Ord YtpeoonnglnchnaaGreatDoor.Spare Mut Mrk YtpeoonnglnchnaaGreatDoor.Rd
variable [Inhabited Lim]
theorem tableB_len {c:Con} {n:Nat} (hc:Mut.Good c n) (hn:n<=60):(tableB c).length<=100000:=by
 have hgw:=good_wipes hc
 have h1:=bytesR_len (l:=allF (wipesC c)) (fun m hm=>hgw.okc.right m (mem_allF.1 hm)) (by have:=len_allF (wipesC c);have:=hgw.okc.len;omega)
 have h2:=len_allF (wipesC c)
 have h3:(wipesC c).all.length=c.wipes.length:=by unfold wipesC Con.all;simp
 have h4:=leaves_len _ (pagesC_each hc.okc)
 rw [pagesF_flat _ _ lr] at h4
 have h5:=pagesF_len _ (rowsC c) lr
 have h6:(rowsC c).length=c.cells.length+c.sibs.length:=by unfold rowsC;rw [rowsF_len,la0]
 have h0:c.cells.length+c.wipes.length+c.sibs.length<=n:=by have:=hc.okc.len;unfold Con.all at this;simp at this;omega
 have h7:=putF_ten (n:=(pagesF (rowsC c)).length) (by omega)
 have h8:sizeC c<=76:=by
  have h:=dupF_len ((rowsC c).map (·.key))
  rw [lm0] at h
  have h':(keysC c).length<=60:=by show (dupF _).length<=60;omega
  unfold sizeC sizeF
  omega
 have h9:=textF_len (strOf (sieveL (bitsC c) (sizeC c))) (by rw [strOf_size,sieveL_len];omega)
 rw [strOf_size,sieveL_len] at h9
 unfold tableB
 simp only [la0]
 omega
theorem tableBack_any (vl:Value) (A:List Ro) (w:World) (hT:Tabs w) (hA:MRow w vl A) (zA:∀ x∈A,x.1.key.size<=maxLen/\x.1.fin.size<=maxLen/\x.1.val.size<=maxLen) :
  Calls Tryz.prog 5 #[vl] w (RetB true w):=by
 have HGa:=hid (great_any vl A 60 w hA (by decide) zA)
 obtain⟨ga,hga⟩:∃ q,q=greatF (A.map (·.1)) 60:=⟨_,rfl⟩
 rw [<-hga] at HGa
 obtain⟨la,hla⟩:∃ l,l=A.map (·.1):=⟨_,rfl⟩
 rw [<-hla] at hga
 have HRA:=hid (show Reads w vl la from ⟨A,hla.symm,hA⟩)
 obtain⟨ao,ac,rfl,-,-⟩:=hA.form
 obtain⟨na,hna⟩:∃ k,k=A.length:=⟨_,rfl⟩
 rw [<-hna] at HGa HRA ⊢
 have HT:=hid hT
 have HGG:=hid hga
 have HAL:=hid (show ∀ W,Below w.heap.size w W->Calls Tryz.prog 17 #[] W fun e w'=>e=.returned (.bool true)/\Below W.heap.size W w' from fun W h=>alive16_any W (HT.out.below h))
 clear hT hA zA hga hna hla
 obtain⟨x,hx⟩:∃ x,x=Mut.leftOf la:=⟨_,rfl⟩
 have HX:=hid hx
 clear hx
 go_enter Tryz.func5,Tryz.ntmps5
 go_wp2_with fail
 refine HGa.out.mono ?_
 rintro e w1 ⟨rfl,h1⟩
 subst h1
 cases ga
 case true=>
  go_wp2_with fail
  go_ret
  exact⟨rfl,Below.refl _ _⟩
 obtain⟨lA,sA⟩:=great_small HGG.out.symm
 have HOM:=hid (show (∀ W,Below w.heap.size w W->Calls Tryz.prog 10 #[.slice ao na ac] W (RetC x W))/\∀ W,Below w.heap.size w W->Calls Tryz.prog 7 #[.slice ao na ac] W (RetC x W) from by
  rw [HX.out]
  exact⟨fun W h=>c_of (HT.out.below h) (HRA.out.below h) (by omega) sA,fun W h=>c_refof (HT.out.below h) (HRA.out.below h) (by omega) sA⟩)
 have HG:=hid (show Mut.Good x 60 from by rw [HX.out];exact (Mut.leftOf_good la).more lA)
 have HGP:=hid (good_pages HG.out lr)
 clear lA sA HGG HGa HRA HX
 go_wp2_with fail
 refine (HOM.out.2 _ br).mono ?_
 rintro e w1 ⟨vv,rfl,hl,hb1⟩
 obtain⟨m1,i1,j1,m2,i2,j2,m3,i3,j3,rfl,hl1⟩:=hl.form
 go_upto_region 4 with fail
 obtain⟨W2,hW2⟩:∃ W,W=w1.alloc (.cells #[.slice m1 i1 j1,.slice m2 i2 j2,.slice m3 i3 j3] 25):=⟨_,rfl⟩
 obtain⟨k3,hk3⟩:∃ k,k=w1.heap.size:=⟨_,rfl⟩
 rw [<-hW2,<-hk3]
 have hb2:Below w1.heap.size w1 W2:=by rw [hW2];exact br.alloc lr _
 have HB2:=hid (below_then hb1 lr hb2)
 have HC2:=hid (show C3 W2 k3 (.slice m1 i1 j1) (.slice m2 i2 j2) (.slice m3 i3 j3) from by rw [hW2,hk3];exact C3.newR w1 _ _ _)
 have HM2:=hid (show IsC x (.agg #[.slice m1 i1 j1,.slice m2 i2 j2,.slice m3 i3 j3]) W2 from (hl1.below hb2).is)
 have HY2:=hid (hl1.below hb2)
 clear hb1 hl hl1 hW2 hk3 hb2
 go_wp2_with fail
 refine (HOM.out.1 _ HB2.out).mono ?_
 rintro e w3 ⟨vx,rfl,hx3,hb3⟩
 have HPU:=hid (tabput_any hx3 HG.out lr)
 have HB3:=hid (below_then HB2.out lr hb3)
 have HC3:=hid (HC2.out.below hb3)
 have HM3:=hid (HM2.out.below hb3)
 have HY3:=hid (HY2.out.below hb3)
 clear hx3 hb3 HB2 HC2 HM2
 go_wp2_with fail
 refine HPU.out.mono ?_
 rintro e w4 ⟨bv,rfl,hob,hb4⟩
 obtain⟨L,hL⟩:∃ L,L=tableB x:=⟨_,rfl⟩
 have HL:=hid hL
 rw [<-hL] at hob
 have HLL:=hid (show L.length<=100000 from by
  rw [hL];exact tableB_len HG.out lr)
 have HNE:=hid (show L≠[] from fun e=>by
  rw [hL] at e
  unfold tableB at e
  exact bytesR_ne _ (List.append_eq_nil_iff.1 e).2)
 obtain⟨og,oc,e4,-⟩:=own_at0 hob HNE.out
 have HOB:=hid (row_of hob)
 rw [e4] at HOB
 subst e4
 obtain⟨nL,hnL⟩:∃ n,n=L.length:=⟨_,rfl⟩
 have HNL:=hid hnL
 rw [<-hnL] at HOB ⊢
 have HB4:=hid (below_then HB3.out lr hb4)
 have HC4:=hid (HC3.out.below hb4)
 have HM4:=hid (HM3.out.below hb4)
 have HY4:=hid (HY3.out.below hb4)
 have HOP:=hid (show Calls Tryz.prog 8 #[.slice (some ⟨og,0,none⟩) nL oc] w4 (OpenP x w4) from topen_any _ x 60 w4 w (by rw [<-HL.out];exact HOB.out) HG.out lr HT.out HB4.out)
 clear hob hb4 hL hnL HPU HB3 HC3 HM3
 go_wp2_with fail
 refine HOP.out.mono ?_
 rintro e w5 ⟨t,lv,wv,fv,rfl,htw,htb,hb5⟩
 have HB5:=hid (below_then HB4.out lr hb5)
 have HBx5:=hid hb5
 have HT5:=hid htb
 have htw2:w.heap.size<=t:=Nat.le_trans HB4.out.size htw
 have HC5:=hid (HC4.out.below hb5)
 have HM5:=hid (HM4.out.below hb5)
 have HO5:=hid (HOB.out.below hb5)
 have HRP:=hid (reftab_any HM5.out HG.out lr)
 obtain⟨-,s0,s1,s2,-,-,-⟩:=HC5.out
 clear htb hb5 HOP HOB
 go_wp2_with fail
 refine HRP.out.mono ?_
 rintro e w6 ⟨pv,rfl,hop,hb6⟩
 obtain⟨po,pc,hpv⟩:=hop.form
 rw [<-HL.out] at hop hpv
 subst hpv
 have HO6:=hid (HO5.out.below hb6)
 have HP6:=hid (row_of hop)
 have HBx6:=hid (below_then HBx5.out lr hb6)
 have HT6:=hid (HT5.out.below hb6)
 have heq:=equalB_lit true (some ⟨og,0,none⟩) po oc pc L L w6 (eqB_self _) (by rw [<-HNL.out];exact HO6.out) HP6.out HLL.out HLL.out
 rw [<-HNL.out] at heq ⊢
 have HEQ:=hid heq
 clear hop hb6 s0 s1 s2 heq HRP HO5 HT5 HBx5 HB5
 go_wp2_with fail
 refine HEQ.out.mono ?_
 rintro e w7 ⟨rfl,hb7⟩
 have HBx7:=hid (below_then HBx6.out lr hb7)
 have HT7:=hid (HT6.out.below hb7)
 have HB7:=hid (below_then HB4.out lr HBx7.out)
 have hwr:=HG.out.okc
 have HAA:=hid (tall_any t lv wv fv 0 _ x.wipes _ _ w7 w HT7.out HT.out HB7.out htw2 HGP.out (fun m hm=>hwr.right m (Con.mem_all.2 (Or.inr (Or.inl hm)))) (by have:=hwr.lens.2.1;omega) (by omega))
 clear hb7 hwr HEQ HO6 HP6 HT6 HBx6
 go_wp2_with fail
 refine HAA.out.mono ?_
 rintro e w8 ⟨av,rfl,hia,hta,hga⟩
 rw [conP_pages HG.out] at hia
 obtain⟨o1,n1,c1,o2,n2,c2,o3,n3,c3,rfl,hla⟩:=hia.form
 have HBx8:=hid (show Below w4.heap.size w4 w8 from tbl_below HBx7.out htw hga)
 obtain⟨W9,hW9⟩:∃ z,z=w8.alloc (.cells #[.slice o1 n1 c1,.slice o2 n2 c2,.slice o3 n3 c3] 33):=⟨_,rfl⟩
 obtain⟨k7,hk7⟩:∃ k,k=w8.heap.size:=⟨_,rfl⟩
 have hb9:Below w8.heap.size w8 W9:=by rw [hW9];exact br.alloc lr _
 have HZ9:=hid (show C3 W9 k7 (.slice o1 n1 c1) (.slice o2 n2 c2) (.slice o3 n3 c3) from by rw [hW9,hk7];exact C3.new w8 _ _ _)
 have HI9:=hid (show IsC x (.agg #[.slice o1 n1 c1,.slice o2 n2 c2,.slice o3 n3 c3]) W9 from (hla.below hb9).is)
 have HT9:=hid (hta.below hb9)
 have HBx9:=hid (below_then HBx8.out lr hb9)
 have HM9:=hid (HM4.out.below HBx9.out)
 have HC9:=hid (HC4.out.below HBx9.out)
 have HY9:=hid (HY4.out.below HBx9.out)
 have hcl:(x.cells++x.sibs).length<=60:=by have:=rowsC_len HG.out.okc;unfold rowsC at this;rw [rowsF_len] at this;exact this
 have HRS:=hid (refrows16_any _ _ _ x 60 W9 HY9.out (fun m hm=>(small_right (rowsC_right HG.out.okc m (rowsF_mem.2 hm))).over) (rows_nodup HG.out) (by omega))
 have HW9:=hid hW9
 have HK7:=hid hk7
 obtain⟨-,s0,s1,s2,-,-,-⟩:=HC9.out
 clear hia hta hga hla hW9 hk7 hb9 hcl HAA HY9
 go_upto_region 9 with fail
 rw [<-HW9.out,<-HK7.out]
 clear HW9 HK7
 go_wp2_with fail
 refine HRS.out.mono ?_
 rintro e wa ⟨v2,R,rfl,hmap,hmr,hba⟩
 have HMAP:=hid (show R.map (·.1)=rowsC x from hmap)
 have hRl:R.length<=60:=by have h:=congrArg List.length HMAP.out;rw [lm0] at h;have:=rowsC_len HG.out.okc;omega
 have HCU:=hid (refpages_any v2 R wa hmr (by omega))
 have HBa:=hid hba
 clear hmap hmr hba s0 s1 s2 HRS
 go_wp2_with fail
 refine HCU.out.mono ?_
 rintro e wc ⟨v3,Q,rfl,hop,hpm0,hbc⟩
 obtain⟨pn,hpn⟩:∃ q,q=(pagesF (rowsC x)).length:=⟨_,rfl⟩
 have hQl:Q.length=pn:=by
  have h:=congrArg List.length hpm0
  have h2:=congrArg List.length (pagesF_map (fun y:Ro=>y.1) _ R lr)
  rw [HMAP.out] at h2
  rw [lm0] at h h2
  rw [hpn,<-h2,h]
 obtain⟨qo,qc,hqv⟩:=row_form hop.row
 rw [hQl] at hqv
 subst hqv
 have hB9c:=below_then HBa.out lr hbc
 have HBc:=hid hB9c
 have HBxc:=hid (below_then HBx9.out lr hB9c)
 have HZc:=hid (HZ9.out.below hB9c)
 have HIc:=hid (HI9.out.below hB9c)
 have HMc:=hid (HM9.out.below hB9c)
 have HCc:=hid (HC9.out.below hB9c)
 have HTc:=hid (show Tbl wc t lv wv fv pn (pagesF (rowsC x)) x.wipes (bitsC x) (sizeC x) from by
  have h:=HT9.out.below hB9c
  rw [Nat.zero_add,<-hpn] at h
  exact h)
 have HIS:=hid (c_is true (iff_of_true rfl rfl) HIc.out HG.out HMc.out HG.out)
 obtain⟨-,s0,s1,s2,-,-,-⟩:=HCc.out
 obtain⟨-,z0,z1,z2,-,-,-⟩:=HZc.out
 have HPN:=hid hpn
 clear hop hpm0 hbc hQl hB9c hRl HCU HBa hpn
 go_wp2_with fail
 refine HIS.out.mono ?_
 rintro e wd ⟨rfl,hbd⟩
 have HTd:=hid (HTc.out.below hbd)
 have HBxd:=hid (below_then HBxc.out lr hbd)
 have HPG:=hid (tpages_any t lv wv fv pn _ _ _ _ wd HTd.out)
 have HRG:=hid (treads_any t lv wv fv pn _ _ _ _ wd HTd.out)
 rw [<-HPN.out] at HPG
 clear hbd s0 s1 s2 z0 z1 z2 HIS
 go_wp2_with fail
 refine HPG.out.mono ?_
 rintro e we ⟨rfl,h1⟩
 subst h1
 go_wp2_with fail
 refine HRG.out.mono ?_
 rintro e we ⟨rfl,h1⟩
 subst h1
 have HBd:=hid (below_then HB4.out lr HBxd.out)
 go_wp2_with fail
 refine (HAL.out wd HBd.out).mono ?_
 rintro e wf ⟨rfl,hbf⟩
 have HBf:=hid (below_then HBd.out lr hbf)
 clear hbf
 go_wp2_with fail
 go_ret
 exact⟨rfl,HBf.out⟩
