/- PkTabPlain. -/
import Derived.Test.YtpeoonnglnchnaaGreatDoorTabGet
import Derived.Test.YtpeoonnglnchnaaGreatDoorTabStGet
set_option linter.unusedSectionVars false
set_option linter.unusedSimpArgs false
set_option linter.unusedVariables false
set_option maxHeartbeats 16000000
set_option maxRecDepth 100000
namespace Go.Proofs.YtpeoonnglnchnaaGreatDoor.Tab
open RowKit YtpeoonnglnchnaaGreatDoor.Ord YtpeoonnglnchnaaGreatDoor.Spare Mut Mrk YtpeoonnglnchnaaGreatDoor.Rd
variable [Inhabited Lim]
theorem sib_of_key {a b:Mu} (h:cmpS a.key b.key<0):sibC a b<0:=by
 have h0:cmpS a.key b.key≠0:=by omega
 simp only [sibC,orL,h0,if_false,↓reduceIte]
 first | exact h | simpa [orL,h0] using h
theorem key_of_sib {a b:Mu} (h:sibC a b<0):lessS b.key a.key=false:=by
 cases hc:lessS b.key a.key with
 | false=>rfl
 | true=>
  have h1:sibC b a<0:=sib_of_key ((cmpS_lt _ _).2 hc)
  have:=(sibO.swap b a).1 h1
  omega
theorem rows_rise {c:Con} {n:Nat} (h:Mut.Good c n):(rowsC c).Pairwise (fun a b=>sibC a b<0):=by
 have h1:=rowsF_sorted (c.cells++c.sibs)
 have h2:(rowsC c).Nodup:=(rowsF_perm _).nodup_iff.2 (by
  have h1:=h.reps.nodup
  unfold Con.all at h1
  obtain⟨a1,a2,a3⟩:=List.nodup_append.1 h1
  obtain⟨b1,b2,b3⟩:=List.nodup_append.1 a2
  exact List.nodup_append.2 ⟨a1,b2,fun x hx y hy=>a3 x hx y (List.mem_append_right _ hy)⟩)
 unfold rowsC at h2 ⊢
 refine (h1.and h2).imp ?_
 intro a b ⟨h1,h2⟩
 have h3:=sibO.zero a b
 have h4:sibC a b≠0:=fun e=>h2 (h3.1 e)
 omega
theorem good_pages {c:Con} {n:Nat} (h:Mut.Good c n) (hn:n<=60):GoodP (pagesF (rowsC c)):=by
 have he:=pagesC_each h.okc
 refine⟨fun p hp=>(he p hp).1,fun p hp=>?_,fun p hp=>(he p hp).2,?_⟩
 ·
  have h1:=rows_rise h
  rw [<-pagesF_flat _ (rowsC c) lr] at h1
  exact (List.pairwise_flatten.1 h1).1 p hp
 ·
  have h1:=pagesF_len _ (rowsC c) lr
  have h2:=rowsC_len h.okc
  omega
theorem conP_pages {c:Con} {n:Nat} (h:Mut.Good c n):conP (pagesF (rowsC c)) c.wipes=c:=by
 have hf:∀ f:Mu->Bool,((rowsC c).filter f).Pairwise (fun a b=>sibC a b<=0):=fun f=>((rows_rise h).filter f).imp (fun h=>by omega)
 have hp:∀ f:Mu->Bool,((rowsC c).filter f).Perm ((c.cells++c.sibs).filter f):=fun f=>(rowsF_perm _).filter f
 have e1:(rowsC c).filter (fun m=>!isSibB m)=c.cells:=by
  refine sorted_one ((hp _).trans ?_) (hf _) (h.reps.rc.imp (fun {a b} h1=>by have:=sib_of_key (a:=a) (b:=b) h1;omega))
  rw [List.filter_append,List.filter_eq_self.2,List.filter_eq_nil_iff.2,List.append_nil]
  ·
   intro m hm
   have:=((h.reps.sibs m).1 hm).2
   unfold isS at this
   simp [isSibB,this]
  ·
   intro m hm
   have:=(h.reps.cells m hm).2.1
   simp [isSibB,this]
 have e2:(rowsC c).filter isSibB=c.sibs:=by
  refine sorted_one ((hp _).trans ?_) (hf _) (h.reps.rs.imp (fun {a b} h1=>by omega))
  rw [List.filter_append,List.filter_eq_nil_iff.2,List.filter_eq_self.2,List.nil_append]
  ·
   intro m hm
   have:=((h.reps.sibs m).1 hm).2
   unfold isS at this
   simp [isSibB,this]
  ·
   intro m hm
   have:=(h.reps.cells m hm).2.1
   simp [isSibB,this]
 unfold conP
 rw [pagesF_flat _ _ lr,e1,e2]
theorem less_irrefl (a:ByteArray):lessS a a=false:=by
 cases h:lessS a a with
 | false=>rfl
 | true=>
  have h1:cmpS a a<0:=(cmpS_lt _ _).2 h
  have h2:0<cmpS a a:=(cmpS_gt _ _).2 h
  omega
theorem key_eq {a b:ByteArray} (h:(a.toList == b.toList)=true):a=b:=Ord.bytes_ext (by simpa using h)
theorem missed {P:List (List Mu)} (hs:P.flatten.Pairwise (fun a b=>sibC a b<0)) (hne:∀ p∈P,p≠[]) {key:ByteArray} {i:Nat} (hi:i<P.length) (h:hitF P key i=false):(P.getD i []).filter (keyB key)=[]:=by
 obtain⟨h1,h2⟩:=List.pairwise_flatten.1 hs
 have hg:P.getD i []=P[i]:=by rw [List.getD_eq_getElem?_getD,ge0 hi];rfl
 rw [hg]
 refine List.filter_eq_nil_iff.2 fun m hm hk=>?_
 have hke:=key_eq hk
 unfold hitF at h
 rw [hg] at h
 have hfirst:lessS m.key (firstK P[i])=false:=by
  have hp:=h1 _ (List.getElem_mem hi)
  cases hq:P[i] with
  | nil=>rw [hq] at hm;cases hm
  | cons a l=>
   rw [hq] at hm hp
   show lessS m.key a.key=false
   rcases List.mem_cons.1 hm with rfl | hm
   . exact less_irrefl _
   . exact key_of_sib ((List.pairwise_cons.1 hp).1 m hm)
 rw [hke] at hfirst
 rw [hfirst] at h
 by_cases hl:P.length<=i+1
 ·
  rw [dt0 hl] at h
  cases h
 ·
  have hi2:i+1<P.length:=by omega
  have hg2:P.getD (i+1) []=P[i+1]:=by rw [List.getD_eq_getElem?_getD,ge0 hi2];rfl
  rw [df0 hl,hg2] at h
  have hnext:lessS (firstK P[i+1]) key=false:=by
   have hp:=List.pairwise_iff_getElem.1 h2 i (i+1) hi hi2 (by omega) m hm
   cases hq:P[i+1] with
   | nil=>exact absurd hq (hne _ (List.getElem_mem hi2))
   | cons a l=>
    have:=key_of_sib (hp a (by rw [hq];exact List.mem_cons_self))
    rw [<-hke]
    exact this
  rw [hnext] at h
  cases h
theorem found_take {P:List (List Mu)} (hs:P.flatten.Pairwise (fun a b=>sibC a b<0)) (hne:∀ p∈P,p≠[]) (key:ByteArray):∀ k,k<=P.length->foundF P key k=(P.take k).flatten.filter (keyB key)
 | 0,_=>rfl
 | k+1,hk=>by
  have h1:=found_take hs hne key k (by omega)
  have hg:P.getD k []=P[k]:=by rw [List.getD_eq_getElem?_getD,ge0 (by omega)];rfl
  have ht:P.take (k+1)=P.take k++[P[k]]:=by rw [List.take_add_one,ge0 (by omega)];rfl
  unfold foundF
  rw [h1,ht,List.flatten_append,List.filter_append]
  congr 1
  have e:[P[k]].flatten=P[k]:=by simp
  rw [e,hg]
  split
  . rfl
  ·
   rename_i hh
   have h3:=missed hs hne (key:=key) (i:=k) (by omega) (by simpa using hh)
   rw [hg] at h3
   exact h3.symm
theorem found_all {c:Con} {n:Nat} (h:Mut.Good c n) (key:ByteArray):foundF (pagesF (rowsC c)) key (pagesF (rowsC c)).length=(rowsC c).filter (keyB key):=by
 have hf:=pagesF_flat _ (rowsC c) lr
 rw [found_take (by rw [hf];exact rows_rise h) (fun p hp=>(pagesF_each _ _ lr p hp).1) key _ lr,List.take_length,hf]
theorem setTo_keeps (F:Nat->Bool) (s:ByteArray) (n j:Nat) (h:F j=true):∀ m,setTo F s n m j=true
 | 0=>h
 | m+1=>by
  unfold setTo setF
  rw [setTo_keeps F s n j h m,Bool.or_true]
theorem setTo_has (F:Nat->Bool) (s:ByteArray) (n i:Nat):∀ m,i<m->setTo F s n m (ptF s n i)=true
 | 0,h=>by omega
 | m+1,h=>by
  unfold setTo setF
  by_cases e:i=m
  . subst e;simp
  . rw [setTo_has F s n i m (by omega),Bool.or_true]
theorem fold_keeps (n j:Nat):∀ (ks:List ByteArray) (F:Nat->Bool),F j=true->ks.foldl (fun F k=>setTo F k n 4) F j=true
 | [],F,h=>h
 | k::ks,F,h=>fold_keeps n j ks _ (setTo_keeps F k n j h 4)
theorem fold_has (n i:Nat) (hi:i<4) (s:ByteArray):∀ (ks:List ByteArray) (F:Nat->Bool),s∈ks->ks.foldl (fun F k=>setTo F k n 4) F (ptF s n i)=true
 | k::ks,F,h=>by
  rcases List.mem_cons.1 h with rfl | h
  . exact fold_keeps n _ ks _ (setTo_has F s n i 4 hi)
  . exact fold_has n i hi s ks _ h
theorem dupTo_all (l:List ByteArray):∀ i,i<=l.length->∀ j x,j<i->l[j]?=some x->x∈dupTo l i
 | 0,_,j,x,hj,_=>by omega
 | 1,h,j,x,hj,hx=>by
  obtain rfl:j=0:=by omega
  rw [dupTo_first l x hx]
  exact List.mem_cons_self
 | i+1+1,h,j,x,hj,hx=>by
  obtain⟨y,hy⟩:∃ y,l[i]?=some y:=⟨_,ge0 (by omega)⟩
  obtain⟨z,hz⟩:∃ z,l[i+1]?=some z:=⟨_,ge0 (by omega)⟩
  rw [dupTo_next l i z y hy hz]
  by_cases e:j=i+1
  ·
   subst e
   obtain rfl:z=x:=Option.some.inj (hz.symm.trans hx)
   split
   ·
    rename_i e2
    exact List.mem_append_left _ (dupTo_all l (i+1) (by omega) i z (by omega) (by rw [hy,e2]))
   . exact List.mem_append_right _ (List.mem_singleton.2 rfl)
  . exact List.mem_append_left _ (dupTo_all l (i+1) (by omega) j x (by omega) hx)
theorem dupF_all {l:List ByteArray} {x:ByteArray} (h:x∈l):x∈dupF l:=by
 obtain⟨j,hj,e⟩:=List.mem_iff_getElem.1 h
 exact dupTo_all l _ lr j x hj (by rw [ge0 hj,e])
theorem may_key {c:Con} {m:Mu} (h:m∈rowsC c):mayF (bitsC c) m.key (8*sizeC c)=true:=by
 have hk:m.key∈keysC c:=dupF_all (List.mem_map.2 ⟨m,h,rfl⟩)
 unfold mayF bitsC ofF
 rw [fold_has _ 0 (by decide) _ _ _ hk,fold_has _ 1 (by decide) _ _ _ hk,fold_has _ 2 (by decide) _ _ _ hk,fold_has _ 3 (by decide) _ _ _ hk]
 rfl
theorem getT_rows {c:Con} {n:Nat} (h:Mut.Good c n) (key:ByteArray):getT (pagesF (rowsC c)) (bitsC c) (sizeC c) key=((rowsC c).filter (keyB key),readsF c key):=by
 unfold getT readsF
 split
 . rw [found_all h key]
 ·
  rename_i hm
  have e:(rowsC c).filter (keyB key)=[]:=List.filter_eq_nil_iff.2 fun m hm2 hk=>by
   have hke:=key_eq hk
   have:=may_key hm2
   rw [hke] at this
   exact hm this
  rw [e]
end Go.Proofs.YtpeoonnglnchnaaGreatDoor.Tab
namespace Go.Proofs.YtpeoonnglnchnaaGreatDoor.Tab
open Go.Lib (hid)
open RowKit YtpeoonnglnchnaaGreatDoor.Spare RegInv Mut Mrk
open YtpeoonnglnchnaaGreatDoor.Rd (below_grown)
variable [Inhabited Lim]
theorem put_roK (x:Ro) (base:Nat) (w:World) (v:Value) (bs:List Nat) (hx:∀ W,w.grownBy W v.ownBlock->Over W x) (hn:NumM x.1) (hbase:base<=w.heap.size) (hv:OwnB w base v bs) (hbs:bs.length<=600000) :
  Calls Tryz.prog 116 #[v,vM x] w (OnPost base v (bs++bytesM x.1) w):=by
 obtain⟨⟨tb,kd,key,fin,val,ex,⟨p,l,h⟩,over⟩,ov⟩:=x
 obtain⟨⟨t0,t1⟩,⟨k0,k1⟩,⟨e0,e1⟩,⟨p0,l0,w0,p1,l1,w1⟩,s1,s2,s3,s4,s5⟩:=hn
 simp only [] at t0 t1 k0 k1 e0 e1 p0 l0 w0 p1 l1 w1 s1 s2 s3 s4 s5
 obtain⟨tb,rfl⟩:=Int.eq_ofNat_of_zero_le t0
 obtain⟨kd,rfl⟩:=Int.eq_ofNat_of_zero_le k0
 obtain⟨ex,rfl⟩:=Int.eq_ofNat_of_zero_le e0
 obtain⟨p,rfl⟩:=Int.eq_ofNat_of_zero_le p0
 obtain⟨l,rfl⟩:=Int.eq_ofNat_of_zero_le l0
 obtain⟨h,rfl⟩:=Int.eq_ofNat_of_zero_le w0
 exact mutput_onK tb kd ex p l h key fin val over ov base v bs w (by omega) (by omega) (by omega) (by omega) (by omega) (by omega) s1 s2 s3 s4 s5 (fun W hg=>(hx W hg).lst) hbase hv hbs
theorem all_onto (bs:List Nat) (v rv:Value) (R:List Ro) (w:World) (base:Nat) (hr:MRow w rv R) (hnum:∀ x∈R,NumM x.1) (hn:R.length<=500) (hsmall:(bs++bytesR (R.map (·.1))).length<=550000)
  (hv:OwnB w base v bs) (hbase:base<=w.heap.size) (hK:∀ W,w.grownBy W v.ownBlock->MRow W rv R) :
  Calls Tryz.prog 85 #[v,rv] w (OnPost base v (bs++bytesR (R.map (·.1))) w):=by
 obtain⟨ro,cap,rfl,-,-⟩:=hr.form
 obtain⟨n,hnr⟩:∃ k,k=R.length:=⟨_,rfl⟩
 rw [<-hnr] at hr hn ⊢
 have HR:=hid hr
 have HKP:=hid hK
 rw [<-hnr] at HKP
 have HN:=hid hnr
 have HNU:=hid hnum
 obtain⟨Q,hQ⟩:∃ Q,Q=bs++bytesR (R.map (·.1)):=⟨_,rfl⟩
 rw [<-hQ] at hsmall ⊢
 have HQ:=hid (show Q=(bs++putF n)++(R.map (·.1)).flatMap bytesM from by rw [hQ];unfold bytesR;rw [lm0,<-hnr,List.append_assoc])
 have HP:=hid (put_onto n base v bs w (by omega) hv hbase (by have:=congrArg List.length HQ.out;rw [la0,la0] at this;omega))
 clear hr hnr hnum hQ hK hv
 go_enter Tryz.func85,Tryz.ntmps85
 go_wp2_with fail
 refine HP.out.mono ?_
 rintro e w1 ⟨v1,rfl,ho1,hg1,hl1⟩
 have HO1:=hid ho1
 have HG1:=hid (And.intro hg1 hl1)
 clear ho1 hg1 hl1 HP
 go_wp2_with fail
 go_loopw [0,13] (fun ov iv wr=>∃ k:Nat,k<=n/\iv=.int .i64 k/\Hid (OwnB wr base ov ((bs++putF n)++((R.take k).map (·.1)).flatMap bytesM))/\Hid (w.grownBy wr v.ownBlock/\SpareLoc w v ov)) (fun _ iv _=>n - (intOf iv).toNat)
 case atStart=>exact⟨0,by omega,rfl,hid (by simpa using HO1.out),HG1⟩
 case round=>
  obtain⟨k,hk,rfl,ho,hb⟩:=hrel
  by_cases hlt:k<n
  ·
   have hkr:k<R.length:=by have:=HN.out;omega
   obtain⟨x,hx⟩:∃ x,R[k]?=some x:=⟨_,ge0 hkr⟩
   have hmr:MRow wr (.slice ro n cap) R:=HKP.out wr hb.out.1
   obtain⟨xb,xoff,hao,hat⟩:=hmr.at_ hx
   cases hao
   have hxm:=mg0 hx
   have hov0:=hmr.over x hxm
   obtain⟨xo,xc,xe,-,-⟩:=Over.form hov0
   have HOV:=hid (fun (W:World) (hg:w.grownBy W v.ownBlock)=>(HKP.out W hg).over x hxm)
   have HNX:=hid (HNU.out x hxm)
   have HXE:=hid xe
   obtain⟨bk,hbk⟩:∃ b,b=(bs++putF n)++((R.take k).map (·.1)).flatMap bytesM:=⟨_,rfl⟩
   have HBK:=hid (show (bs++putF n)++((R.take (k+1)).map (·.1)).flatMap bytesM=bk++bytesM x.1 from by
    rw [hbk,List.take_add_one,hx];simp)
   have HBL:=hid (show bk.length<=600000 from by
    have h1:(((R.take k).map (·.1)).flatMap bytesM).length<=((R.map (·.1)).flatMap bytesM).length:=by
     conv=>rhs;rw [<-List.take_append_drop k R]
     rw [List.map_append,fa0,la0]
     omega
    have h2:=congrArg List.length HQ.out
    rw [la0] at h2
    rw [hbk,la0]
    omega)
   rw [<-hbk] at ho
   obtain⟨hbl0,a0,a1,a2,a3,a4,a5,a6,a7,a8,a9⟩:=hat
   rw [xe] at a9
   have j0:(0:Int)<=(k:Int):=by omega
   have j1:(k:Int)<(n:Int):=by omega
   clear hmr hx hxm hov0 xe hbk hkr
   go_upto_region 5 with fail
   obtain⟨W2,hW2⟩:∃ W,W=wr.alloc (.cells #[.int .i64 x.1.table,.int .i64 x.1.kind,.string x.1.key,.string x.1.fin,.string x.1.val,.int .i64 x.1.expiry,.int .i64 x.1.at_.p,.int .i64 x.1.at_.l,.int .i64 x.1.at_.w,.slice xo x.1.over.length xc] 42):=⟨_,rfl⟩
   rw [<-hW2]
   obtain⟨nv,hnv⟩:∃ k,k=wr.heap.size:=⟨_,rfl⟩
   rw [<-hnv]
   have hb2:Below wr.heap.size wr W2:=by rw [hW2];exact (Below.refl _ wr).alloc lr _
   have hbx:W2.heap[nv]?=some (.cells #[.int .i64 x.1.table,.int .i64 x.1.kind,.string x.1.key,.string x.1.fin,.string x.1.val,.int .i64 x.1.expiry,.int .i64 x.1.at_.p,.int .i64 x.1.at_.l,.int .i64 x.1.at_.w,.slice xo x.1.over.length xc] 42 (0,0)):=by rw [hW2,hnv];exact heap_alloc_new wr _
   have HO2:=hid (ho.out.below hb2)
   have HG2:=hid (show w.grownBy W2 v.ownBlock from hb.out.1.andThen (below_grown (row:=none) hb2) (fun j hj=>by cases hj))
   have HL2:=hid hb.out.2
   have m0:W2.cell? ⟨nv,0,none⟩=some (.int .i64 x.1.table):=by rw [cell_of_row W2 nv 0 _ _ (0,0) hbx];rfl
   have m1:W2.cell? ⟨nv,1,none⟩=some (.int .i64 x.1.kind):=by rw [cell_of_row W2 nv 1 _ _ (0,0) hbx];rfl
   have m2:W2.cell? ⟨nv,2,none⟩=some (.string x.1.key):=by rw [cell_of_row W2 nv 2 _ _ (0,0) hbx];rfl
   have m3:W2.cell? ⟨nv,3,none⟩=some (.string x.1.fin):=by rw [cell_of_row W2 nv 3 _ _ (0,0) hbx];rfl
   have m4:W2.cell? ⟨nv,4,none⟩=some (.string x.1.val):=by rw [cell_of_row W2 nv 4 _ _ (0,0) hbx];rfl
   have m5:W2.cell? ⟨nv,5,none⟩=some (.int .i64 x.1.expiry):=by rw [cell_of_row W2 nv 5 _ _ (0,0) hbx];rfl
   have m6:W2.cell? ⟨nv,6,none⟩=some (.int .i64 x.1.at_.p):=by rw [cell_of_row W2 nv 6 _ _ (0,0) hbx];rfl
   have m7:W2.cell? ⟨nv,7,none⟩=some (.int .i64 x.1.at_.l):=by rw [cell_of_row W2 nv 7 _ _ (0,0) hbx];rfl
   have m8:W2.cell? ⟨nv,8,none⟩=some (.int .i64 x.1.at_.w):=by rw [cell_of_row W2 nv 8 _ _ (0,0) hbx];rfl
   have m9:W2.cell? ⟨nv,9,none⟩=some (.slice xo x.1.over.length xc):=by rw [cell_of_row W2 nv 9 _ _ (0,0) hbx];rfl
   have HPU:=hid (put_roK x base W2 _ bk (fun W hg=>HOV.out W (HG2.out.andThen hg (fun j hj=>by rcases HL2.out j hj with h | h;exact Or.inr h;exact Or.inl h))) HNX.out (Nat.le_trans hbase HG2.out.size) HO2.out HBL.out)
   have hpu:=HPU.out
   unfold vM at hpu
   rw [HXE.out] at hpu
   have HPV:=hid hpu
   clear hpu HPU hW2 hb2 hbx hnv a0 a1 a2 a3 a4 a5 a6 a7 a8 a9 ho hb hbl0
   go_wp2_with fail
   refine HPV.out.mono ?_
   rintro e w3 ⟨v3,rfl,ho3,hg3,hl3⟩
   have HO3:=hid (show OwnB w3 base v3 ((bs++putF n)++((R.take (k+1)).map (·.1)).flatMap bytesM) from by rw [HBK.out];exact ho3)
   have HB3:=hid (show w.grownBy w3 v.ownBlock/\SpareLoc w v v3 from ⟨HG2.out.andThen hg3 (fun j hj=>by rcases HL2.out j hj with h | h;exact Or.inr h;exact Or.inl h),fun q hq=>by
    rcases hl3 q hq with h | h
    . exact HL2.out q h
    . exact Or.inr (Nat.le_trans HG2.out.size h)⟩)
   clear ho3 hg3 hl3 m0 m1 m2 m3 m4 m5 m6 m7 m8 m9
   go_wp2_with fail
   go_roundw
   case rel=>exact⟨k+1,by omega,by go_num,HO3,HB3⟩
   case measure=>simp [intOf];omega
  ·
   obtain rfl:k=n:=by omega
   have HO9:=hid (show OwnB wr base _ Q from by
    have h:=ho.out
    rw [List.take_of_length_le (by rw [HN.out];exact Nat.le_refl _),<-HQ.out] at h
    exact h)
   clear ho
   go_wp2_with fail
   go_ret
   exact⟨_,rfl,HO9.out,hb.out.1,hb.out.2⟩
theorem stput_onto {c:Con} {n:Nat} {v b:Value} {bs:List Nat} {w:World} {base:Nat} (hv:IsC c v w) (h:Mut.Good c n) (hn:n<=420) (hbs:bs.length<=100000) (hob:OwnB w base b bs) (hbase:base<=w.heap.size) :
  Calls Tryz.prog 49 #[b,v] w (OnPost base b (bs++bytesR (allF c)) w):=by
 obtain⟨o1,n1,k1,o2,n2,k2,o3,n3,k3,rfl,hlc⟩:=hv.form
 have HG:=hid h
 have HOB:=hid hob
 have hlen:=len_allF c
 have hO:=h.okc.len
 have HLN:=hid (show (allF c).length<=n from by omega)
 have HRT:=hid (show ∀ m∈allF c,rightF m=true from fun m hm=>h.okc.right m (mem_allF.1 hm))
 obtain⟨W,hW⟩:∃ W,W=w.alloc (.cells #[.slice o1 n1 k1,.slice o2 n2 k2,.slice o3 n3 k3] 33):=⟨_,rfl⟩
 have hb:Below w.heap.size w W:=by rw [hW];exact br.alloc lr _
 have hc3:C3 W w.heap.size (.slice o1 n1 k1) (.slice o2 n2 k2) (.slice o3 n3 k3):=by rw [hW];exact C3.new w _ _ _
 have HAL:=hid (c_all (n:=n) (hlc.below hb).is h (by omega))
 have HW:=hid hW
 have HB:=hid hb
 obtain⟨-,s0,s1,s2,-,-,-⟩:=hc3
 clear hv h hob hlen hO hW hb hlc
 go_enter Tryz.func49,Tryz.ntmps49
 go_upto_region 1 with fail
 rw [<-HW.out]
 go_wp2_with fail
 refine HAL.out.mono ?_
 rintro e w1 ⟨g,cap,R,rfl,hcp,hm,hb1⟩
 have HB1:=hid (below_then HB.out lr hb1)
 have hl:R.length<=n:=by have h1:=congrArg List.length hm;rw [lm0] at h1;have:=HLN.out;omega
 have HAA:=hid (all_onto bs b _ R w1 base hcp.mrow (fun x hx=>num_right (HRT.out _ (by rw [<-hm];exact List.mem_map.2 ⟨x,hx,rfl⟩))) (by omega) (by
  rw [hm,la0]
  have h1:=bytesR_len HRT.out (by have:=HLN.out;omega)
  have:=HLN.out
  omega) (HOB.out.below HB1.out) (Nat.le_trans hbase HB1.out.size) (fun W hg=>Copied.mrow ⟨hcp.row.kept hg (rows_apart hcp.row (HOB.out.below HB1.out) (by decide)),fun x hx=>(hcp.over x hx).kept hg (rows_apart (hcp.over x hx) (HOB.out.below HB1.out) (by decide))⟩))
 have HM:=hid hm
 clear hcp hm hb1
 go_wp2_with fail
 refine HAA.out.mono ?_
 rintro e w2 ⟨v2,rfl,ho2,hg2,hl2⟩
 have HO2:=hid (show OwnB w2 base v2 (bs++bytesR (allF c)) from by rw [<-HM.out];exact ho2)
 have HB2:=hid (show w.grownBy w2 b.ownBlock/\SpareLoc w b v2 from ⟨(below_grown (row:=b.ownBlock) HB1.out).andThen hg2 (fun j hj=>Or.inr hj),fun g hg=>by
  rcases hl2 g hg with h | h
  . exact Or.inl h
  . exact Or.inr (Nat.le_trans HB1.out.size h)⟩)
 clear ho2 hg2 hl2
 go_wp2_with fail
 go_ret
 exact⟨_,rfl,HO2.out,HB2.out.1,HB2.out.2⟩
end Go.Proofs.YtpeoonnglnchnaaGreatDoor.Tab
namespace Go.Proofs.YtpeoonnglnchnaaGreatDoor.Tab
open Go.Lib (hid)
open RowKit YtpeoonnglnchnaaGreatDoor.Spare Mut Mrk YtpeoonnglnchnaaGreatDoor.Rd
variable [Inhabited Lim]
theorem drop_leaf {P:List Pg} {k:Nat} {p:Pg} (h:P[k]?=some p):((P.drop k).map (fun p=>p.2.map (·.1))).flatMap leafB=leafB (p.2.map (·.1))++((P.drop (k+1)).map (fun p=>p.2.map (·.1))).flatMap leafB:=by
 obtain⟨hi,he⟩:=gs0.1 h
 rw [dg0 hi,he]
 rfl
theorem tabput_any {c:Con} {n:Nat} {v:Value} {w:World} (hv:IsC c v w) (h:Mut.Good c n) (hn:n<=60) :
  Calls Tryz.prog 9 #[v] w fun e w'=>∃ v',e=.returned v'/\OwnB w' w.heap.size v' (tableB c)/\Below w.heap.size w w':=by
 obtain⟨o1,n1,k1,o2,n2,k2,o3,n3,k3,rfl,hlc⟩:=hv.form
 obtain⟨K,hK⟩:∃ K,K=keysC c:=⟨_,rfl⟩
 obtain⟨RW,hRW⟩:∃ R,R=rowsC c:=⟨_,rfl⟩
 obtain⟨P0,hP0⟩:∃ P,P=pagesF RW:=⟨_,rfl⟩
 obtain⟨N,hN⟩:∃ N,N=sizeC c:=⟨_,rfl⟩
 obtain⟨F,hF⟩:∃ F,F=bitsC c:=⟨_,rfl⟩
 have HEQ:=hid (show tableB c=(putF P0.length++P0.flatMap leafB)++textF (strOf (sieveL F N))++bytesR (allF (wipesC c)) from by unfold tableB;rw [hP0,hRW,hF,hN])
 have HKK:=hid (show K=dupF (RW.map (·.key))/\N=sizeF K.length/\F=ofF (8*N) K from ⟨by rw [hK,hRW];rfl,by rw [hN,hK];rfl,by rw [hF,hN,hK];rfl⟩)
 have HEA:=hid (show ∀ p∈P0,(∀ m∈p,rightF m=true)/\p≠[]/\p.length<=8 from by rw [hP0,hRW];exact pagesC_each h.okc)
 have hpl:(P0.flatMap leafB).length<=66600:=by have:=pagesC_len h.okc;rw [hP0,hRW];omega
 have hrl:RW.length<=n:=by rw [hRW];exact rowsC_len h.okc
 have hp60:P0.length<=60:=by have:=pagesF_len _ RW lr;rw [hP0];omega
 have HRR:=hid (show ∀ m∈RW,rightF m=true from by rw [hRW];exact rowsC_right h.okc)
 have HPF:=hid hP0
 have HRW:=hid hRW
 have HG:=hid h
 have HLC:=hid hlc
 obtain⟨W1,hW1⟩:∃ W,W=w.alloc (.cells #[.slice o1 n1 k1,.slice o2 n2 k2,.slice o3 n3 k3] 33):=⟨_,rfl⟩
 obtain⟨k,hk⟩:∃ k,k=w.heap.size:=⟨_,rfl⟩
 have hb1:Below w.heap.size w W1:=by rw [hW1];exact br.alloc lr _
 have hc3:C3 W1 k (.slice o1 n1 k1) (.slice o2 n2 k2) (.slice o3 n3 k3):=by rw [hW1,hk];exact C3.new w _ _ _
 have HRS:=hid (rows_any _ _ _ c n W1 (hlc.below hb1) h.okc (by omega))
 have HB1:=hid hb1
 have HC3:=hid hc3
 have HW1:=hid hW1
 have HKE:=hid hk
 clear hv h hlc hK hRW hP0 hN hF hb1 hW1 hk
 obtain⟨-,s0,s1,s2,-,-,-⟩:=hc3
 go_enter Tryz.func9,Tryz.ntmps9
 go_upto_region 1 with fail
 rw [<-HW1.out,<-HKE.out]
 go_wp2_with fail
 refine HRS.out.mono ?_
 rintro e w2 ⟨v2,R,rfl,hmap,hmr,hb2⟩
 have HB2:=hid (below_then HB1.out lr hb2)
 have HC2:=hid (HC3.out.below hb2)
 have HMR:=hid hmr
 have HMAP:=hid (show R.map (·.1)=RW from by rw [hmap,HRW.out];rfl)
 have hRl:R.length<=60:=by have:=congrArg List.length HMAP.out;rw [lm0] at this;omega
 have HCU:=hid (cut_any v2 R w2 hmr (fun x hx=>(small_right (HRR.out x.1 (by rw [<-HMAP.out];exact List.mem_map.2 ⟨x,hx,rfl⟩))).over) (by omega))
 clear hmap hmr hb2 s0 s1 s2 HRS HC3
 go_wp2_with fail
 refine HCU.out.mono ?_
 rintro e w3 ⟨v3,P,rfl,hop,hpm,hb3⟩
 have HB3:=hid (below_then HB2.out lr hb3)
 have HC4:=hid (HC2.out.below hb3)
 have HMR3:=hid (HMR.out.below hb3)
 have HPM:=hid (show P.map (fun p=>p.2.map (·.1))=P0 from by rw [hpm,HMAP.out,HPF.out])
 have HPL:=hid (show P.length=P0.length from by rw [<-HPM.out,lm0])
 obtain⟨pn,hpn⟩:∃ q,q=P.length:=⟨_,rfl⟩
 have HPN:=hid hpn
 have hpn60:pn<=60:=by rw [hpn,HPL.out];exact hp60
 obtain⟨oo,oc,rfl⟩:=row_form hop.row
 rw [<-hpn] at hop ⊢
 have HOP:=hid hop
 obtain⟨B,hB⟩:∃ B,B=w3.heap.size:=⟨_,rfl⟩
 have HB:=hid hB
 have HPU:=hid (put_nil w3 pn (by omega))
 obtain⟨T,hT⟩:∃ T,T=putF P0.length++P0.flatMap leafB:=⟨_,rfl⟩
 have hTl:T.length<=67000:=by rw [hT,la0];have:=putF_ten (n:=P0.length) (by omega);omega
 have HT:=hid (show putF pn++((P.drop 0).map (fun p=>p.2.map (·.1))).flatMap leafB=T from by rw [hT,hpn,HPL.out,List.drop_zero,HPM.out])
 rw [<-hT] at HEQ
 clear hop hpm hb3 hpn hB hT HCU HMR HC2
 go_wp2_with fail
 refine HPU.out.mono ?_
 rintro e w4 ⟨v4,rfl,ho4,hb4⟩
 have HO4:=hid (show OwnB w4 B v4 (putF pn) from by rw [HB.out];exact ho4)
 have HB4:=hid (show Below B w3 w4 from by rw [HB.out];exact hb4)
 clear ho4 hb4 HPU
 go_wp2_with fail
 go_loopw [5,17] (fun bv iv wr=>∃ (i:Nat) (cur:List Nat),i<=pn/\iv=.int .i64 i/\cur.length<=67000/\Hid (cur++((P.drop i).map (fun p=>p.2.map (·.1))).flatMap leafB=T)/\Hid (OwnB wr B bv cur)/\Hid (Below B w3 wr)) (fun _ iv _=>pn - (intOf iv).toNat)
 case atStart=>exact⟨0,putF pn,by omega,rfl,by have:=congrArg List.length HT.out;rw [la0] at this;omega,HT,HO4,HB4⟩
 case round=>
  obtain⟨i,cur,hi,rfl,hcl,hcur,ho,hb⟩:=hrel
  by_cases hlt:i<pn
  ·
   have hir:i<P.length:=by have:=HPN.out;omega
   obtain⟨p,hp⟩:∃ p,P[i]?=some p:=⟨_,ge0 hir⟩
   have hpm:=mg0 hp
   have hmem:p.2.map (·.1)∈P0:=by rw [<-HPM.out];exact List.mem_map.2 ⟨p,hpm,rfl⟩
   obtain⟨hrt,hne,h8⟩:=HEA.out _ hmem
   rw [lm0] at h8
   have hcp3:=HOP.out.rows p hpm
   obtain⟨pv,Q⟩:=p
   simp only [] at hmem hrt hne h8 hcp3
   cases Q with
   | nil=>exact absurd rfl hne
   | cons x Q=>
   have hbw:Below w3.heap.size w3 wr:=by rw [<-HB.out];exact hb.out
   obtain⟨po,pc,hpf,-,-⟩:=hcp3.mrow.form
   subst hpf
   obtain⟨xb,xoff,hao,hat⟩:=(hcp3.below hbw).mrow.at_ (show (x::Q)[0]?=some x from rfl)
   cases hao
   have HCP:=hid hcp3
   have HRT:=hid hrt
   obtain⟨Ql,hQl⟩:∃ q,q=(x::Q).length:=⟨_,rfl⟩
   have hstep:=hcur.out
   rw [drop_leaf hp] at hstep
   obtain⟨ky,hky⟩:∃ ky,ky=x.1.key:=⟨_,rfl⟩
   obtain⟨PB,hPB⟩:∃ l,l=pageB ((x::Q).map (·.1)):=⟨_,rfl⟩
   have hfk:leafB ((x::Q).map (·.1))=textF ky++textF (strOf PB):=by rw [hky,hPB];rfl
   have hPBl:PB.length<=8400:=by rw [hPB];have:=pageB_len hrt (by rw [lm0];omega);rw [lm0] at this;omega
   have hPB0:PB≠[]:=by rw [hPB];intro e;unfold pageB at e;exact Rd.putF_ne _ (List.append_eq_nil_iff.1 e).1
   have hkys:ky.size<=24:=by rw [hky];exact (right_sizes (hrt x.1 List.mem_cons_self)).1
   obtain⟨l1,e1⟩:∃ l,l=cur++textF ky:=⟨_,rfl⟩
   obtain⟨l2,e2⟩:∃ l,l=l1++textF (strOf PB):=⟨_,rfl⟩
   have hnext:l2++((P.drop (i+1)).map (fun p=>p.2.map (·.1))).flatMap leafB=T:=by rw [e2,e1,<-hstep];simp only [];rw [hfk];simp [List.append_assoc]
   have y2:l2.length<=67000:=by have:=congrArg List.length hnext;rw [la0] at this;omega
   have y1:l1.length<=67000:=by rw [e2,la0] at y2;omega
   have HOC:=hid (show wr.ownsRow w2.heap.size 22 1 (.slice oo pn oc) pn (P.flatMap enPg) from by have h:=(HOP.out.below hbw).row;rw [<-HPN.out] at h;exact h)
   obtain⟨ob,hob⟩:∃ g,oo=some ⟨g,0,none⟩:=by
    rcases HOC.out.2 with ⟨h1,h0⟩ | ⟨g,cap,cu,h1,_⟩
    . omega
    . injection h1 with h1;exact⟨g,h1⟩
   subst hob
   have c0:wr.cell? ⟨ob,i,none⟩=some (.slice (some ⟨xb,xoff,none⟩) (x::Q).length pc):=by
    have h:=World.ownsRow.cells HOC.out (g:=ob) rfl i (.slice (some ⟨xb,xoff,none⟩) (x::Q).length pc) (by rw [flat_pg,List.getElem?_map,hp];rfl)
    rw [addr_add,Nat.zero_add] at h
    exact h
   have hQ0:0<Ql:=by rw [hQl];simp
   have hQ8:Ql<=8:=by rw [hQl];exact h8
   rw [<-hQl] at c0 HCP
   obtain⟨hxl,a0,a1,a2,-,-,-,-,-,-,-⟩:=hat
   rw [<-hky] at a2
   rw [Nat.zero_mul,Nat.add_zero] at a2
   have HPT:=hid (show ∀ z,Below w3.heap.size w3 z->Calls Tryz.prog 45 #[.slice none 0 0,.slice (some ⟨xb,xoff,none⟩) Ql pc] z fun e w'=>∃ v',e=.returned v'/\OwnB w' z.heap.size v' PB/\Below z.heap.size z w' from fun z hz=>by
    rw [hPB]
    exact pageput_any _ (x::Q) z ((HCP.out.below hz).mrow) (fun y hy=>num_right (HRT.out y.1 (List.mem_map.2 ⟨y,hy,rfl⟩))) (fun y hy=>keyF_well (right_key (HRT.out y.1 (List.mem_map.2 ⟨y,hy,rfl⟩)))) (by rw [<-hQl];omega) (by rw [<-hPB];omega))
   have HOB:=hid ho.out
   have HBW:=hid (show Below B w3 wr from hb.out)
   have E1:=hid e1
   have E2:=hid e2
   have HNX:=hid hnext
   have HPB0:=hid hPB0
   have j0:(0:Int)<=(i:Int):=by omega
   have j1:(i:Int)<(pn:Int):=by omega
   have hbB:B<=wr.heap.size:=by rw [HB.out];exact hbw.size
   clear hir hp hpm hmem hrt hne h8 hcp3 hbw hQl hstep hfk e1 e2 hnext hky hPB ho hb hcur hPB0
   go_wp2_with fail
   refine (by have h:=text_onto ky B _ cur wr (by omega) HOB.out hbB (by omega);rw [<-E1.out] at h;exact h:Calls _ _ _ wr (OnPost B _ l1 wr)).mono ?_
   rintro e w5 ⟨v5,rfl,g1,g2,g3⟩
   have HO5:=hid g1
   have HB5:=hid (show Below B w3 w5 from HBW.out.grown g2 hbB (fun q hq=>(World.ownsRow.lt HOB.out q hq).1))
   clear g1 g2 g3 a0 a1 a2 c0
   have hz5:Below w3.heap.size w3 w5:=by rw [<-HB.out];exact HB5.out
   have HPP:=hid (HPT.out w5 hz5)
   go_wp2_with fail
   refine HPP.out.mono ?_
   rintro e w6 ⟨v6,rfl,g1,g2⟩
   have HB6:=hid (show Below B w3 w6 from HB5.out.trans (g2.mono (by rw [HB.out];exact hz5.size)))
   have HO6:=hid (HO5.out.below g2)
   obtain⟨pg,pcc,rfl,hpc⟩:=own_at0 g1 HPB0.out
   have hcv:=conv_bytes w6 ⟨pg,0,none⟩ PB _ pcc rfl hpc
   obtain⟨nL,hnL⟩:∃ n,n=PB.length:=⟨_,rfl⟩
   rw [<-hnL] at hcv ⊢
   have hbB6:B<=w6.heap.size:=by have:=HB6.out.size;have:=HB.out;omega
   have hss:(strOf PB).size<=8400:=by rw [strOf_size];exact hPBl
   obtain⟨sP,hsP⟩:∃ s,s=strOf PB:=⟨_,rfl⟩
   rw [<-hsP] at hcv hss E2
   clear hnL hsP g1 g2 hpc hz5 HPP HPT
   go_wp2_with fail
   refine (by have h:=text_onto sP B _ l1 w6 (by omega) HO6.out hbB6 (by omega);rw [<-E2.out] at h;exact h:Calls _ _ _ w6 (OnPost B _ l2 w6)).mono ?_
   rintro e w7 ⟨v7,rfl,g1,g2,g3⟩
   have HO7:=hid g1
   have HB7:=hid (show Below B w3 w7 from HB6.out.grown g2 hbB6 (fun q hq=>(World.ownsRow.lt HO6.out q hq).1))
   clear g1 g2 g3 hcv
   go_wp2_with fail
   go_roundw
   case rel=>exact⟨i+1,l2,by omega,by go_num,y2,HNX,HO7,HB7⟩
   case measure=>simp [intOf];omega
  ·
   obtain rfl:i=pn:=by omega
   have HO9:=hid (show OwnB wr B _ T from by
    have h:=hcur.out
    rw [List.drop_of_length_le (by rw [HPN.out];exact Nat.le_refl _)] at h
    simp only [List.map_nil,List.flatMap_nil,List.append_nil] at h
    rw [<-h]
    exact ho.out)
   have HB9:=hid hb.out
   have hb93:Below w3.heap.size w3 wr:=by rw [<-HB.out];exact hb.out
   have HM9:=hid (HMR3.out.below hb93)
   have HC9:=hid (HC4.out.below hb93)
   have hbB:B<=wr.heap.size:=by rw [HB.out];exact hb93.size
   have HKY:=hid (keys_any v2 R wr HM9.out (by omega))
   clear ho hb hcur hb93
   go_wp2_with fail
   refine HKY.out.mono ?_
   rintro e w5 ⟨v5,rfl,ht5,hb5⟩
   have hke:dupF (R.map (·.1.key))=K:=by rw [HKK.out.1,<-HMAP.out,List.map_map];rfl
   rw [hke] at ht5
   have hKl:K.length<=60:=by rw [<-hke];have:=dupF_len (R.map (·.1.key));rw [lm0] at this;omega
   have hKs:∀ k∈K,k.size<=1000000:=fun k hk=>by
    rw [<-hke] at hk
    obtain⟨x,hx,hxk⟩:=List.mem_map.1 (dupF_mem hk)
    rw [<-hxk]
    have:=(right_sizes (HRR.out x.1 (by rw [<-HMAP.out];exact List.mem_map.2 ⟨x,hx,rfl⟩))).1
    omega
   have HO5:=hid (HO9.out.below hb5)
   have HB5:=hid (show Below B w3 w5 from HB9.out.trans (hb5.mono hbB))
   have HSV:=hid (svof_any v5 K w5 ht5.row (by omega) hKs)
   clear hke ht5 hb5 hKs HKY
   go_wp2_with fail
   refine HSV.out.mono ?_
   rintro e w6 ⟨g,rfl,hg,hrow,hb6⟩
   have e6:=HKK.out.2
   rw [<-e6.1,<-e6.2] at hrow
   have hN1:N<=76:=by rw [e6.1];unfold sizeF;omega
   rw [<-e6.1]
   have HO6:=hid (HO5.out.below hb6)
   have HB6:=hid (show Below B w3 w6 from HB5.out.trans (hb6.mono (by have:=HB5.out.size;have:=HB.out;omega)))
   have hbB6:B<=w6.heap.size:=by have:=HB6.out.size;have:=HB.out;omega
   have HSP:=hid (svput_any g N N B F _ T w6 ⟨hrow.lt,fun j hj=>hrow.cell hj⟩ (by omega) HO6.out hbB6 (by omega))
   obtain⟨TS,hTS⟩:∃ l,l=T++textF (strOf (sieveL F N)):=⟨_,rfl⟩
   rw [<-hTS] at HSP HEQ
   have hTSl:TS.length<=68000:=by rw [hTS,la0];have:=textF_len (strOf (sieveL F N)) (by rw [strOf_size,sieveL_len];omega);rw [strOf_size,sieveL_len] at this;omega
   clear e6 hrow hb6 hg HSV hTS
   go_wp2_with fail
   refine HSP.out.mono ?_
   rintro e w7 ⟨v7,rfl,g1,g2,g3⟩
   have HO7:=hid g1
   have HB7:=hid (show Below B w3 w7 from HB6.out.grown g2 hbB6 (fun q hq=>(World.ownsRow.lt HO6.out q hq).1))
   have hb73:Below w3.heap.size w3 w7:=by rw [<-HB.out];exact HB7.out
   have HC7:=hid (HC4.out.below hb73)
   have HW7:=hid (below_then HB3.out lr hb73)
   have hbB7:B<=w7.heap.size:=by have:=HB7.out.size;have:=HB.out;omega
   obtain⟨-,s0,s1,s2,-,-,-⟩:=HC7.out
   have HLW:=hid (HLC.out.below HW7.out)
   have HPS:=hid (stput_onto (c:=wipesC c) (v:=.agg #[.slice none 0 0,.slice o2 n2 k2,.slice none 0 0]) (Lies.is (show Lies w7 (.slice none 0 0) (.slice o2 n2 k2) (.slice none 0 0) (wipesC c) from ⟨(conE_lies w7).1,HLW.out.2,(conE_lies w7).3⟩)) (good_wipes HG.out) (by omega) (by omega) HO7.out hbB7)
   clear g1 g2 g3 hb73 HSP
   go_wp2_with fail
   refine HPS.out.mono ?_
   rintro e w8 ⟨v8,rfl,g1,g2,g3⟩
   have HF:=hid (show OwnB w8 w.heap.size v8 (tableB c) from by rw [HEQ.out];exact own_base g1 (by rw [HB.out];exact HB3.out.size))
   have HB8:=hid (show Below w.heap.size w w8 from HW7.out.grown g2 HW7.out.size (fun q hq=>by have:=(World.ownsRow.lt HO7.out q hq).1;have:=HB.out;have:=HB3.out.size;omega))
   clear g1 g2 g3 s0 s1 s2
   go_wp2_with fail
   go_ret
   exact⟨_,rfl,HF.out,HB8.out⟩
