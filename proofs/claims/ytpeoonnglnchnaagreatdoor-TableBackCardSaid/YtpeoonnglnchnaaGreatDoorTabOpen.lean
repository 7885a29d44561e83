/- TabOpen. -/
import Derived.Test.YtpeoonnglnchnaaGreatDoorPkTabPlain
set_option linter.unusedSectionVars false
set_option linter.unusedSimpArgs false
set_option linter.unusedVariables false
set_option maxHeartbeats 16000000
set_option maxRecDepth 100000
namespace Go.Proofs.YtpeoonnglnchnaaGreatDoor.Tab
open Go.Lib (hid)
open RowKit RegInv YtpeoonnglnchnaaGreatDoor.Ord YtpeoonnglnchnaaGreatDoor.Spare Mut Mrk YtpeoonnglnchnaaGreatDoor.Rd
variable [Inhabited Lim]
theorem conv_strB (w:World) (s:ByteArray) (hs:s.size<=1000000) :
  ∃ cap W' C fz,(convert 9 31 (.string s)).run Tryz.prog w=.ok (.slice (some ⟨w.heap.size,0,none⟩) s.size cap) W'/\BRow W' (.slice (some ⟨w.heap.size,0,none⟩) s.size cap) (strL s)/\Below w.heap.size w W'/\W'.heap[w.heap.size]?=some (.cells C 5 fz):=by
 obtain⟨cap,W',h1,h2,h3,h4⟩:=conv_str w s hs
 have h5:=Lib.run_convert_string_bytes (P:=Tryz.prog) w 9 31 5 s Tryz.underlying9 Tryz.underlying31 Tryz.underlying5
 rw [h5] at h1
 injection h1 with e1 e2
 subst e2
 exact⟨cap,_,_,_,by rw [h5,e1],h2,h3,Lib.bytesWorld_at_new w _ s⟩
def LfB (w:World) (base:Nat) (x:Lf):Prop:=
 ∃ g cap C fz,x.bv=.slice (some ⟨g,0,none⟩) x.bytes.length cap/\base<=g/\w.heap[g]?=some (.cells C 5 fz)/\BRow w x.bv x.bytes
theorem lst_block {α:Type} {sz:Nat} {en:α->List Value} {w w':World} {g o n c:Nat} {l:List α} (h:Lst sz en w (.slice (some ⟨g,o,none⟩) n c) l) (hb:w'.heap[g]?=w.heap[g]?) (hs:w.heap.size<=w'.heap.size):Lst sz en w' (.slice (some ⟨g,o,none⟩) n c) l:=by
 obtain⟨ao,cap,e,h1,h2,h3⟩:=h
 refine⟨ao,cap,e,h1,h2,?_⟩
 rcases h3 with h3 | ⟨b,off,e3,hlt,hc⟩
 . exact Or.inl h3
 ·
  refine Or.inr ⟨b,off,e3,Nat.lt_of_lt_of_le hlt hs,fun i x hx j hj=>?_⟩
  injection e with e _ _
  rw [e3] at e
  injection e with e
  injection e with e _
  subst e
  exact (World.cell?_of_block (a:=⟨g,off+i*sz+j,none⟩) hb).trans (hc i x hx j hj)
theorem LfB.keep {w w':World} {base:Nat} {x:Lf} {row:Option Nat} (h:LfB w base x) (hg:w.grownBy w' row) (hr:∀ k,row=some k->k<base\/∃ C ty fz,w.heap[k]?=some (.cells C ty fz)/\ty≠5):LfB w' base x:=by
 obtain⟨g,cap,C,fz,e,hb,hh,hrow⟩:=h
 have hne:some g≠row:=fun e2=>by
  rcases hr g e2.symm with h1 | ⟨C2,ty,fz2,h1,h2⟩
  . omega
  ·
   rw [hh] at h1
   injection h1 with h1
   injection h1 with _ h1 _
   exact h2 h1.symm
 have hbl:=hg.block g (ag0.1 hh).1 hne
 refine⟨g,cap,C,fz,e,hb,hbl.trans hh,?_⟩
 rw [e] at hrow ⊢
 exact lst_block hrow hbl hg.size
theorem own_type {w:World} {base:Nat} {e:TypeId} {size n:Nat} {v:Value} {xs:List Value} (h:w.ownsRow base e size v n xs):∀ k,v.ownBlock=some k->∃ C ty fz,w.heap[k]?=some (.cells C ty fz)/\ty=e:=by
 intro k hk
 rcases h.2 with ⟨h1,_⟩ | ⟨g,cap,cur,h1,_,h2,_⟩
 . rw [h1] at hk;cases hk
 ·
  rw [h1] at hk
  have hk:g=k:=by simpa [Value.ownBlock] using hk
  subst hk
  exact⟨cur,e,(0,0),h2,rfl⟩
theorem info_L:∃ i:TypeInfo,Tryz.prog.info? 74=some i/\i.zero=some (.agg #[.string ⟨#[]⟩,.slice none 0 0])/\i.size=2/\i.bytes=40:=by
 have h:(Tryz.prog.info? 74).map (fun i=>(i.zero,i.size,i.bytes))=some (some (.agg #[.string ⟨#[]⟩,.slice none 0 0]),2,40):=by kernel_rfl
 cases hq:Tryz.prog.info? 74 with
 | none=>simp [hq] at h
 | some i=>simp [hq] at h;exact⟨i,rfl,h.1,h.2.1,h.2.2⟩
theorem Tbl.make {w w':World} {t:Nat} {a b cc lv wv fv:Value} {k rd:Nat} {P:List (List Mu)} {W:List Mu} {F:Nat->Bool} {N:Nat}
  (h0:w.heap[t]?=some (.cells #[a,b,cc,.int .i64 (k:Nat)] 69 (0,0))) (ha:∃ o n c,a=.slice o n c) (hb:∃ o n c,b=.slice o n c) (hc:∃ o n c,cc=.slice o n c)
  (hl:∃ L:List Lf,Lst 2 enL w lv L/\(∀ x∈L,BRow w x.bv x.bytes)/\L.map (fun x=>(x.first,x.bytes))=P.map (fun p=>(firstK p,pageB p))) (hw:∃ R,MRow w wv R/\R.map (·.1)=W) (hf:∃ g cap,fv=.slice (some ⟨g,0,none⟩) N cap/\BRow w fv (sieveL F N))
  (hg:w.grownBy w' (some t)) (hx:w'.heap[t]?=some (.cells #[lv,wv,fv,.int .i64 (rd:Nat)] 69 (0,0))):Tbl w' t lv wv fv rd P W F N:=by
 obtain⟨L,l1,l2,l3⟩:=hl
 obtain⟨R,r1,r2⟩:=hw
 obtain⟨g,cap,g1,g2⟩:=hf
 obtain⟨o1,n1,c1,rfl⟩:=ha
 obtain⟨o2,n2,c2,rfl⟩:=hb
 obtain⟨o3,n3,c3,rfl⟩:=hc
 have ci:=tblC_int o1 o2 o3 n1 n2 n3 c1 c2 c3 (.int .i64 (k:Nat))
 have hM:∀ (x:Ro) (off:Nat),∃ j,j<10/\(#[Value.slice o1 n1 c1,.slice o2 n2 c2,.slice o3 n3 c3,.int .i64 (k:Nat)]:Array Value)[off+j]?≠(enM x)[j]?:=fun x off=>by
  by_cases e:off=3
  . exact⟨1,by decide,fun h=>by have:=ci (off+1) _ h;omega⟩
  . exact⟨0,by decide,fun h=>e (ci off _ h)⟩
 have hS:∀ (x:Stp) (off:Nat),∃ j,j<3/\(#[Value.slice o1 n1 c1,.slice o2 n2 c2,.slice o3 n3 c3,.int .i64 (k:Nat)]:Array Value)[off+j]?≠(enS x)[j]?:=fun x off=>by
  by_cases e:off=3
  . exact⟨1,by decide,fun h=>by have:=ci (off+1) _ h;omega⟩
  . exact⟨0,by decide,fun h=>e (ci off _ h)⟩
 have hB:∀ (x:Nat) (off:Nat),∃ j,j<1/\(#[Value.slice o1 n1 c1,.slice o2 n2 c2,.slice o3 n3 c3,.int .i64 (k:Nat)]:Array Value)[off+j]?≠(enB x)[j]?:=fun x off=>⟨0,by decide,fun h=>by
  rcases off with _ | _ | _ | _ | off <;> simp at h⟩
 have hL:∀ (x:Lf) (off:Nat),∃ j,j<2/\(#[Value.slice o1 n1 c1,.slice o2 n2 c2,.slice o3 n3 c3,.int .i64 (k:Nat)]:Array Value)[off+j]?≠(enL x)[j]?:=fun x off=>⟨0,by decide,fun h=>by
  rcases off with _ | _ | _ | _ | off <;> simp at h⟩
 exact⟨hx,⟨L,lst_beside l1 hg (lst_off l1 h0 hL),fun x hx=>lst_beside (l2 x hx) hg (lst_off (l2 x hx) h0 hB),l3⟩,⟨R,⟨lst_beside r1.row hg (lst_off r1.row h0 hM),fun x hx=>⟨lst_beside (r1.over x hx).lst hg (lst_off (r1.over x hx).lst h0 hS),(r1.over x hx).zn⟩⟩,r2⟩,g,cap,g1,lst_beside g2 hg (lst_off g2 h0 hB)⟩
theorem BRow.cells {w:World} {ao:Option Addr} {n cap:Nat} {l:List Nat} (h:BRow w (.slice ao n cap) l) (h0:l≠[]):∃ b off,ao=some ⟨b,off,none⟩/\b<w.heap.size/\∀ (j c:Nat),l[j]?=some c->w.cell? ((⟨b,off,none⟩:Addr).add j)=some (.int .u8 (c:Nat)):=by
 obtain⟨b,off,e,hb,-⟩:=Lst.get h (i:=0) (List.length_pos_iff.2 h0)
 refine⟨b,off,e,hb,fun j c hj=>?_⟩
 obtain⟨b',off',e',-,hc⟩:=byte_at h hj
 rw [e] at e'
 cases e'
 rw [addr_add]
 exact hc
theorem leaf_back (pre post:List Nat) {p:List Mu} (h:∀ m∈p,rightF m=true) (h0:p≠[]) (h8:p.length<=8) :
  textS (pre++(leafB p++post)) 24 (pre.length,0)=(firstK p,((pre++textF (firstK p)).length,0))/\textS (pre++(leafB p++post)) 16384 ((pre++textF (firstK p)).length,0)=(strOf (pageB p),((pre++leafB p).length,0)):=by
 have hk:(firstK p).size<=24:=by
  cases p with
  | nil=>exact absurd rfl h0
  | cons m p=>exact (right_sizes (h m List.mem_cons_self)).1
 have hb:=pageB_len h (by omega)
 have e1:pre++(leafB p++post)=pre++(textF (firstK p)++(textF (strOf (pageB p))++post)):=by unfold leafB;simp [List.append_assoc]
 have e2:pre++(leafB p++post)=(pre++textF (firstK p))++(textF (strOf (pageB p))++post):=by rw [e1];simp [List.append_assoc]
 refine⟨?_,?_⟩
 ·
  have:=text_back pre (textF (strOf (pageB p))++post) (firstK p) 24 (by omega) (by omega)
  rw [e1,la0]
  exact this
 ·
  have:=text_back (pre++textF (firstK p)) post (strOf (pageB p)) 16384 (by rw [strOf_size];omega) (by rw [strOf_size];omega)
  rw [e2,this]
  congr 2
  unfold leafB
  simp only [la0]
  omega
theorem tableB_lt (c:Con):∀ x∈tableB c,x<256:=by
 intro x hx
 unfold tableB at hx
 rcases List.mem_append.1 hx with h | h
 ·
  rcases List.mem_append.1 h with h | h
  ·
   rcases List.mem_append.1 h with h | h
   . exact Mrk.putF_lt _ x h
   ·
    obtain⟨p,-,hp⟩:=List.mem_flatMap.1 h
    unfold leafB at hp
    rcases List.mem_append.1 hp with h | h
    . exact textF_byte _ x h
    . exact textF_byte _ x h
  . exact textF_byte _ x h
 . exact bytesR_lt _ x h
def OpenP (c:Con) (w:World) (e:Ending) (w':World):Prop:=
 ∃ t lv wv fv,e=.returned (.tuple #[.pointer (some ⟨t,0,none⟩),.int .i64 0])/\w.heap.size<=t/\Tbl w' t lv wv fv 0 (pagesF (rowsC c)) c.wipes (bitsC c) (sizeC c)/\Below w.heap.size w w'
theorem topen_any (bv:Value) (c:Con) (n0:Nat) (w wb:World) (hv:BRow w bv (tableB c)) (hc:Mut.Good c n0) (hn0:n0<=60) (hT:Tabs wb) (hbw:Below wb.heap.size wb w) :
  Calls Tryz.prog 8 #[bv] w (OpenP c w):=by
 have hlenB:(tableB c).length<=1000000:=by
  have hgw:=good_wipes hc
  have h1:=bytesR_len (l:=allF (wipesC c)) (fun m hm=>hgw.okc.right m (mem_allF.1 hm)) (by have:=len_allF (wipesC c);have:=hgw.okc.len;omega)
  have h2:=len_allF (wipesC c)
  have h3:=hgw.okc.len
  have h4:=pagesC_len hc.okc
  have h5:=pagesF_len _ (rowsC c) lr
  have h6:=rowsC_len hc.okc
  have h7:=putF_ten (n:=(pagesF (rowsC c)).length) (by omega)
  have h8:sizeC c<=65536:=Nat.min_le_right _ _
  have h9:=textF_len (strOf (sieveL (bitsC c) (sizeC c))) (by rw [strOf_size,sieveL_len];omega)
  rw [strOf_size,sieveL_len] at h9
  unfold tableB
  simp only [la0]
  omega
 obtain⟨P,hP⟩:∃ P,P=pagesF (rowsC c):=⟨_,rfl⟩
 obtain⟨F,hF⟩:∃ F,F=bitsC c:=⟨_,rfl⟩
 obtain⟨N,hN⟩:∃ N,N=sizeC c:=⟨_,rfl⟩
 obtain⟨B,hBe⟩:∃ B,B=tableB c:=⟨_,rfl⟩
 obtain⟨rest,hrest⟩:∃ l,l=textF (strOf (sieveL F N))++bytesR (allF (wipesC c)):=⟨_,rfl⟩
 obtain⟨n,hn⟩:∃ n,n=P.length:=⟨_,rfl⟩
 have hgp:GoodP P:=by rw [hP];exact good_pages hc hn0
 have hn60:n<=60:=by rw [hn];exact hgp.many
 have hsplit:B=[]++(putF n++((P.drop 0).flatMap leafB++rest)):=by rw [hBe,hn,hP,hrest,hF,hN];unfold tableB;simp [List.append_assoc]
 have hN1:N<=65536:=by rw [hN];exact Nat.min_le_right _ _
 have hB256:∀ x∈B,x<256:=by rw [hBe];exact tableB_lt c
 rw [<-hBe] at hv hlenB
 have HGP:=hid hgp
 have HGC:=hid hc
 have HPE:=hid (And.intro hP (And.intro hF hN))
 have HBE:=hid (And.intro hBe hrest)
 have HN:=hid hn
 have HB256:=hid hB256
 have HTT:=hid hT
 have HBW:=hid hbw
 have HBV:=hid hv
 have hcb:=count_back [] ((P.drop 0).flatMap leafB++rest) n 400 (by omega) (by omega)
 rw [<-hsplit] at hcb
 simp only [List.length_nil,Nat.zero_add] at hcb
 have HCO:=hid (fun (r:Nat) (w1:World) (h:Rdr w1 r bv B (0,0))=>show Calls Tryz.prog 33 #[pR r,.int .i64 400] w1 (RdP r bv B ((putF n).length,0) (.int .i64 (n:Nat)) w1) from by have h1:=count_any r bv B 400 (0,0) w1 h hB256;rw [hcb] at h1;exact h1)
 have HCU0:=hid (show putF n++((P.drop 0).flatMap leafB++rest)=B from by rw [hsplit];rfl)
 have HTX:=hid (fun (r:Nat) (pre post:List Nat) (p:List Mu) (hp:p∈P) (hq:pre++(leafB p++post)=B) (w1:World)=>show (Rdr w1 r bv B (pre.length,0)->Calls Tryz.prog 34 #[pR r,.int .i64 24] w1 (RdP r bv B ((pre++textF (firstK p)).length,0) (.string (firstK p)) w1))/\(Rdr w1 r bv B ((pre++textF (firstK p)).length,0)->Calls Tryz.prog 34 #[pR r,.int .i64 16384] w1 (RdP r bv B ((pre++leafB p).length,0) (.string (strOf (pageB p))) w1)) from by
  obtain⟨h1,h2⟩:=leaf_back pre post (hgp.right p hp) (hgp.few p hp).1 (hgp.few p hp).2
  rw [hq] at h1 h2
  refine⟨fun h=>?_,fun h=>?_⟩
  ·
   have h3:=text_any r bv B 24 _ w1 h hB256
   rw [h1] at h3
   exact h3
  ·
   have h3:=text_any r bv B 16384 _ w1 h hB256
   rw [h2] at h3
   exact h3)
 have HWY:=hid (fun (r:Nat) (s:S) (w1:World) (h:Rdr w1 r bv B s)=>why_any r bv B s w1 h)
 have HNEW:=hid (new_any bv B w hv (by omega))
 have HVL:=hid (show B≠[]->∀ ad n c,bv=.slice (some ad) n c->ad.block<w.heap.size from fun hb ad n c e=>by
  obtain⟨ao,cap,e1,-,-,h3⟩:=hv
  rcases h3 with h3 | ⟨g,off,e2,hg,_⟩
  . exact absurd (List.eq_nil_of_length_eq_zero h3) hb
  ·
   subst e2
   rw [e] at e1
   cases e1
   exact hg)
 obtain⟨i1,hI1⟩:=info_L
 have HI1:=hid hI1
 obtain⟨bo,bcap,hbf,-,-⟩:=Lst.form hv
 obtain⟨nB,hnB⟩:∃ q,q=B.length:=⟨_,rfl⟩
 rw [<-hnB] at hbf
 subst hbf
 have HNB:=hid hnB
 clear hv hc hP hF hN hBe hrest hn hgp hsplit hB256 hT hbw hcb hI1 hnB
 go_enter Tryz.func8,Tryz.ntmps8
 go_wp2_with fail
 refine HNEW.out.mono ?_
 rintro e w1 ⟨rfl,hr1,hb1⟩
 obtain⟨r,hr⟩:∃ r,r=w.heap.size:=⟨_,rfl⟩
 rw [<-hr] at hr1 ⊢
 have HR1:=hid hr1
 have HB1:=hid hb1
 obtain⟨w2,hw2⟩:∃ z,z=w1.alloc (.cells #[.slice none 0 0,.slice none 0 0,.slice none 0 0,.int .i64 0] 69):=⟨_,rfl⟩
 obtain⟨t,ht⟩:∃ k,k=w1.heap.size:=⟨_,rfl⟩
 have hb2:Below w1.heap.size w1 w2:=by rw [hw2];exact br.alloc lr _
 have HX2:=hid (show w2.heap[t]?=some (.cells #[.slice none 0 0,.slice none 0 0,.slice none 0 0,.int .i64 0] 69 (0,0)) from by rw [hw2,ht];exact heap_alloc_new w1 _)
 have HR2:=hid (hr1.below hb2)
 have HB2:=hid (below_then hb1 lr hb2)
 have hrt:r<t:=by rw [ht];exact hr1.lt
 have hwt:w.heap.size<=t:=by rw [ht];exact hb1.size
 have hs2:w2.heap.size=t+1:=by rw [hw2,ht];simp
 have HRE:=hid hr
 have HW2:=hid hw2
 have HTE:=hid ht
 have HS2:=hid hs2
 clear hr1 hb1 hb2 hw2 ht hr hs2 HNEW
 go_upto_region 3 with fail
 rw [<-HW2.out,<-HTE.out]
 go_wp2_with fail
 refine (HCO.out r w2 HR2.out).mono ?_
 rintro e w3 ⟨rfl,hr3,hg3⟩
 have HR3:=hid hr3
 have HX3:=hid ((hg3.block t (ag0.1 HX2.out).1 (by simp;omega)).trans HX2.out)
 have HB3:=hid (show Below w.heap.size w w3 from HB2.out.grown hg3 HB2.out.size (fun j hj=>by cases hj;rw [HRE.out];exact Nat.le_refl _))
 have hs3:t+1<=w3.heap.size:=by have:=hg3.size;have:=HS2.out;omega
 clear hr3 hg3
 go_wp2_with fail
 go_loopw [18] (fun iv wr=>∃ (i:Nat) (cur:List Nat) (oo:Option Addr) (oc:Nat) (L:List Lf),i<=n/\iv=.int .i64 i/\t+1<=wr.heap.size/\Hid (cur++((P.drop i).flatMap leafB++rest)=B)/\Hid (Rdr wr r (.slice bo nB bcap) B (cur.length,0))/\Hid (wr.heap[t]?=some (.cells #[.slice oo i oc,.slice none 0 0,.slice none 0 0,.int .i64 0] 69 (0,0)))/\Hid (wr.ownsRow (t+1) 74 2 (.slice oo i oc) i (L.flatMap enL))/\Hid (∀ x∈L,LfB wr (t+1) x)/\Hid (L.map (fun x=>(x.first,x.bytes))=(P.take i).map (fun p=>(firstK p,pageB p)))/\Hid (Below w.heap.size w wr)) (fun iv _=>n - (intOf iv).toNat)
 case atStart=>exact⟨0,putF n,none,0,[],by omega,rfl,hs3,HCU0,HR3,HX3,hid (World.ownsRow_nil _ _ _ _),hid (fun x hx=>by cases hx),hid rfl,HB3⟩
 case round=>
  obtain⟨i,cur,oo,oc,L,hi,rfl,hsz,hcu,hR,hX,hO,hL,hM,hB⟩:=hrel
  by_cases hlt:i<n
  ·
   have hip:i<P.length:=by have:=HN.out;omega
   obtain⟨p,hp⟩:∃ p,P[i]?=some p:=⟨_,ge0 hip⟩
   have hpm:=mg0 hp
   have hdl:P.drop i=p::P.drop (i+1):=by
    obtain⟨h1,h2⟩:=gs0.1 hp
    rw [dg0 h1,h2]
   have hq:cur++(leafB p++((P.drop (i+1)).flatMap leafB++rest))=B:=by
    rw [<-hcu.out,hdl,List.flatMap_cons];simp [List.append_assoc]
   have HCN:=hid (show (cur++leafB p)++((P.drop (i+1)).flatMap leafB++rest)=B from by rw [<-hq];simp [List.append_assoc])
   have HT1:=hid (fun w1=>(HTX.out r cur _ p hpm hq w1).1)
   have HT2:=hid (fun w1=>(HTX.out r cur _ p hpm hq w1).2)
   have HMN:=hid (show (P.take (i+1)).map (fun p=>(firstK p,pageB p))=(P.take i).map (fun p=>(firstK p,pageB p))++[(firstK p,pageB p)] from by rw [List.take_add_one,hp];simp)
   have hpb:=pageB_len (HGP.out.right p hpm) (by have:=(HGP.out.few p hpm).2;omega)
   have hp8:=(HGP.out.few p hpm).2
   have HPB:=hid (pageB_lt p)
   obtain⟨fk,hfk⟩:∃ s,s=firstK p:=⟨_,rfl⟩
   obtain⟨sp,hsp⟩:∃ s,s=strOf (pageB p):=⟨_,rfl⟩
   have hsps:sp.size<=8400:=by rw [hsp,strOf_size];omega
   have HSL:=hid (show strL sp=pageB p from by rw [hsp];exact strL_of _ (pageB_lt p))
   rw [<-hfk] at HT1 HT2 HMN
   rw [<-hsp] at HT2
   obtain⟨p1,hp1⟩:∃ l,l=cur++textF fk:=⟨_,rfl⟩
   obtain⟨p2,hp2⟩:∃ l,l=cur++leafB p:=⟨_,rfl⟩
   rw [<-hp1] at HT1 HT2
   rw [<-hp2] at HT2 HCN
   have htl:=(ag0.1 hX.out).1
   clear hip hp hpm hdl hq hfk hsp hp1 hp2 hpb hcu
   go_wp2_with fail
   refine (HT1.out wr hR.out).mono ?_
   rintro e w5 ⟨rfl,hr5,hg5⟩
   have HR5:=hid hr5
   have HG5:=hid hg5
   clear hr5 hg5
   go_wp2_with fail
   refine (HT2.out w5 HR5.out).mono ?_
   rintro e w6 ⟨rfl,hr6,hg6⟩
   have HG6:=hid (show wr.grownBy w6 (some r) from HG5.out.andThen hg6 (fun j hj=>Or.inr hj))
   have HR6:=hid hr6
   clear hr6 hg6
   go_wp2_with fail
   refine (HWY.out r _ w6 HR6.out).mono ?_
   rintro e w7 ⟨rfl,h1⟩
   subst h1
   have hx6:=(HG6.out.block t htl (by simp;omega)).trans hX.out
   have HO6:=hid (hO.out.kept HG6.out (own_ne hO.out (by omega)))
   have HL6:=hid (fun x (hx:x∈L)=>(hL.out x hx).keep HG6.out (fun k hk=>by cases hk;exact Or.inl (by omega)))
   have HB6:=hid (show Below w.heap.size w w6 from hB.out.grown HG6.out hB.out.size (fun j hj=>by cases hj;rw [HRE.out];exact Nat.le_refl _))
   have hsz6:t+1<=w6.heap.size:=Nat.le_trans hsz HG6.out.size
   obtain⟨cap,w7,C7,fz7,hcv,hrow,hb7,hg7⟩:=conv_strB w6 sp (by omega)
   obtain⟨g,hg⟩:∃ g,g=w6.heap.size:=⟨_,rfl⟩
   rw [<-hg] at hcv hrow hg7
   obtain⟨sn,hsn⟩:∃ q,q=sp.size:=⟨_,rfl⟩
   rw [<-hsn] at hcv hrow
   have hx7:=(hb7.block t (ag0.1 hx6).1).trans hx6
   have c0:w6.cell? ⟨t,0,none⟩=some (.slice oo i oc):=by rw [cell_of_row w6 t 0 _ _ (0,0) hx6];rfl
   obtain⟨y,hy⟩:∃ y:Lf,y=⟨fk,.slice (some ⟨g,0,none⟩) sn cap,pageB p⟩:=⟨_,rfl⟩
   have hey:enL y=[.string fk,.slice (some ⟨g,0,none⟩) sn cap]:=by rw [hy]
   have HY:=hid (show LfB w7 (t+1) y from by
    rw [hy]
    refine⟨g,cap,C7,fz7,?_,by omega,hg7,?_⟩
    ·
     show Value.slice _ sn cap=.slice _ (pageB p).length cap
     rw [<-HSL.out,strL_len,<-hsn]
    ·
     show BRow w7 _ (pageB p)
     rw [<-HSL.out];exact hrow)
   have HY2:=hid (show (y.first,y.bytes)=(fk,pageB p) from by rw [hy])
   have HO7:=hid (row_below HO6.out hb7)
   have HL7:=hid (fun x (hx:x∈L)=>(HL6.out x hx).keep (below_grown (row:=none) hb7) (fun k hk=>by cases hk))
   have HR7:=hid (HR6.out.below hb7)
   have HB7:=hid (below_then HB6.out lr hb7)
   have hsz7:t+1<=w7.heap.size:=Nat.le_trans hsz6 hb7.size
   have HX7:=hid hx7
   have HNEWL:Hid (∀ j u,(enL y)[j]?=some u->(w7.alloc (.cells #[.string fk,.slice (some ⟨g,0,none⟩) sn cap] 74)).cell? ((⟨w7.heap.size,0,none⟩:Addr).add j)=some u):=hid (by rw [hey];exact new_cells _ _ _)
   have HONE:Hid (∀ u∈enL y,u.oneCell'=true):=hid (by rw [hey];intro u hu;simp at hu;rcases hu with rfl | rfl <;> rfl)
   have HEY:=hid hey
   clear hx6 hrow hb7 hg7 hg hsn hx7 hy hey hR hX hO hL hB HG5 HG6 HL6 htl
   go_wp2_with (at_builtin;refine wpList_append_own_loc rfl _ _ 65 rfl (t+1) 74 i1 (.agg #[.string ⟨#[]⟩,.slice none 0 0]) [.string ⟨#[]⟩,.slice none 0 0] 40 Tryz.underlying65 HI1.out.1 HI1.out.2.1 rfl HI1.out.2.2.1 HI1.out.2.2.2 (by decide) (.slice oo i oc) i (L.flatMap enL) rfl (row_below HO7.out (br.alloc lr _)) ⟨_,0,none⟩ 1 1 (enL y) rfl (by decide) rfl HNEWL.out HONE.out (by unfold maxLen;omega) (by omega) (by simp;omega) ?_)
   intro v1 w8 q1 q2 q3
   obtain⟨o3,c3,rfl⟩:=row_form q1
   have hba:Below w7.heap.size w7 (w7.alloc (.cells #[.string fk,.slice (some ⟨g,0,none⟩) sn cap] 74)):=br.alloc lr _
   have hcr:=row_below HO7.out hba
   have hlt8:=fun q (hq:(Value.slice oo i oc).ownBlock=some q)=>World.ownsRow.lt hcr q hq
   have hx8:w8.heap[t]?=some (.cells #[.slice oo i oc,.slice none 0 0,.slice none 0 0,.int .i64 0] 69 (0,0)):=by
    have h1:=(hba.block t (ag0.1 HX7.out).1).trans HX7.out
    exact (q2.block t (ag0.1 h1).1 (fun e=>by have:=(hlt8 t e.symm).1;omega)).trans h1
   have d0:w8.cell? ⟨t,0,none⟩=some (.slice oo i oc):=by rw [cell_of_row w8 t 0 _ _ (0,0) hx8];rfl
   have f0:w8.frozen? ⟨t,0,none⟩=false:=frozen_of_row w8 t 0 _ _ hx8
   have hg9:=grown_cell w8 t 0 (.slice o3 (i+1) c3)
   have HX9:=hid (show (w8.setCell ⟨t,0,none⟩ (.slice o3 (i+1) c3)).heap[t]?=some (.cells #[.slice o3 (i+1) c3,.slice none 0 0,.slice none 0 0,.int .i64 0] 69 (0,0)) from heap_setCell_same w8 t 0 _ _ _ hx8)
   have HO9:=hid (show (w8.setCell ⟨t,0,none⟩ (.slice o3 (i+1) c3)).ownsRow (t+1) 74 2 (.slice o3 (i+1) c3) (i+1) ((L++[y]).flatMap enL) from by
    have h1:w8.ownsRow (t+1) 74 2 (.slice o3 (i+1) c3) (i+1) ((L++[y]).flatMap enL):=by rw [fa0,List.flatMap_singleton];exact q1
    exact h1.kept hg9 (own_ne h1 (by omega)))
   have HL9:=hid (show ∀ x∈L++[y],LfB (w8.setCell ⟨t,0,none⟩ (.slice o3 (i+1) c3)) (t+1) x from fun x hx=>by
    have h1:LfB w7 (t+1) x:=by
     rcases List.mem_append.1 hx with h1 | h1
     . exact HL7.out x h1
     . rw [List.mem_singleton.1 h1];exact HY.out
    have h2:=h1.keep (below_grown (row:=none) hba) (fun k hk=>by cases hk)
    have h3:=h2.keep q2 (fun k hk=>by
     obtain⟨C,ty,fz,e1,e2⟩:=own_type hcr k hk
     exact Or.inr ⟨C,ty,fz,e1,by rw [e2];decide⟩)
    exact h3.keep hg9 (fun k hk=>by cases hk;exact Or.inl (by omega)))
   have HR9:=hid (show Rdr (w8.setCell ⟨t,0,none⟩ (.slice o3 (i+1) c3)) r (.slice bo nB bcap) B (p2.length,0) from by
    have h1:=(HR7.out.below hba).aside q2 (fun j hj=>by have:=(hlt8 j hj).1;omega) (fun j hj hb ad n c e=>by have h1:=HVL.out hb ad n c e;have h2:=(hlt8 j hj).1;omega)
    exact h1.aside hg9 (fun j hj=>by cases hj;omega) (fun j hj hb ad n c e=>by cases hj;have h1:=HVL.out hb ad n c e;omega))
   have HM9:=hid (show (L++[y]).map (fun x=>(x.first,x.bytes))=(P.take (i+1)).map (fun p=>(firstK p,pageB p)) from by rw [HMN.out,List.map_append,hM.out,List.map_singleton,HY2.out])
   have HB9:=hid (show Below w.heap.size w (w8.setCell ⟨t,0,none⟩ (.slice o3 (i+1) c3)) from by
    have h1:=below_then HB7.out lr hba
    have h2:=h1.grown q2 h1.size (fun j hj=>by have:=(hlt8 j hj).1;omega)
    exact h2.grown hg9 h2.size (fun j hj=>by cases hj;exact hwt))
   have hsz9:t+1<=(w8.setCell ⟨t,0,none⟩ (.slice o3 (i+1) c3)).heap.size:=by
    have h1:=hba.size
    have h2:=q2.size
    have h3:=hg9.size
    omega
   clear q1 q2 q3 hba hcr hlt8 hx8 hg9 c0 hcv
   go_wp2_with fail
   go_roundw
   case rel=>exact⟨i+1,p2,o3,c3,L++[y],by omega,by go_num,hsz9,HCN,HR9,HX9,HO9,HL9,HM9,HB9⟩
   case measure=>simp [intOf];omega
  ·
   obtain rfl:i=n:=by omega
   have hrs:=HBE.out.2
   have hcu2:cur++(textF (strOf (sieveL F N))++bytesR (allF (wipesC c)))=B:=by
    have h:=hcu.out
    rw [List.drop_of_length_le (by rw [HN.out];exact Nat.le_refl _),hrs] at h
    simpa using h
   have htx:=text_back cur (bytesR (allF (wipesC c))) (strOf (sieveL F N)) 65536 (by rw [strOf_size,sieveL_len];omega) (by rw [strOf_size,sieveL_len];omega)
   rw [hcu2] at htx
   obtain⟨sF,hsF⟩:∃ s,s=strOf (sieveL F N):=⟨_,rfl⟩
   have HSF:=hid (show strL sF=sieveL F N/\sF.size=N from by rw [hsF];exact⟨strL_of _ (sieveL_lt F N),by rw [strOf_size,sieveL_len]⟩)
   obtain⟨q,hq⟩:∃ q,q=cur.length+(textF sF).length:=⟨_,rfl⟩
   rw [<-hsF,<-hq] at htx
   have hgc:getCs B (q,0)=(wipesC c,(B.length,0)):=by
    have h:=getCs_back ((good_wipes HGC.out).more (show n0<=400 by omega)) lr (cur++textF sF) []
    have e1:(cur++textF sF)++(bytesR (allF (wipesC c))++[])=B:=by rw [<-hcu2,hsF];simp [List.append_assoc]
    have e2:(cur++textF sF).length=q:=by rw [la0,hq]
    rw [e1,e2] at h
    rw [h]
    have e3:q+(bytesR (allF (wipesC c))).length=B.length:=by rw [hq,<-hcu2,hsF];simp only [la0];omega
    rw [e3]
   have HSV:=hid (svget_any r _ B (cur.length,0) q sF wr hR.out HB256.out htx (by rw [HSF.out.2];omega))
   have HLM:=hid (show L.map (fun x=>(x.first,x.bytes))=P.map (fun p=>(firstK p,pageB p)) from by rw [hM.out,List.take_of_length_le (by rw [HN.out];exact Nat.le_refl _)])
   have htl:=(ag0.1 hX.out).1
   clear hrs hcu2 htx hsF hq hcu hM
   go_wp2_with fail
   refine HSV.out.mono ?_
   rintro e w4 ⟨g,fcap,rfl,hgl,hgl2,hrow,hr4,hg4⟩
   rw [HSF.out.1] at hrow
   rw [HSF.out.2] at hrow ⊢
   have hx4:=(hg4.block t htl (by simp;omega)).trans hX.out
   have d2:w4.cell? ⟨t,2,none⟩=some (.slice none 0 0):=by rw [cell_of_row w4 t 2 _ _ (0,0) hx4];rfl
   have f2:w4.frozen? ⟨t,2,none⟩=false:=frozen_of_row w4 t 2 _ _ hx4
   obtain⟨w5,hw5⟩:∃ z,z=w4.setCell ⟨t,2,none⟩ (.slice (some ⟨g,0,none⟩) N fcap):=⟨_,rfl⟩
   have hg5:w4.grownBy w5 (some t):=by rw [hw5];exact grown_cell w4 t 2 _
   have HX5:=hid (show w5.heap[t]?=some (.cells #[.slice oo i oc,.slice none 0 0,.slice (some ⟨g,0,none⟩) N fcap,.int .i64 0] 69 (0,0)) from by rw [hw5];exact heap_setCell_same w4 t 2 _ _ _ hx4)
   have hgt:t+1<=g:=Nat.le_trans hsz hgl
   have HF5:=hid (show BRow w5 (.slice (some ⟨g,0,none⟩) N fcap) (sieveL F N) from lst_block hrow (hg5.block g hgl2 (by simp;omega)) hg5.size)
   have HR5:=hid (show Rdr w5 r (.slice bo nB bcap) B (q,0) from hr4.aside hg5 (fun j hj=>by cases hj;omega) (fun j hj hb ad n c e=>by cases hj;have h1:=HVL.out hb ad n c e;omega))
   have HO5:=hid ((hO.out.kept hg4 (own_ne hO.out (by omega))).kept hg5 (own_ne (hO.out.kept hg4 (own_ne hO.out (by omega))) (by omega)))
   have HL5:=hid (fun x (hx:x∈L)=>((hL.out x hx).keep hg4 (fun k hk=>by cases hk;exact Or.inl (by omega))).keep hg5 (fun k hk=>by cases hk;exact Or.inl (by omega)))
   have HB5:=hid (show Below w.heap.size w w5 from by
    have h1:=hB.out.grown hg4 hB.out.size (fun j hj=>by cases hj;rw [HRE.out];exact Nat.le_refl _)
    exact h1.grown hg5 h1.size (fun j hj=>by cases hj;exact hwt))
   have hg5s:g<w5.heap.size:=Nat.lt_of_lt_of_le hgl2 hg5.size
   have hgw5:=below_then HBW.out lr (HB5.out.mono lr)
   have hrb:wb.heap.size<=r:=by rw [HRE.out];exact HBW.out.size
   have HSG:=hid (show Calls Tryz.prog 37 #[pR r] w5 (GetP r (.slice bo nB bcap) B (wipesC c,(B.length,0)) w5) from by
    have h:=stgetS_any r _ B (q,0) w5 wb HR5.out HB256.out HTT.out hgw5 hrb
    rw [hgc] at h
    exact h)
   have HW5:=hid hw5
   clear hgl hgl2 hrow hr4 hg4 hx4 hg5 hgw5 hw5 hgc hR hX hO hL hB htl HSV
   go_wp2_with fail
   rw [<-HW5.out]
   clear HW5 d2 f2
   refine HSG.out.mono ?_
   rintro e w6 ⟨cv,rfl,hic,hr6,hg6⟩
   obtain⟨a1,m1,b1,a2,m2,b2,a3,m3,b3,rfl,hlw⟩:=hic.form
   obtain⟨w7,hw7⟩:∃ z,z=w6.alloc (.cells #[.slice a1 m1 b1,.slice a2 m2 b2,.slice a3 m3 b3] 33):=⟨_,rfl⟩
   obtain⟨k8,hk8⟩:∃ k,k=w6.heap.size:=⟨_,rfl⟩
   have hb7:Below w6.heap.size w6 w7:=by rw [hw7];exact br.alloc lr _
   have HZ7:=hid (show C3 w7 k8 (.slice a1 m1 b1) (.slice a2 m2 b2) (.slice a3 m3 b3) from by rw [hw7,hk8];exact C3.new w6 _ _ _)
   have htl5:=(ag0.1 HX5.out).1
   have HX7:=hid ((hb7.block t (Nat.lt_of_lt_of_le htl5 hg6.size)).trans ((hg6.block t htl5 (by simp;omega)).trans HX5.out))
   have HF7:=hid (show BRow w7 (.slice (some ⟨g,0,none⟩) N fcap) (sieveL F N) from Lst.below (lst_block HF5.out (hg6.block g hg5s (by simp;omega)) hg6.size) hb7)
   have HO7:=hid (row_below (HO5.out.kept hg6 (own_ne HO5.out (by omega))) hb7)
   have HL7:=hid (fun x (hx:x∈L)=>((HL5.out x hx).keep hg6 (fun k hk=>by cases hk;exact Or.inl (by omega))).keep (below_grown (row:=none) hb7) (fun k hk=>by cases hk))
   have HB7:=hid (show Below w.heap.size w w7 from below_then (HB5.out.grown hg6 HB5.out.size (fun j hj=>by cases hj;rw [HRE.out];exact Nat.le_refl _)) lr hb7)
   have HWP7:=hid (hlw.below hb7).2
   have HEN:=hid (end_any r _ B w7 (hr6.below hb7))
   have HW7:=hid hw7
   have HK8:=hid hk8
   have hk8t:t<k8:=by rw [hk8];exact Nat.lt_of_lt_of_le htl5 hg6.size
   clear hic hr6 hg6 hlw hw7 hk8 hb7 htl5 HR5 HSG
   go_upto_region 13 with fail
   rw [<-HW7.out,<-HK8.out]
   go_wp2_with fail
   refine HEN.out.mono ?_
   rintro e w8 ⟨rfl,hb8⟩
   have HZ8:=hid (HZ7.out.below hb8)
   have hx8:=(hb8.block t (ag0.1 HX7.out).1).trans HX7.out
   have HB8:=hid (below_then HB7.out lr hb8)
   obtain⟨-,z0,z1,z2,-,-,-⟩:=HZ8.out
   have d1:w8.cell? ⟨t,1,none⟩=some (.slice none 0 0):=by rw [cell_of_row w8 t 1 _ _ (0,0) hx8];rfl
   have f1:w8.frozen? ⟨t,1,none⟩=false:=frozen_of_row w8 t 1 _ _ hx8
   obtain⟨w9,hw9⟩:∃ z,z=w8.setCell ⟨t,1,none⟩ (.slice a2 m2 b2):=⟨_,rfl⟩
   have hg9:w8.grownBy w9 (some t):=by rw [hw9];exact grown_cell w8 t 1 _
   have hx9:w9.heap[t]?=some (.cells #[.slice oo i oc,.slice a2 m2 b2,.slice (some ⟨g,0,none⟩) N fcap,.int .i64 ((0:Nat):Int)] 69 (0,0)):=by rw [hw9];exact heap_setCell_same w8 t 1 _ _ _ hx8
   have HT9:=hid (show Tbl w9 t (.slice oo i oc) (.slice a2 m2 b2) (.slice (some ⟨g,0,none⟩) N fcap) 0 P c.wipes F N from by
    obtain⟨RW,rw1,rw2⟩:=HWP7.out
    refine Tbl.make (k:=0) hx8 ⟨_,_,_,rfl⟩ ⟨_,_,_,rfl⟩ ⟨_,_,_,rfl⟩ ⟨L,?_,fun x hx=>?_,HLM.out⟩ ⟨RW,rw2.below hb8,rw1⟩ ⟨g,fcap,rfl,Lst.below HF7.out hb8⟩ hg9 hx9
    ·
     have hll:L.length=i:=by have:=congrArg List.length HLM.out;rw [lm0,lm0] at this;rw [this,HN.out]
     have h1:=row_below HO7.out hb8
     rw [<-hll] at h1 ⊢
     exact Lst.owned (fun _=>rfl) (by decide) rfl h1
    ·
     obtain⟨_,_,_,_,_,_,_,h1⟩:=HL7.out x hx
     exact Lst.below h1 hb8)
   have HB9:=hid (show Below w.heap.size w w9 from HB8.out.grown hg9 HB8.out.size (fun j hj=>by cases hj;exact hwt))
   have HW9:=hid hw9
   have hwr:=HGC.out.okc
   have HAL:=hid (tall_any t _ _ _ 0 P c.wipes F N w9 wb HT9.out HTT.out (below_then HBW.out lr HB9.out) (by have:=HBW.out.size;omega) HGP.out (fun m hm=>hwr.right m (Con.mem_all.2 (Or.inr (Or.inl hm)))) (by have:=hwr.lens.2.1;omega) (by omega))
   clear hb8 hx8 hw9 hg9 hx9 hwr HX5 HF5 HO5 HL5 HB5 HX7 HF7 HO7 HL7 HB7 HWP7 HZ7 HEN
   go_wp2_with fail
   rw [<-HW9.out]
   clear HW9 d1 f1 z0 z1 z2 HZ8
   refine HAL.out.mono ?_
   rintro e wa ⟨av,rfl,hia,hta,hga⟩
   rw [show conP P c.wipes=c from by rw [HPE.out.1];exact conP_pages HGC.out] at hia
   obtain⟨o1,n1,k1,o2,n2,k2,o3,n3,k3,rfl,hla⟩:=hia.form
   obtain⟨WR,hWR⟩:∃ z,z=wa.alloc (.cells #[.slice o1 n1 k1,.slice o2 n2 k2,.slice o3 n3 k3] 33):=⟨_,rfl⟩
   obtain⟨k4,hk4⟩:∃ k,k=wa.heap.size:=⟨_,rfl⟩
   have hbR:Below wa.heap.size wa WR:=by rw [hWR];exact br.alloc lr _
   have HBX:=hid (show C3 WR k4 (.slice o1 n1 k1) (.slice o2 n2 k2) (.slice o3 n3 k3) from by rw [hWR,hk4];exact C3.new wa _ _ _)
   have HIC:=hid (show IsC c (.agg #[.slice o1 n1 k1,.slice o2 n2 k2,.slice o3 n3 k3]) WR from (hla.below hbR).is)
   have HTR:=hid (hta.below hbR)
   have HBR:=hid (show Below w.heap.size w WR from below_then (HB9.out.grown hga HB9.out.size (fun j hj=>by cases hj;exact hwt)) lr hbR)
   have HBVR:=hid (Lst.below HBV.out HBR.out)
   obtain⟨sB,hsB⟩:∃ s,s=strOf B:=⟨_,rfl⟩
   have HSB:=hid hsB
   have HBN:=hid (show B≠[] from fun e=>by
    have h:=HBE.out.1
    rw [e] at h
    unfold tableB at h
    have h2:=congrArg List.length h
    have h3:=List.length_pos_iff.2 (bytesR_ne (allF (wipesC c)))
    simp only [la0,List.length_nil] at h2
    omega)
   have HGO:=HGC
   have HPU:=hid (show ∀ W,Below WR.heap.size WR W->Calls Tryz.prog 9 #[.agg #[.slice o1 n1 k1,.slice o2 n2 k2,.slice o3 n3 k3]] W fun e w'=>∃ v',e=.returned v'/\OwnB w' W.heap.size v' B/\Below W.heap.size W w' from fun W hb=>by
    rw [HBE.out.1]
    exact tabput_any (HIC.out.below hb) HGO.out hn0)
   have HTW:=hid (show ∀ W,Below WR.heap.size WR W->Tabs W from fun W hb=>HTT.out.below (below_then HBW.out lr (below_then HBR.out lr hb)))
   have HJO:=hid (show ∀ W,Below WR.heap.size WR W->Calls Tryz.prog 40 #[.agg #[.slice none 0 0,.slice none 0 0,.slice none 0 0],.agg #[.slice o1 n1 k1,.slice o2 n2 k2,.slice o3 n3 k3]] W (RetC c W) from fun W hb=>by
    have hz:IsC conE (.agg #[.slice none 0 0,.slice none 0 0,.slice none 0 0]) W:=(conE_lies W).is
    have hzg:Mut.Good conE 0:=by
     have h1:=Mut.leftOf_good []
     have e:Mut.leftOf []=conE:=by
      have h2:=h1.okc.len
      unfold Con.all at h2
      simp only [la0,List.length_nil] at h2
      unfold conE
      have f1:=List.eq_nil_of_length_eq_zero (show (Mut.leftOf []).cells.length=0 by omega)
      have f2:=List.eq_nil_of_length_eq_zero (show (Mut.leftOf []).wipes.length=0 by omega)
      have f3:=List.eq_nil_of_length_eq_zero (show (Mut.leftOf []).sibs.length=0 by omega)
      cases h3:Mut.leftOf [] with
      | mk a b d=>rw [h3] at f1 f2 f3;simp only at f1 f2 f3;rw [f1,f2,f3]
     rw [e] at h1
     exact h1
    have h:=c_join (HTW.out W hb) hz hzg (HIC.out.below hb) HGO.out (by omega)
    have e:joinC conE c=c:=by unfold joinC;exact HGO.out.left
    rw [e] at h
    exact h)
   have HSM:=hid (show ∀ W v2,Below WR.heap.size WR W->IsC c v2 W->Calls Tryz.prog 39 #[.agg #[.slice o1 n1 k1,.slice o2 n2 k2,.slice o3 n3 k3],v2] W (RetB true W) from fun W v2 hb hv2=>c_same true (by simp) (HIC.out.below hb) HGO.out hv2 HGO.out (by omega) (by omega))
   have HWR:=hid hWR
   have HK4:=hid hk4
   clear hia hta hga hla hWR hk4 hbR hsB
   go_upto_region 20 with fail
   rw [<-HWR.out,<-HK4.out]
   clear HWR HK4
   refine wp_region_told [] 13 [false,false,false,false,false,false,false,false,false,false,false,false,false,false,false,false,false,false,false,false,false,false,false,false,false,false,false,false,false,false,false,false,false,false,false,false,false,false,false,false,false,false,false,false,false,false,false,false,false,false,false,false,false,false,false,false,false,false,false,false,false,false,false,false,false,false,false,false,true,true,true,true,true,true,true,true,true,true,true,true,true,false,false,false,false,false]
    [sLit (.agg #[.slice o1 n1 k1,.slice o2 n2 k2,.slice o3 n3 k3]),
  sOne (fun v1 W=>OwnB W WR.heap.size v1 B) (fun _ _ _ h hb=>h.below hb),
  sLit (.string sB),
  sLit (.slice bo nB bcap),
  sLit (.string sB),
  sLit (.bool false),
  sLit (.bool false),
  sLit (.agg #[.slice o1 n1 k1,.slice o2 n2 k2,.slice o3 n3 k3]),
  sLit (.agg #[.slice none 0 0,.slice none 0 0,.slice none 0 0]),
  sLit (.agg #[.slice o1 n1 k1,.slice o2 n2 k2,.slice o3 n3 k3]),
  sOne (fun v1 W=>IsC c v1 W) (fun _ _ _ h hb=>h.below hb),
  sLit (.bool true),
  sLit (.bool false)] (by kernel_rfl) (by kernel_rfl) (by kernel_rfl) (fun F hF=>?_)
   simp only [over,overL,Nat.reduceAdd] at hF
   obtain rfl:=funext hF
   clear hF
   refine⟨⟨?_,?_,?_,?_,?_,?_,?_,?_,?_,?_,?_,?_,?_,trivial⟩,?_⟩
   ·
    intro V W hb hd K hK _
    clear hd
    obtain⟨-,s0,s1,s2,-,-,-⟩:=(HBX.out.below hb)
    go_wp2_with fail
    exact hK _ _ rfl br rfl trivial
   ·
    intro V W hb hd K hK _
    have h0:(V 68)=.agg #[.slice o1 n1 k1,.slice o2 n2 k2,.slice o3 n3 k3]:=hd 0 (by kernel_rfl)
    clear hd
    have hbw:WR.heap.size<=W.heap.size:=hb.size
    have HCC:=hid hb
    clear hb
    go_wp2_with fail
    refine (HPU.out W HCC.out).mono ?_
    rintro e w1 ⟨v1,rfl,g1,g2⟩
    obtain⟨vo1,vc1,rfl⟩:=g1.form
    go_wp2_with fail
    refine hK _ _ ?_ ?_ ?_ ?_
    . rfl
    . exact g2
    . exact own_base g1 hbw
    . trivial
   ·
    intro V W hb hd K hK _
    have h1:OwnB W WR.heap.size (V 69) B:=hd 1 (by kernel_rfl)
    clear hd
    obtain⟨g5,cc,e1,hcl⟩:=own_at0 h1 HBN.out
    have hcv:=conv_bytes W ⟨g5,0,none⟩ B _ cc rfl hcl
    obtain⟨nL,hnL⟩:∃ n,n=B.length:=⟨_,rfl⟩
    rw [<-hnL] at hcv e1
    rw [<-HSB.out] at hcv
    clear hcl h1 hnL
    go_wp2_with fail
    exact hK _ _ rfl br rfl trivial
   ·
    intro V W hb hd K hK _
    clear hd
    go_wp2_with fail
    exact hK _ _ rfl br rfl trivial
   ·
    intro V W hb hd K hK _
    have h3:(V 71)=.slice bo nB bcap:=hd 3 (by kernel_rfl)
    clear hd
    obtain⟨gb,ob,eb,hbl,hcl⟩:=BRow.cells (Lst.below HBVR.out hb) HBN.out
    cases eb
    have hcv:=conv_bytes W ⟨gb,ob,none⟩ B nB bcap HNB.out hcl
    rw [<-HSB.out] at hcv
    clear hcl hbl
    go_wp2_with fail
    exact hK _ _ rfl br rfl trivial
   ·
    intro V W hb hd K hK _
    have h2:(V 70)=.string sB:=hd 2 (by kernel_rfl)
    have h4:(V 72)=.string sB:=hd 4 (by kernel_rfl)
    clear hd
    go_wp2_with fail
    refine hK _ _ ?_ ?_ ?_ ?_
    . rfl
    . exact Below.refl _ _
    . first | rfl | (show Value.bool _=Value.bool false;simp)
    . trivial
   ·
    intro V W hb hd K hK _
    have h5:(V 73)=.bool false:=hd 5 (by kernel_rfl)
    clear hd
    go_wp2_with fail
    exact hK _ _ rfl br rfl trivial
   ·
    intro V W hb hd K hK _
    have h6:(V 74)=.bool false:=hd 6 (by kernel_rfl)
    clear hd
    obtain⟨-,s0,s1,s2,-,-,-⟩:=(HBX.out.below hb)
    go_wp2_with fail
    exact hK _ _ rfl br rfl trivial
   ·
    intro V W hb hd K hK _
    have h6:(V 74)=.bool false:=hd 6 (by kernel_rfl)
    clear hd
    go_wp2_with fail
    exact hK _ _ rfl br rfl trivial
   ·
    intro V W hb hd K hK _
    have h6:(V 74)=.bool false:=hd 6 (by kernel_rfl)
    clear hd
    obtain⟨-,s0,s1,s2,-,-,-⟩:=(HBX.out.below hb)
    go_wp2_with fail
    exact hK _ _ rfl br rfl trivial
   ·
    intro V W hb hd K hK _
    have h6:(V 74)=.bool false:=hd 6 (by kernel_rfl)
    have h8:(V 76)=.agg #[.slice none 0 0,.slice none 0 0,.slice none 0 0]:=hd 8 (by kernel_rfl)
    have h9:(V 77)=.agg #[.slice o1 n1 k1,.slice o2 n2 k2,.slice o3 n3 k3]:=hd 9 (by kernel_rfl)
    clear hd
    have HCC:=hid hb
    clear hb
    go_wp2_with fail
    refine (HJO.out W HCC.out).mono ?_
    rintro e w1 ⟨v1,rfl,g1,g2⟩
    go_wp2_with fail
    refine hK _ _ ?_ ?_ ?_ ?_
    . rfl
    . exact g2
    . exact g1
    . trivial
   ·
    intro V W hb hd K hK _
    have h6:(V 74)=.bool false:=hd 6 (by kernel_rfl)
    have h7:(V 75)=.agg #[.slice o1 n1 k1,.slice o2 n2 k2,.slice o3 n3 k3]:=hd 7 (by kernel_rfl)
    have h10:IsC c (V 78) W:=hd 10 (by kernel_rfl)
    clear hd
    have HCC:=hid hb
    have HIV:=hid h10
    clear hb h10
    go_wp2_with fail
    refine (HSM.out W _ HCC.out HIV.out).mono ?_
    rintro e w1 ⟨rfl,g2⟩
    go_wp2_with fail
    refine hK _ _ ?_ ?_ ?_ ?_
    . rfl
    . exact g2
    . exact rfl
    . trivial
   ·
    intro V W hb hd K hK _
    have h6:(V 74)=.bool false:=hd 6 (by kernel_rfl)
    have h11:(V 79)=.bool true:=hd 11 (by kernel_rfl)
    clear hd
    go_wp2_with fail
    exact hK _ _ rfl br rfl trivial
   ·
    intro V W hb hd hap
    have h6:(V 74)=.bool false:=hd 6 (by decide)
    have h12:(V 80)=.bool false:=hd 12 (by decide)
    clear hd hap
    simp only [List.drop_succ_cons,List.drop_zero]
    have HTY:=hid (HTR.out.below hb)
    have HBY:=hid (below_then HBR.out lr hb)
    have hxy:=HTY.out.box
    have d3:W.cell? ⟨t,3,none⟩=some (.int .i64 ((0+P.length:Nat):Int)):=by rw [cell_of_row W t 3 _ _ (0,0) hxy];rfl
    have f3:W.frozen? ⟨t,3,none⟩=false:=frozen_of_row W t 3 _ _ hxy
    have hgz:=grown_cell W t 3 (.int .i64 0)
    have HFIN:=hid (show OpenP c w (.returned (.tuple #[.pointer (some ⟨t,0,none⟩),.int .i64 0])) (W.setCell ⟨t,3,none⟩ (.int .i64 0)) from by
     refine⟨t,.slice oo i oc,.slice a2 m2 b2,.slice (some ⟨g,0,none⟩) N fcap,rfl,hwt,?_,HBY.out.grown hgz HBY.out.size (fun j hj=>by cases hj;exact hwt)⟩
     rw [<-HPE.out.1,<-HPE.out.2.1,<-HPE.out.2.2]
     exact HTY.out.turn hgz (heap_setCell_same W t 3 _ _ _ hxy))
    clear hb hxy hgz
    go_wp2_with fail
    refine bodyPost_ret (v:=.tuple #[.pointer (some ⟨t,0,none⟩),.int .i64 0]) (by simp [results,Tryz.f8,go_sem]) rfl HFIN.out
