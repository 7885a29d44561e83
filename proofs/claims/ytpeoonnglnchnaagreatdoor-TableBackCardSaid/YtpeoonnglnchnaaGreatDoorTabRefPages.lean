/- TabRefPages. -/
import Derived.Test.YtpeoonnglnchnaaGreatDoorTabRefSort
set_option linter.unusedSectionVars false
set_option linter.unusedSimpArgs false
set_option linter.unusedVariables false
set_option maxHeartbeats 16000000
set_option maxRecDepth 100000
namespace Go.Proofs.YtpeoonnglnchnaaGreatDoor.Mut
open Go.Lib (hid)
open RowKit Go.Sort YtpeoonnglnchnaaGreatDoor.Ord YtpeoonnglnchnaaGreatDoor.Spare RegInv
variable [Inhabited Lim]
theorem pagesF_short {α:Type} (l:List α) (h0:l≠[]) (h:l.length<=8):pagesF l=[l]:=by
 rw [pagesF_step l h0,List.take_of_length_le h,List.drop_of_length_le h];rfl
theorem pagesF_snoc {α:Type}:∀ (n:Nat) (l:List α) (m:α),l.length<=n->(l.length % 8=0->pagesF (l++[m])=pagesF l++[[m]])/\(l.length % 8≠0->∃ P L,pagesF l=P++[L]/\L.length<8/\pagesF (l++[m])=P++[L++[m]])
 | n,[],m,_=>⟨fun _=>rfl,fun h=>absurd rfl h⟩
 | 0,a::l,m,h=>by simp at h
 | n+1,a::l,m,h=>by
  by_cases hl:(a::l).length<8
  ·
   refine⟨fun h8=>by simp at h8 hl;omega,fun _=>⟨[],a::l,by rw [pagesF_short _ (by simp) (by omega)];rfl,hl,?_⟩⟩
   rw [pagesF_short _ (by simp) (by simp at hl ⊢;omega)];rfl
  ·
   have e1:=pagesF_step (a::l) (by simp)
   have e2:=pagesF_step ((a::l)++[m]) (by simp)
   have hl:8<=(a::l).length:=by omega
   rw [List.take_append_of_le_length hl,List.drop_append_of_le_length hl] at e2
   have hd:((a::l).drop 8).length=(a::l).length - 8:=List.length_drop
   obtain⟨g1,g2⟩:=pagesF_snoc n ((a::l).drop 8) m (by rw [hd];simp at h ⊢;omega)
   refine⟨fun h8=>?_,fun h8=>?_⟩
   . rw [e2,e1,g1 (by omega)];rfl
   ·
    obtain⟨P,L,x1,x2,x3⟩:=g2 (by omega)
    exact⟨(a::l).take 8::P,L,by rw [e1,x1];rfl,x2,by rw [e2,x3];rfl⟩
theorem pagesF_map {α β:Type} (f:α->β):∀ (n:Nat) (l:List α),l.length<=n->(pagesF l).map (List.map f)=pagesF (l.map f)
 | n,[],_=>rfl
 | 0,a::l,h=>by simp at h
 | n+1,a::l,h=>by
  rw [pagesF_step (a::l) (by simp),pagesF_step ((a::l).map f) (by simp),List.map_cons,pagesF_map f n _ (by rw [List.length_drop];simp at h ⊢;omega),List.map_take,List.map_drop]
def zMM:List Value:=[.int .i64 0,.int .i64 0,.string ByteArray.empty,.string ByteArray.empty,.string ByteArray.empty,.int .i64 0,.int .i64 0,.int .i64 0,.int .i64 0,.slice none 0 0]
def sNewX (x:Ro):RSpec:=sOne (fun v W=>∃ g,v=.slice (some ⟨g,0,none⟩) 1 1/\g<W.heap.size/\∀ j u,(enM x)[j]?=some u->W.cell? ⟨g,j,none⟩=some u) (fun _ _ _ h hb=>by
 obtain⟨g,h1,h2,h3⟩:=h
 exact⟨g,h1,Nat.lt_of_lt_of_le h2 hb.size,fun j u hu=>(World.cell?_of_block (a:=⟨g,j,none⟩) (hb.block g h2)).trans (h3 j u hu)⟩)
theorem news_x {w:World} {g:Nat} {x:Ro} (h:∀ j u,(enM x)[j]?=some u->w.cell? ⟨g,j,none⟩=some u):∀ (j:Nat) (u:Value),(enM x)[j]?=some u->w.cell? ((⟨g,0,none⟩:Addr).add j)=some u:=by
 intro j u hu
 rw [addr_add,Nat.zero_add]
 exact h j u hu
theorem new_x (W:World) (x:Ro) (xo:Option Addr) (xc:Nat) (hxe:x.2=.slice xo x.1.over.length xc):∀ (j:Nat) (u:Value),(enM x)[j]?=some u->(W.alloc (.cells #[.int .i64 x.1.table,.int .i64 x.1.kind,.string x.1.key,.string x.1.fin,.string x.1.val,.int .i64 x.1.expiry,.int .i64 x.1.at_.p,.int .i64 x.1.at_.l,.int .i64 x.1.at_.w,.slice xo x.1.over.length xc] 42)).cell? ⟨W.heap.size,j,none⟩=some u:=by
 intro j u hu
 have e:enM x=[.int .i64 x.1.table,.int .i64 x.1.kind,.string x.1.key,.string x.1.fin,.string x.1.val,.int .i64 x.1.expiry,.int .i64 x.1.at_.p,.int .i64 x.1.at_.l,.int .i64 x.1.at_.w,.slice xo x.1.over.length xc]:=by unfold enM;rw [hxe]
 rw [e] at hu
 have h:=new_cells W _ 42 j u hu
 rw [addr_add,Nat.zero_add] at h
 exact h
theorem one_x (x:Ro) {xo:Option Addr} {xc:Nat} (hxe:x.2=.slice xo x.1.over.length xc):∀ u∈enM x,u.oneCell'=true:=by
 intro u hu
 unfold enM at hu
 rw [hxe] at hu
 simp only [List.mem_cons,List.not_mem_nil,or_false] at hu
 rcases hu with rfl | rfl | rfl | rfl | rfl | rfl | rfl | rfl | rfl | rfl <;> rfl
theorem at_grown {w w':World} {b o:Nat} {x:Ro} {row:Option Nat} (h:At w b o x) (hg:w.grownBy w' row) (hne:some b≠row):At w' b o x:=by
 have e:∀ k,w'.cell? ⟨b,k,none⟩=w.cell? ⟨b,k,none⟩:=fun k=>World.cell?_of_block (a:=⟨b,k,none⟩) (hg.block b h.lt hne)
 obtain⟨h0,h1,h2,h3,h4,h5,h6,h7,h8,h9,h10⟩:=h
 exact⟨Nat.lt_of_lt_of_le h0 hg.size,(e _).trans h1,(e _).trans h2,(e _).trans h3,(e _).trans h4,(e _).trans h5,(e _).trans h6,(e _).trans h7,(e _).trans h8,(e _).trans h9,(e _).trans h10⟩
structure GrowPg (w:World) (base:Nat) (v:Value) (P:List Pg):Prop where
 row:w.ownsRow base 22 1 v P.length (P.flatMap enPg)
 rows:∀ p∈P,w.ownsRow base 42 10 p.1 p.2.length (p.2.flatMap enM)
 apart:∀ P0 p,P=P0++[p]->∀ q∈P0,q.1.ownBlock=none\/q.1.ownBlock≠p.1.ownBlock
theorem GrowPg.below {w w':World} {base:Nat} {v:Value} {P:List Pg} (h:GrowPg w base v P) (hb:Below w.heap.size w w'):GrowPg w' base v P:=
 ⟨row_below h.row hb,fun p hp=>row_below (h.rows p hp) hb,h.apart⟩
theorem flat_pg (P:List Pg):P.flatMap enPg=P.map (·.1):=by
 induction P with
 | nil=>rfl
 | cons p P ih=>rw [List.flatMap_cons,ih];rfl
theorem GrowPg.more {w w':World} {base:Nat} {v v':Value} {P:List Pg} (h:GrowPg w base v P) (hr:w'.ownsRow base 22 1 v' (P.length+1) (P.flatMap enPg++[.slice none 0 0])) (hg:w.grownBy w' v.ownBlock):GrowPg w' base v' (P++[((.slice none 0 0,[]):Pg)]):=by
 refine⟨?_,fun p hp=>?_,fun P0 p e q hq=>?_⟩
 . rw [la0,fa0];exact hr
 ·
  rcases List.mem_append.1 hp with h1 | h1
  . exact (h.rows p h1).kept hg (rows_apart (h.rows p h1) h.row (by decide))
  . rw [List.mem_singleton.1 h1];exact World.ownsRow_nil _ _ _ _
 ·
  obtain⟨rfl,e2⟩:=List.append_inj' e rfl
  injection e2 with e2
  subst e2
  cases q.1.ownBlock with
  | none=>exact Or.inl rfl
  | some k=>exact Or.inr (by intro h;cases h)
theorem GrowPg.put {w w1:World} {base ob oc:Nat} {P0:List Pg} {pv pv':Value} {L:List Ro} {x:Ro} (h:GrowPg w base (.slice (some ⟨ob,0,none⟩) (P0.length+1) oc) (P0++[(pv,L)])) (hr:w1.ownsRow base 42 10 pv' (L.length+1) ((L++[x]).flatMap enM)) (hg:w.grownBy w1 pv.ownBlock) (hl:∀ g,pv'.ownBlock=some g->pv.ownBlock=some g\/w.heap.size<=g):GrowPg (w1.setCell ⟨ob,P0.length,none⟩ pv') base (.slice (some ⟨ob,0,none⟩) (P0.length+1) oc) (P0++[(pv',L++[x])]):=by
 have hlast:=h.rows (pv,L) (List.mem_append_right _ (List.mem_singleton.2 rfl))
 have hrow:w1.ownsRow base 22 1 (.slice (some ⟨ob,0,none⟩) (P0.length+1) oc) (P0.length+1) ((P0++[(pv,L)]).flatMap enPg):=by
  have h1:=h.row
  rw [la0] at h1
  exact World.ownsRow.kept h1 hg (rows_apart h1 hlast (by decide))
 obtain⟨hst,hsg⟩:=World.ownsRow.stored hrow P0.length pv'
 have hq:∀ q∈P0,w1.ownsRow base 42 10 q.1 q.2.length (q.2.flatMap enM):=fun q hq=>(h.rows q (List.mem_append_left _ hq)).kept hg (h.apart P0 (pv,L) rfl q hq)
 refine⟨?_,fun p hp=>?_,fun P1 p e q hq1=>?_⟩
 ·
  have e:((P0++[(pv,L)]).flatMap enPg).set P0.length pv'=(P0++[((pv',L++[x]):Pg)]).flatMap enPg:=by
   rw [flat_pg,flat_pg,List.map_append,List.map_append,List.set_append_right _ _ (by simp)]
   simp
  rw [<-e,la0]
  exact hst
 ·
  rcases List.mem_append.1 hp with h1 | h1
  . exact (hq p h1).kept hsg (rows_apart (v2:=.slice (some ⟨ob,0,none⟩) (P0.length+1) oc) (hq p h1) hrow (by decide))
  ·
   rw [List.mem_singleton.1 h1]
   have h2:=World.ownsRow.kept hr hsg (rows_apart (v2:=.slice (some ⟨ob,0,none⟩) (P0.length+1) oc) hr hrow (by decide))
   show (w1.setCell _ pv').ownsRow base _ 10 pv' (L++[x]).length _
   rw [la0];exact h2
 ·
  obtain⟨rfl,e2⟩:=List.append_inj' e rfl
  injection e2 with e2
  subst e2
  have hlt:=(h.rows q (List.mem_append_left _ hq1)).lt
  rcases h.apart P0 (pv,L) rfl q hq1 with h1 | h1
  . exact Or.inl h1
  ·
   cases hv:q.1.ownBlock with
   | none=>exact Or.inl rfl
   | some k=>
    refine Or.inr fun e3=>?_
    rcases hl k e3.symm with h4 | h4
    . exact h1 (by rw [hv,h4])
    . have:=(hlt k hv).2;omega
def RefCutP (w:World) (R:List Ro) (e:Ending) (w':World):Prop:=
 ∃ v P,e=.returned v/\GrowPg w' w.heap.size v P/\P.map (·.2)=pagesF R/\Below w.heap.size w w'
theorem refpages_any (v:Value) (R:List Ro) (w:World) (hv:MRow w v R) (hn:R.length<=10000) :
  Calls Tryz.prog 25 #[v] w (RefCutP w R):=by
 obtain⟨ro,rc,rfl,-,-⟩:=hv.form
 obtain⟨n,hnr⟩:∃ k,k=R.length:=⟨_,rfl⟩
 rw [<-hnr] at hv hn ⊢
 obtain⟨i0,hi0,hz0,hz1,hz2⟩:=info_parts Mut.info_M
 have HI:=hid (And.intro hi0 (And.intro hz0 (And.intro hz1 hz2)))
 obtain⟨i1,hI1⟩:=info_Pg
 have HI1:=hid hI1
 have HV:=hid hv
 have HN:=hid hnr
 obtain⟨B,hB⟩:∃ B,B=w.heap.size:=⟨_,rfl⟩
 have HB:=hid hB
 clear hv hnr hI1 hi0 hz0 hz1 hz2 hB
 go_enter Tryz.func25,Tryz.ntmps25
 go_wp2_with fail
 go_loopw [3,4] (fun ov iv wr=>∃ (k pn:Nat) (P:List Pg) (oo:Option Addr) (oc:Nat),k<=n/\pn<=k/\iv=.int .i64 k/\ov=.slice oo pn oc/\Hid (pn=P.length/\P.map (·.2)=pagesF (R.take k))/\Hid (GrowPg wr B (.slice oo pn oc) P)/\Hid (Below w.heap.size w wr)) (fun _ iv _=>n - (intOf iv).toNat)
 case atStart=>exact⟨0,0,[],none,0,by omega,by omega,rfl,rfl,hid ⟨rfl,rfl⟩,hid ⟨World.ownsRow_nil _ _ _ _,(fun _ h=>by cases h),(fun P0 p e=>by cases P0 <;> cases e)⟩,hid br⟩
 case round=>
  obtain⟨k,pn,P,oo,oc,hk,hpk,rfl,rfl,hP,hO,hb⟩:=hrel
  by_cases hlt:k<n
  ·
   have hkr:k<R.length:=by have:=HN.out;omega
   obtain⟨x,hx⟩:∃ x,R[k]?=some x:=⟨_,ge0 hkr⟩
   have htk:R.take (k+1)=R.take k++[x]:=by rw [List.take_add_one,hx];rfl
   have hlk:(R.take k).length=k:=by rw [List.length_take];omega
   have hsn:=pagesF_snoc k (R.take k) x (by omega)
   rw [hlk,<-htk] at hsn
   have HSN:=hid hsn
   have HX:=hid hx
   have j0:(0:Int)<=(k:Int):=by omega
   have j1:(k:Int)<(n:Int):=by omega
   obtain⟨T,hT⟩:∃ T,T=pagesF (R.take (k+1)):=⟨_,rfl⟩
   rw [<-hT] at HSN
   have HT:=hid hT
   obtain⟨B1,hB1⟩:∃ b,b=wr.heap.size:=⟨_,rfl⟩
   have HB1:=hid hB1
   clear hx htk hlk hsn hkr hT hB1
   obtain⟨wo,rfl⟩:∃ W,W=wr:=⟨_,rfl⟩
   go_upto_if 13 with fail
   go_cut [3] (fun ov wx=>∃ (pq:Nat) (P0:List Pg) (pv:Value) (L:List Ro) (ob c3:Nat) (w3:World),w3=wx/\pq<=k/\ov=.slice (some ⟨ob,0,none⟩) (pq+1) c3/\L.length<8/\Hid (pq=P0.length)/\Hid (P0.map (·.2)++[L++[x]]=T)/\Hid (GrowPg wx B (.slice (some ⟨ob,0,none⟩) (pq+1) c3) (P0++[((pv,L):Pg)]))/\Hid (Below w.heap.size w wx))
   case first=>
    by_cases h8:k % 8=0
    ·
     have h8i:(k:Int) % 8=0:=by omega
     have HOR:=hid (show wo.ownsRow B 22 1 (.slice oo pn oc) pn (P.flatMap enPg) from by have h:=hO.out.row;rw [<-hP.out.1] at h;exact h)
     have hbz:=hb.out.size
     have H8:=hid h8
     clear h8
     go_wp2_with (at_builtin;refine wpList_append_own_loc rfl _ _ 58 rfl B 22 i1 (.slice none 0 0) [.slice none 0 0] 24 Tryz.underlying58 HI1.out.1 HI1.out.2.1 rfl HI1.out.2.2.1 HI1.out.2.2.2 (by decide) (.slice oo pn oc) pn (P.flatMap enPg) rfl (row_below HOR.out (br.alloc lr _)) ⟨_,0,none⟩ 1 1 [.slice none 0 0] rfl (by decide) rfl (new_cells _ [.slice none 0 0] _) (by intro u hu;simp at hu;subst hu;rfl) (by unfold maxLen;omega) (by omega) (by rw [HB.out];simp;omega) ?_)
     intro v3 w3 g1 g2 g3
     obtain⟨o3,c3,rfl⟩:∃ o1 c1,v3=.slice o1 (pn+1) c1:=by
      rcases g1.2 with ⟨h1,h0⟩ | ⟨g,cap,cur,h1,_⟩
      . omega
      . exact⟨_,_,h1⟩
     obtain⟨g,rfl⟩:∃ g,o3=some ⟨g,0,none⟩:=by
      rcases g1.2 with ⟨h1,h0⟩ | ⟨g,cap,cur,h1,_⟩
      . omega
      . injection h1 with h1;exact⟨g,h1⟩
     have HG3:=hid (show wo.grownBy w3 (Value.slice oo pn oc).ownBlock from by
      refine World.grownBy.andThen (grown_below ((Below.refl wo.heap.size wo).alloc lr _) _) g2 (fun j hj=>Or.inr hj))
     have HP3:=hid (show GrowPg w3 B (.slice (some ⟨g,0,none⟩) (pn+1) c3) (P++[((.slice none 0 0,[]):Pg)]) from hO.out.more (by rw [<-hP.out.1];exact g1) HG3.out)
     have HB3:=hid (show Below w.heap.size w w3 from hb.out.grown HG3.out hb.out.size (fun t ht=>by have:=(HOR.out.lt t ht).1;have:=HB.out;omega))
     have HPT:=hid (show P.map (·.2)++[([]:List Ro)++[x]]=T from by rw [HSN.out.1 H8.out,hP.out.2];rfl)
     clear HOR HG3 hO g1 g2 g3 hbz hb HSN H8 h8i
     go_wp2_with fail
     go_meet
     exact⟨pn,P,.slice none 0 0,[],g,c3,_,rfl,hpk,rfl,by decide,hid hP.out.1,HPT,HP3,HB3⟩
    ·
     have h8i:¬ ((k:Int) % 8=0):=by omega
     obtain⟨Q0,L,q1,hL8,q3⟩:=HSN.out.2 h8
     have hPq:∃ (P0:List Pg) (pv:Value),P=P0++[(pv,L)]/\P0.map (·.2)=Q0:=by
      have e:=hP.out.2
      rw [q1] at e
      obtain⟨P0,P1,rfl,e1,e2⟩:=List.map_eq_append_iff.1 e
      obtain⟨⟨pv,L'⟩,rfl,rfl⟩:=List.map_eq_singleton_iff.1 e2
      exact⟨P0,pv,rfl,e1⟩
     obtain⟨P0,pv,rfl,hQ0⟩:=hPq
     obtain⟨pm,rfl⟩:∃ q,pn=q+1:=⟨P0.length,by rw [hP.out.1];simp⟩
     have HPL:=hid (show pm=P0.length from by have:=hP.out.1;simp at this;omega)
     have HPT:=hid (show P0.map (·.2)++[L++[x]]=T from by rw [q3,hQ0])
     obtain⟨ob,rfl⟩:∃ g,oo=some ⟨g,0,none⟩:=by
      rcases hO.out.row.2 with ⟨h1,h0⟩ | ⟨g,cap,cur,h1,_⟩
      . simp at h0
      . injection h1 with h1;exact⟨g,h1⟩
     clear q1 q3 hQ0 HSN h8 hP
     go_wp2_with fail
     go_meet
     exact⟨pm,P0,pv,L,ob,oc,_,rfl,by omega,rfl,hL8,HPL,HPT,hO,hb⟩
   case rest=>
    clear hO hb hP HSN hpk
    obtain⟨pn,P0,pv,L,ob,c3,w3,hwx,hpk,rfl,hL8,HPL,HPT,HP3,HB3⟩:=hcut
    subst hwx
    have hbz3:B<=w3.heap.size:=by have:=HB3.out.size;have:=HB.out;omega
    obtain⟨xb,xoff,hao,hat0⟩:=HV.out.at_ HX.out
    cases hao
    have hxl:xb<w.heap.size:=hat0.lt
    have hov:=HV.out.over x (mg0 HX.out)
    obtain⟨xo,xc,xe,-,-⟩:=Over.form hov
    have HXE:=hid xe
    have HAT:=hid (hat0.below HB3.out)
    have hlast:=HP3.out.rows (pv,L) (List.mem_append_right _ (List.mem_singleton.2 rfl))
    have HLAST:=hid hlast
    have hsub:((pn+1:Nat):Int) - 1=(pn:Int):=by omega
    have HSB:=hsub
    have HRW:=hid (show w3.ownsRow B 22 1 (.slice (some ⟨ob,0,none⟩) (pn+1) c3) (pn+1) ((P0++[((pv,L):Pg)]).flatMap enPg) from by have h:=HP3.out.row;rw [la0,<-HPL.out] at h;exact h)
    have HPC:=hid (fun (W:World) (hc:w3.grownBy W pv.ownBlock)=>show W.cell? ⟨ob,pn,none⟩=some pv from by
     have h:=(World.ownsRow.kept HRW.out hc (rows_apart HRW.out HLAST.out (by decide))).cells (g:=ob) rfl pn pv (by rw [flat_pg,List.map_append,List.getElem?_append_right (by rw [lm0];have:=HPL.out;omega),lm0,HPL.out];simp)
     rw [addr_add,Nat.zero_add] at h
     exact h)
    have HKT:=hid (fun (W:World) (hc:w3.grownBy W pv.ownBlock)=>at_grown HAT.out hc (fun e=>by have:=(HLAST.out.lt _ e.symm).1;have:=HB.out;omega))
    have HPV:=hid (show ∃ po pc,pv=.slice po L.length pc from by
     rcases HLAST.out.2 with ⟨h1,h2⟩ | ⟨g,cap,cur,h1,_⟩
     . exact⟨none,0,by rw [show L.length=0 from h2];exact h1⟩
     . exact⟨_,_,h1⟩)
    obtain⟨Ln,hLn⟩:∃ q,q=L.length:=⟨_,rfl⟩
    have HLN:=hid hLn
    have HLA:=hid (show w3.ownsRow B 42 10 pv Ln (L.flatMap enM) from by rw [hLn];exact HLAST.out)
    have hln8:Ln<8:=by omega
    clear hlast xe hat0 hov hLn hL8
    obtain⟨po,pc,hpv⟩:=HPV.out
    rw [<-HLN.out] at hpv
    subst hpv
    have hcm:∀ a b,w3.grownBy a (Value.slice po Ln pc).ownBlock->Below a.heap.size a b->w3.grownBy b (Value.slice po Ln pc).ownBlock:=fun a b h hb=>grown_then h hb
    have hpr:∀ (j:Nat) (a b:World),(j=15->(fun W=>W.ownsRow B 42 10 (.slice po Ln pc) Ln (L.flatMap enM)) a)->Below a.heap.size a b->(j=15->(fun W=>W.ownsRow B 42 10 (.slice po Ln pc) Ln (L.flatMap enM)) b):=fun j a b h hb e=>row_below (h e) hb
    have k0:(0:Int)<=(pn:Int):=by omega
    have k1:(pn:Int)<((pn+1:Nat):Int):=by omega
    go_upto_region 7 with fail
    obtain⟨W0,hW0⟩:∃ W:World,W=w3:=⟨_,rfl⟩
    have HG0:=hid (show w3.grownBy W0.drew (Value.slice po Ln pc).ownBlock from by rw [hW0];exact hcm _ _ (World.grownBy.refl _ _) br.drew)
    have HP0:=hid (show W0.drew.ownsRow B 42 10 (.slice po Ln pc) Ln (L.flatMap enM) from by rw [hW0];exact row_below HLA.out br.drew)
    rw [<-hW0]
    clear hW0
    refine RegLin.wp_region_lin (RegLin.useL [(14,15)]) (fun W=>w3.grownBy W (Value.slice po Ln pc).ownBlock) (fun j W=>j=15->(fun W=>W.ownsRow B 42 10 (.slice po Ln pc) Ln (L.flatMap enM)) W) 17 [false,false,false,false,false,false,false,false,false,false,false,false,false,false,false,false,false,true,true,true,true,true,true,true,true,true,true,true,true,true,true,true,true,true,false]
     [sLit (.slice (some ⟨ob,0,none⟩) (pn+1) c3),
  sLit (.slice (some ⟨ob,0,none⟩) (pn+1) c3),
  sLit (.int .i64 ((pn+1:Nat):Int)),
  sLit (.int .i64 (pn:Int)),
  sLit (.slice (some ⟨ob,0,none⟩) (pn+1) c3),
  sLit (.slice (some ⟨ob,0,none⟩) (pn+1) c3),
  sLit (.int .i64 ((pn+1:Nat):Int)),
  sLit (.int .i64 (pn:Int)),
  sLit (.pointer (some ⟨ob,pn,none⟩)),
  sLit (.slice po Ln pc),
  sLit (.slice (some ⟨xb,xoff,none⟩) n rc),
  sLit (.int .i64 k),
  sLit (.pointer (some ⟨xb,xoff+k*10,none⟩)),
  sLit (.agg #[.int .i64 x.1.table,.int .i64 x.1.kind,.string x.1.key,.string x.1.fin,.string x.1.val,.int .i64 x.1.expiry,.int .i64 x.1.at_.p,.int .i64 x.1.at_.l,.int .i64 x.1.at_.w,.slice xo x.1.over.length xc]),
  sNewX x,
  sOne (fun v W=>W.ownsRow B 42 10 v (Ln+1) ((L++[x]).flatMap enM)/\SpareLoc w3 (.slice po Ln pc) v) (fun _ _ _ h hb=>⟨row_below h.1 hb,h.2⟩),
  sLit (.pointer (some ⟨ob,pn,none⟩))] (HG0.out) (fun j _ _=>HP0.out) (by kernel_rfl) (by kernel_rfl) (by kernel_rfl) (by kernel_rfl) (fun F hF=>?_)
    simp only [over,overL,Nat.reduceAdd] at hF
    obtain rfl:=funext hF
    clear hF
    refine⟨⟨?_,?_,?_,?_,?_,?_,?_,?_,?_,?_,?_,?_,?_,?_,?_,?_,?_,trivial⟩,?_⟩
    ·
     intro V W hc hp hd K hK _
     clear hd
     go_wp2_with fail
     exact hK _ _ rfl (RegLin.keeps_below hcm hpr hc br) rfl
    ·
     intro V W hc hp hd K hK _
     clear hd
     go_wp2_with fail
     exact hK _ _ rfl (RegLin.keeps_below hcm hpr hc br) rfl
    ·
     intro V W hc hp hd K hK _
     have h1:(V 18)=.slice (some ⟨ob,0,none⟩) (pn+1) c3:=(RegLin.ask hd 1:)
     clear hd
     go_wp2_with fail
     exact hK _ _ rfl (RegLin.keeps_below hcm hpr hc br) rfl
    ·
     intro V W hc hp hd K hK _
     have h2:(V 19)=.int .i64 ((pn+1:Nat):Int):=(RegLin.ask hd 2:)
     clear hd
     go_wp2_with fail
     exact hK _ _ rfl (RegLin.keeps_below hcm hpr hc br) rfl
    ·
     intro V W hc hp hd K hK _
     clear hd
     go_wp2_with fail
     exact hK _ _ rfl (RegLin.keeps_below hcm hpr hc br) rfl
    ·
     intro V W hc hp hd K hK _
     clear hd
     go_wp2_with fail
     exact hK _ _ rfl (RegLin.keeps_below hcm hpr hc br) rfl
    ·
     intro V W hc hp hd K hK _
     have h5:(V 22)=.slice (some ⟨ob,0,none⟩) (pn+1) c3:=(RegLin.ask hd 5:)
     clear hd
     go_wp2_with fail
     exact hK _ _ rfl (RegLin.keeps_below hcm hpr hc br) rfl
    ·
     intro V W hc hp hd K hK _
     have h6:(V 23)=.int .i64 ((pn+1:Nat):Int):=(RegLin.ask hd 6:)
     clear hd
     go_wp2_with fail
     exact hK _ _ rfl (RegLin.keeps_below hcm hpr hc br) rfl
    ·
     intro V W hc hp hd K hK _
     have h4:(V 21)=.slice (some ⟨ob,0,none⟩) (pn+1) c3:=(RegLin.ask hd 4:)
     have h7:(V 24)=.int .i64 (pn:Int):=(RegLin.ask hd 7:)
     clear hd
     go_wp2_with fail
     exact hK _ _ rfl (RegLin.keeps_below hcm hpr hc br) rfl
    ·
     intro V W hc hp hd K hK _
     have h8:(V 25)=.pointer (some ⟨ob,pn,none⟩):=(RegLin.ask hd 8:)
     clear hd
     have c0:=HPC.out W hc
     go_wp2_with fail
     exact hK _ _ rfl (RegLin.keeps_below hcm hpr hc br) rfl
    ·
     intro V W hc hp hd K hK _
     clear hd
     go_wp2_with fail
     exact hK _ _ rfl (RegLin.keeps_below hcm hpr hc br) rfl
    ·
     intro V W hc hp hd K hK _
     clear hd
     go_wp2_with fail
     exact hK _ _ rfl (RegLin.keeps_below hcm hpr hc br) rfl
    ·
     intro V W hc hp hd K hK _
     have h10:(V 27)=.slice (some ⟨xb,xoff,none⟩) n rc:=(RegLin.ask hd 10:)
     have h11:(V 28)=.int .i64 k:=(RegLin.ask hd 11:)
     clear hd
     go_wp2_with fail
     exact hK _ _ rfl (RegLin.keeps_below hcm hpr hc br) rfl
    ·
     intro V W hc hp hd K hK _
     have h12:(V 29)=.pointer (some ⟨xb,xoff+k*10,none⟩):=(RegLin.ask hd 12:)
     clear hd
     obtain⟨-,m0,m1,m2,m3,m4,m5,m6,m7,m8,m9⟩:=HKT.out W hc
     rw [HXE.out] at m9
     go_wp2_with fail
     exact hK _ _ rfl (RegLin.keeps_below hcm hpr hc br) rfl
    ·
     intro V W hc hp hd K hK _
     have h13:(V 30)=.agg #[.int .i64 x.1.table,.int .i64 x.1.kind,.string x.1.key,.string x.1.fin,.string x.1.val,.int .i64 x.1.expiry,.int .i64 x.1.at_.p,.int .i64 x.1.at_.l,.int .i64 x.1.at_.w,.slice xo x.1.over.length xc]:=(RegLin.ask hd 13:)
     clear hd
     have HCC:=hid hc
     clear hc hp
     go_wp2_with fail
     refine hK _ _ ?_ ?_ ?_
     . rfl
     . exact RegLin.keeps_below hcm hpr HCC.out (br.alloc lr _)
     . exact⟨_,rfl,by simp,new_x W x xo xc HXE.out⟩
    ·
     intro V W hc hp hd K hK _
     have h9:(V 26)=.slice po Ln pc:=(RegLin.ask hd 9:)
     have h14:∃ g,(V 31)=.slice (some ⟨g,0,none⟩) 1 1/\g<W.heap.size/\∀ j u,(enM x)[j]?=some u->W.cell? ⟨g,j,none⟩=some u:=(RegLin.ask hd 14:)
     clear hd
     have HA:=hid (hp rfl)
     obtain⟨gn,e7,hgl,hgc⟩:=h14
     have ea:=h9
     have hbw:B<=W.heap.size:=Nat.le_trans hbz3 hc.size
     have HCC:=hid hc
     clear hc hp
     go_wp2_with (at_builtin;refine wpList_append_own_loc rfl (.tmp 26) (.tmp 31) 22 rfl B 42 i0 zeroM zMM 120 Tryz.underlying22 HI.out.1 HI.out.2.1 rfl HI.out.2.2.1 HI.out.2.2.2 (by decide) (.slice po Ln pc) Ln (L.flatMap enM) (by first | rfl | exact ea) HA.out ⟨gn,0,none⟩ 1 1 (enM x) (by first | rfl | exact e7) (by decide) rfl (news_x hgc) (one_x x HXE.out) (by unfold maxLen;omega) (by omega) hbw ?_)
     intro v1 w1 g1 g2 g3
     have G1:=hid (show w1.ownsRow B 42 10 v1 (Ln+1) ((L++[x]).flatMap enM)/\SpareLoc w3 (.slice po Ln pc) v1 from ⟨by rw [fa0,List.flatMap_singleton];exact g1,fun g hg=>by rcases g3 g hg with h | h;exact Or.inl h;exact Or.inr (Nat.le_trans HCC.out.size h)⟩)
     have G2:=hid (show w3.grownBy w1 (Value.slice po Ln pc).ownBlock from HCC.out.andThen g2 (fun j hj=>Or.inr hj))
     clear g1 g2 g3
     go_wp2_with fail
     refine hK _ _ ?_ ?_ ?_
     . rfl
     ·
      refine RegLin.keeps_by G2.out (by kernel_rfl) (fun j hj hne hl h=>?_)
      iterate 17 (rcases j with _ | j;first | exact h | exact absurd rfl hne | exact RegLin.dead hl)
      exact absurd hj (by omega)
     . exact G1.out
    ·
     intro V W hc hp hd K hK _
     have h0:(V 17)=.slice (some ⟨ob,0,none⟩) (pn+1) c3:=(RegLin.ask hd 0:)
     have h3:(V 20)=.int .i64 (pn:Int):=(RegLin.ask hd 3:)
     clear hd
     go_wp2_with fail
     exact hK _ _ rfl (RegLin.keeps_below hcm hpr hc br) rfl
    ·
     intro V W hc hd
     have h15:W.ownsRow B 42 10 (V 32) (Ln+1) ((L++[x]).flatMap enM)/\SpareLoc w3 (.slice po Ln pc) (V 32):=hd 15 (by decide) rfl
     have h16:(V 33)=.pointer (some ⟨ob,pn,none⟩):=hd 16 (by decide) rfl
     clear hd
     simp only [List.drop_succ_cons,List.drop_zero]
     have HC9:=hid hc
     have H9:=hid h15.1
     have HSL:=hid h15.2
     obtain⟨bo,bc,e9⟩:=row_form h15.1
     have c0:=HPC.out W hc
     have f0:W.frozen? ⟨ob,pn,none⟩=false:=by
      rcases (World.ownsRow.kept HRW.out hc (rows_apart HRW.out HLA.out (by decide))).2 with ⟨h1,_⟩ | ⟨g,cap,cur,h1,_,h2,_⟩
      . simp at h1
      . injection h1 with h1;injection h1 with h1;injection h1 with h1;subst h1;exact frozen_of_row W _ pn cur _ h2
     clear h15 hc
     rw [e9] at H9 HSL
     have HNP:=hid (show GrowPg (W.setCell ⟨ob,pn,none⟩ (.slice bo (Ln+1) bc)) B (.slice (some ⟨ob,0,none⟩) (pn+1) c3) (P0++[((.slice bo (Ln+1) bc,L++[x]):Pg)]) from by
      have h:=GrowPg.put (x:=x) (w1:=W) (pv':=.slice bo (Ln+1) bc) (by have h:=HP3.out;rw [HPL.out] at h;exact h) (by rw [<-HLN.out];exact H9.out) HC9.out HSL.out
      rw [<-HPL.out] at h;exact h)
     have HBF:=hid (show Below w.heap.size w (W.setCell ⟨ob,pn,none⟩ (.slice bo (Ln+1) bc)) from by
      have hb1:Below w.heap.size w W:=HB3.out.grown HC9.out HB3.out.size (fun t ht=>by have:=(HLA.out.lt t ht).1;have:=HB.out;omega)
      exact hb1.grown ((World.grownBy.refl _ _).andThen (show W.grownBy (W.setCell ⟨ob,pn,none⟩ (.slice bo (Ln+1) bc)) (some ob) from ⟨rfl,rfl,rfl,by simp,fun j _ hj=>heap_setCell_other W ⟨ob,pn,none⟩ j _ (fun e=>hj (by simp [e]))⟩) (fun j hj=>Or.inr hj)) hb1.size (fun t ht=>by have:=(HRW.out.lt t ht).1;have:=HB.out;omega))
     have HPE:=hid (show pn+1=(P0++[((.slice bo (Ln+1) bc,L++[x]):Pg)]).length/\(P0++[((.slice bo (Ln+1) bc,L++[x]):Pg)]).map (·.2)=pagesF (R.take (k+1)) from ⟨by rw [la0,<-HPL.out];rfl,by rw [<-HT.out,<-HPT.out,List.map_append];rfl⟩)
     go_wp2_with fail
     go_roundw
     case rel=>exact⟨k+1,pn+1,P0++[((.slice bo (Ln+1) bc,L++[x]):Pg)],some ⟨ob,0,none⟩,c3,by omega,by omega,by go_num,rfl,HPE,HNP,HBF⟩
     case measure=>simp [intOf];omega
  ·
   obtain rfl:k=n:=by omega
   have HF:=hid (show P.map (·.2)=pagesF R from by
    have h:=hP.out.2
    rw [List.take_of_length_le (by have:=HN.out;omega)] at h
    exact h)
   go_wp2_with fail
   go_ret
   exact⟨_,P,rfl,by rw [<-HB.out];exact hO.out,HF.out,hb.out⟩
