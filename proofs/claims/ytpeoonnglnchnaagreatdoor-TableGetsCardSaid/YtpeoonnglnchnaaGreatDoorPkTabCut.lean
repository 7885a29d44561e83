/- page.Cut: rows in pages (layer 15). · The document's order by keys: cenotaphref15.Less (layer 15). -/
import Derived.Test.YtpeoonnglnchnaaGreatDoorPkTabPage
import Derived.Test.YtpeoonnglnchnaaGreatDoorPkAppendLoc
import Derived.Test.YtpeoonnglnchnaaGreatDoorPkRefBytes
import Derived.Test.YtpeoonnglnchnaaGreatDoorMutRows
set_option maxHeartbeats 16000000
set_option maxRecDepth 100000
set_option linter.unusedSimpArgs false
set_option linter.unusedVariables false
namespace Go.Proofs.YtpeoonnglnchnaaGreatDoor.Mut
open Go.Lib (hid)
open Go.RowKit Go.Sort Go.Proofs.YtpeoonnglnchnaaGreatDoor.Ord Go.Proofs.YtpeoonnglnchnaaGreatDoor.Spare
set_option linter.unusedSectionVars false
variable [Inhabited Lim]
theorem MRow.dropAt {w:World} {b off n cap:Nat} {R:List Ro} (h:MRow w (.slice (some ⟨b,off,none⟩) n cap) R) (k:Nat) (hk:k≤n):MRow w (.slice (some ⟨b,off+k*10,none⟩) (n - k) (cap - k)) (R.drop k):=by
 refine⟨?_,fun x hx=>h.over x (List.mem_of_mem_drop hx)⟩
 obtain⟨ao,cp,e,h1,h2,h3⟩:=h.row
 cases e
 refine⟨_,cap - k,by rw [List.length_drop],by rw [List.length_drop];omega,by omega,?_⟩
 rcases h3 with h3 | ⟨b',off',e,hb,hc⟩
 · exact Or.inl (by rw [List.length_drop];omega)
 ·
  cases e
  refine Or.inr ⟨b,off+k*10,rfl,hb,fun i x hi j hj=>?_⟩
  rw [List.getElem?_drop] at hi
  have:=hc (k+i) x hi j hj
  rw [show off+k*10+i*10+j=off+(k+i)*10+j by omega]
  exact this
theorem MRow.takeAt {w:World} {b off n cap:Nat} {R:List Ro} (h:MRow w (.slice (some ⟨b,off,none⟩) n cap) R) (k:Nat) (hk:k≤n):MRow w (.slice (some ⟨b,off,none⟩) k k) (R.take k):=by
 refine⟨?_,fun x hx=>h.over x (List.mem_of_mem_take hx)⟩
 obtain⟨ao,cp,e,h1,h2,h3⟩:=h.row
 cases e
 refine⟨_,k,by rw [List.length_take,Nat.min_eq_left hk],by rw [List.length_take];omega,by omega,?_⟩
 rcases h3 with h3 | ⟨b',off',e,hb,hc⟩
 · exact Or.inl (by rw [List.length_take];omega)
 ·
  cases e
  refine Or.inr ⟨b,off,rfl,hb,fun i x hi j hj=>?_⟩
  by_cases hik:i<k
  ·
   rw [List.getElem?_take_of_lt hik] at hi
   exact hc i x hi j hj
  ·
   rw [List.getElem?_eq_none (by rw [List.length_take];omega)] at hi
   cases hi
def pagesN {α:Type}:Nat→List α→List (List α)
 | 0,_=>[]
 | _+1,[]=>[]
 | f+1,m::l=>(m::l).take 8::pagesN f ((m::l).drop 8)
def pagesF {α:Type} (l:List α):List (List α):=pagesN l.length l
theorem pagesN_fuel {α:Type}:∀ (f g:Nat) (l:List α),l.length≤f→l.length≤g→pagesN f l=pagesN g l
 | 0,g,l,h,_=>by
  obtain rfl:l=[]:=List.eq_nil_of_length_eq_zero (by omega)
  cases g <;> rfl
 | f+1,0,l,_,h=>by
  obtain rfl:l=[]:=List.eq_nil_of_length_eq_zero (by omega)
  rfl
 | f+1,g+1,[],_,_=>rfl
 | f+1,g+1,m::l,h1,h2=>by
  unfold pagesN
  rw [pagesN_fuel f g ((m::l).drop 8) (by simp at h1 ⊢;omega) (by simp at h2 ⊢;omega)]
theorem pagesF_step {α:Type} (l:List α) (h:l≠[]):pagesF l=l.take 8::pagesF (l.drop 8):=by
 cases l with
 | nil=>exact absurd rfl h
 | cons m l=>
  show pagesN (l.length+1) (m::l)=_
  unfold pagesN pagesF
  rw [pagesN_fuel l.length ((m::l).drop 8).length _ (by simp) (Nat.le_refl _)]
theorem pagesF_nil {α:Type}:pagesF ([]:List α)=[]:=rfl
abbrev Pg:Type:=Value × List Ro
abbrev enPg (p:Pg):List Value:=[p.1]
structure OwnPg (w:World) (base:Nat) (v:Value) (P:List Pg):Prop where
 row:w.ownsRow base 22 1 v P.length (P.flatMap enPg)
 rows:∀ p∈P,Copied w p.1 p.2 base
theorem OwnPg.below {w w':World} {base:Nat} {v:Value} {P:List Pg} (h:OwnPg w base v P) (hb:Below w.heap.size w w'):OwnPg w' base v P:=
 ⟨row_below h.row hb,fun p hp=>(h.rows p hp).below hb⟩
theorem Copied.beside {w w':World} {v v2:Value} {R:List Ro} {base b2 n:Nat} {xs:List Value} (h:Copied w v R base) (h2:w.ownsRow b2 22 1 v2 n xs) (hg:w.grownBy w' v2.ownBlock):Copied w' v R base:=
 ⟨h.row.kept hg (rows_apart h.row h2 (by decide)),fun x hx=>(h.over x hx).kept hg (rows_apart (h.over x hx) h2 (by decide))⟩
def CutP (w:World) (l:List Mu) (e:Ending) (w':World):Prop:=
 ∃ v P,e=.returned v∧OwnPg w' w.heap.size v P∧P.map (fun p=>p.2.map (·.1))=pagesF l∧Below w.heap.size w w'
theorem info_Pg:∃ i:TypeInfo,Tryz.prog.info? 22=some i∧i.zero=some (.slice none 0 0)∧i.size=1∧i.bytes=24:=by
 have h:(Tryz.prog.info? 22).map (fun i=>(i.zero,i.size,i.bytes))=some (some (.slice none 0 0),1,24):=by kernel_rfl
 cases hq:Tryz.prog.info? 22 with
 | none=>simp [hq] at h
 | some i=>simp [hq] at h;exact⟨i,rfl,h.1,h.2.1,h.2.2⟩
theorem cut_any (v:Value) (R:List Ro) (w:World) (hv:MRow w v R) (h1:∀ x∈R,x.1.over.length≤1000000) (hn:R.length≤10000) :
  Calls Tryz.prog 42 #[v] w (CutP w (R.map (·.1))):=by
 obtain⟨ro,rc,rfl,-,-⟩:=hv.form
 obtain⟨n,hnr⟩:∃ k,k=R.length:=⟨_,rfl⟩
 rw [←hnr] at hv hn ⊢
 obtain⟨T,hT⟩:∃ T,T=pagesF (R.map (·.1)):=⟨_,rfl⟩
 have HCP:=hid (fun (v:Value) (Q:List Ro) (z:World) (hQ:MRow z v Q) (hs:∀ x∈Q,x∈R) (hl:Q.length≤10000)=>copies_any v Q z hQ (fun x hx=>h1 x (hs x hx)) (by omega))
 obtain⟨i0,hI⟩:=info_Pg
 have HI:=hid hI
 have HV:=hid hv
 have HT:=hid hT
 have HN:=hid hnr
 obtain⟨B,hB⟩:∃ B,B=w.heap.size:=⟨_,rfl⟩
 have HB:=hid hB
 clear hv h1 hT hI hnr hB
 go_enter Tryz.func42,Tryz.ntmps42
 go_wp2_with fail
 go_loopw [0,3] (fun lv ov wr=>∃ (m pn:Nat) (Q:List Ro) (P:List Pg) (lo:Option Addr) (lc:Nat) (oo:Option Addr) (oc:Nat),lv=.slice lo m lc∧ov=.slice oo pn oc∧m≤n∧pn+m≤n∧Hid (MRow w (.slice lo m lc) Q∧m=Q.length∧∀ x∈Q,x∈R)∧Hid (pn=P.length∧P.map (fun p=>p.2.map (·.1))++pagesF (Q.map (·.1))=T)∧Hid (OwnPg wr B (.slice oo pn oc) P)∧Hid (Below w.heap.size w wr)) (fun lv _ _=>(match lv with | .slice _ m _=>m | _=>0))
 case atStart=>exact⟨n,0,R,[],ro,rc,none,0,rfl,rfl,by omega,by omega,hid ⟨HV.out,HN.out,fun _ h=>h⟩,hid ⟨rfl,HT.out.symm⟩,hid ⟨World.ownsRow_nil _ _ _ _,fun _ h=>by cases h⟩,hid (Below.refl _ _)⟩
 case round=>
  obtain⟨m,pn,Q,P,lo,lc,oo,oc,rfl,rfl,hm,hpn,hQ,hP,hO,hb⟩:=hrel
  by_cases hpos:0<m
  ·
   obtain⟨lb,loff,hlo⟩:∃ b off,lo=some ⟨b,off,none⟩:=by
    obtain⟨b,off,e,_⟩:=Lst.get hQ.out.1.row (show 0<Q.length by rw [←hQ.out.2.1];exact hpos)
    exact⟨b,off,e⟩
   subst hlo
   obtain⟨q,hq⟩:∃ q,q=min m 8:=⟨_,rfl⟩
   have hq1:q≤m:=by omega
   have hq0:0<q:=by omega
   have hmin:min (m:Int) 8=(q:Int):=by omega
   have hcap:m≤lc:=by
    obtain⟨_,_,e,h1,_⟩:=hQ.out.1.form
    obtain⟨rfl⟩:lc=_:=by injection e
    have:=hQ.out.2.1
    omega
   have hQl:=hQ.out.2.1
   have htk:=(hQ.out.1.takeAt q hq1).below hb.out
   have HDR:=hid (show MRow w (.slice (if lc=q then some ⟨lb,loff,none⟩ else some ⟨lb,loff+q*10,none⟩) (m - q) (lc - q)) (Q.drop q) from by
    have h:=hQ.out.1.dropAt q hq1
    by_cases e:lc=q
    ·
     have e2:Q.drop q=[]:=List.drop_of_length_le (by omega)
     have e3:m - q=0:=by omega
     have e4:lc - q=0:=by omega
     rw [e2,e3,e4]
     exact⟨⟨_,0,rfl,Nat.le_refl _,Nat.zero_le _,Or.inl rfl⟩,fun x hx=>by cases hx⟩
    · rw [if_neg e];exact h)
   have HTL:=hid (show (Q.take q).length=q from by rw [List.length_take];omega)
   have HDL:=hid (show m - q=(Q.drop q).length from by rw [List.length_drop];omega)
   have HMQ:=hid (fun x (hx:x∈Q.drop q)=>hQ.out.2.2 x (List.mem_of_mem_drop hx))
   have hcp:=HCP.out _ _ wr htk (fun x hx=>hQ.out.2.2 x (List.mem_of_mem_take hx)) (by rw [HTL.out];omega)
   have HCA:=hid hcp
   have HPG:=hid (show pagesF (Q.map (·.1))=(Q.take q).map (·.1)::pagesF ((Q.drop q).map (·.1)) from by
    rw [pagesF_step _ (by intro e;have:=congrArg List.length e;simp at this;rw [this] at hQl;simp at hQl;omega)]
    rw [←List.map_take,←List.map_drop]
    by_cases h8:8≤m
    ·
     obtain rfl:q=8:=by omega
     rfl
    ·
     obtain rfl:q=m:=by omega
     rw [List.take_of_length_le (l:=Q) (i:=8) (by omega),List.take_of_length_le (l:=Q) (i:=q) (by omega),List.drop_of_length_le (l:=Q) (i:=8) (by omega),List.drop_of_length_le (l:=Q) (i:=q) (by omega)])
   have q0:(0:Int)≤(q:Int):=by omega
   have q1:(q:Int)≤(m:Int):=by omega
   have q2:(q:Int)≤(lc:Int):=by omega
   have hposi:(0:Int)<(m:Int):=by omega
   clear hcp htk hq hQ hQl
   go_wp2_with fail
   refine HCA.out.mono ?_
   rintro e w2 ⟨v2,R2,rfl,⟨g2,c2,hve⟩,hmap,hcop,hb2⟩
   have HO2:=hid (hO.out.below hb2)
   have HB2:=hid (below_then hb.out (Nat.le_refl _) hb2)
   rw [HTL.out] at hve
   subst hve
   have HM2:=hid (show Copied w2 (.slice (some ⟨g2,0,none⟩) q c2) R2 B from hcop.base (by rw [HB.out];exact hb.out.size))
   have HMAP:=hid hmap
   clear hmap hcop hb2
   have HP1:=hid hP.out.1
   have HOR:=hid (show w2.ownsRow B 22 1 (.slice oo pn oc) pn (P.flatMap enPg) from by have h:=HO2.out.row;rw [←HP1.out] at h;exact h)
   have hbz:=HB2.out.size
   go_wp2_with (at_builtin;refine wpList_append_own_loc rfl _ _ 58 rfl B 22 i0 (.slice none 0 0) [.slice none 0 0] 24 Tryz.underlying58 HI.out.1 HI.out.2.1 rfl HI.out.2.2.1 HI.out.2.2.2 (by decide) (.slice oo pn oc) pn (P.flatMap enPg) rfl (row_below HOR.out ((Below.refl _ _).alloc (Nat.le_refl _) _)) ⟨_,0,none⟩ 1 1 [.slice (some ⟨g2,0,none⟩) q c2] rfl (by decide) rfl (new_cells _ [.slice (some ⟨g2,0,none⟩) q c2] _) (by intro u hu;simp at hu;subst hu;rfl) (by unfold maxLen;omega) (by omega) (by rw [HB.out];simp;omega) ?_)
   intro v3 w3 g1 g2' g3
   obtain⟨o3,c3,rfl⟩:∃ o1 c1,v3=.slice o1 (pn+1) c1:=by
    rcases g1.2 with ⟨h1,h0⟩ | ⟨g,cap,cur,h1,_⟩
    · omega
    · exact⟨_,_,h1⟩
   have HB3:=hid (show Below w.heap.size w w3 from (HB2.out.alloc HB2.out.size _).grown g2' (by have:=HB2.out.size;simp;omega) (fun t ht=>by have:=(HO2.out.row.lt t ht).1;have:=HB.out;omega))
   have HG3:=hid g2'
   have HO3:=hid (show w3.ownsRow B 22 1 (.slice o3 (pn+1) c3) (pn+1) ((P++[((.slice (some ⟨g2,0,none⟩) q c2,R2):Pg)]).flatMap enPg) from by rw [List.flatMap_append];exact g1)
   clear g1 g3
   have HOP:=hid (show OwnPg w3 B (.slice o3 (pn+1) c3) (P++[((.slice (some ⟨g2,0,none⟩) q c2,R2):Pg)]) from by
    refine⟨by have h:=HO3.out;rw [List.length_append,←HP1.out];exact h,fun p hp=>?_⟩
    have hal:=fun (p:Pg) (h:Copied w2 p.1 p.2 B)=>(h.below ((Below.refl _ _).alloc (Nat.le_refl _) _)).beside (row_below HOR.out ((Below.refl _ _).alloc (Nat.le_refl _) _)) HG3.out
    rcases List.mem_append.1 hp with h | h
    · exact hal p (HO2.out.rows p h)
    · rw [List.mem_singleton.1 h];exact hal _ HM2.out)
   have HPE:=hid (show (P++[((.slice (some ⟨g2,0,none⟩) q c2,R2):Pg)]).map (fun p=>p.2.map (·.1))++pagesF ((Q.drop q).map (·.1))=T from by
    have h:=hP.out.2
    rw [HPG.out] at h
    rw [←h,List.map_append,List.append_assoc]
    congr 1
    show [R2.map (·.1)]++_=_
    rw [HMAP.out];rfl)
   have HPL:=hid (show pn+1=(P++[((.slice (some ⟨g2,0,none⟩) q c2,R2):Pg)]).length from by rw [List.length_append,←HP1.out];rfl)
   clear g2' hO hP
   go_wp2_with fail
   go_roundw
   case rel=>exact⟨m - q,pn+1,Q.drop q,P++[((.slice (some ⟨g2,0,none⟩) q c2,R2):Pg)],_,_,o3,c3,rfl,rfl,by omega,by omega,hid ⟨HDR.out,HDL.out,HMQ.out⟩,hid ⟨HPL.out,HPE.out⟩,HOP,HB3⟩
   case measure=>simp;omega
  ·
   obtain rfl:m=0:=by omega
   have HF:=hid (show P.map (fun p=>p.2.map (·.1))=T from by
    have h:=hP.out.2
    obtain rfl:Q=[]:=List.eq_nil_of_length_eq_zero hQ.out.2.1.symm
    rw [List.map_nil,pagesF_nil,List.append_nil] at h
    exact h)
   go_wp2_with fail
   go_ret
   exact⟨_,P,rfl,by rw [←HB.out];exact hO.out,HF.out.trans HT.out,hb.out⟩
end Go.Proofs.YtpeoonnglnchnaaGreatDoor.Mut

namespace Go.Proofs.YtpeoonnglnchnaaGreatDoor.Mut
open Go.Lib (hid)
open Go.RowKit Go.Sort Go.Proofs.YtpeoonnglnchnaaGreatDoor.Ord
set_option linter.unusedSectionVars false
variable [Inhabited Lim]
theorem sib_less (x y:Mu):decide (sibC x y<0)=(Op.bytesLess x.key.toList y.key.toList || (x.key.toList == y.key.toList && decide (muC x y<0))):=by
 have hsib:sibC x y=orL [cmpS x.key y.key,muC x y]:=rfl
 rw [hsib]
 have h1:=cmpS_lt x.key y.key
 have h2:=cmpS_gt x.key y.key
 rcases less_total x.key.toList y.key.toList with h | h | h
 ·
  rw [h]
  have hc:=h1.2 h
  have e:orL [cmpS x.key y.key,muC x y]=cmpS x.key y.key:=by simp [orL,show ¬ cmpS x.key y.key=0 by omega]
  rw [e];simp [hc]
 ·
  have hx:=bytes_ext h
  have hself:cmpS x.key y.key=0:=by
   rw [h,less_irrefl] at h1 h2
   simp at h1 h2
   omega
  have e:orL [cmpS x.key y.key,muC x y]=muC x y:=by
   simp only [orL,hself]
   by_cases hm:muC x y=0 <;> simp [hm]
  rw [e,h,less_irrefl];simp
 ·
  have hc:=h2.2 h
  have hne:(x.key.toList == y.key.toList)=false:=by simpa using (less_ne h).symm
  have e:orL [cmpS x.key y.key,muC x y]=cmpS x.key y.key:=by simp [orL,show ¬ cmpS x.key y.key=0 by omega]
  rw [e,less_asymm h,hne]
  simp
  omega
theorem refless15_any (x y:Ro) (w:World) (hx:Over w x) (hy:Over w y) (h1:x.1.over.length≤1000000) (h2:y.1.over.length≤1000000) :
  Calls Tryz.prog 91 #[vM x,vM y] w fun e w'=>e=.returned (.bool (decide (sibC x.1 y.1<0)))∧Below w.heap.size w w':=by
 have hc:=fun (z:World) (h:Below w.heap.size w z)=>refcompare_any x y z (hx.below h) (hy.below h) h1 h2
 rw [sib_less]
 obtain⟨c,hce⟩:∃ c,c=muC x.1 y.1:=⟨_,rfl⟩
 rw [←hce] at hc ⊢
 obtain⟨ao1,ac1,e1,-,-⟩:=Over.form hx
 obtain⟨ao2,ac2,e2,-,-⟩:=Over.form hy
 obtain⟨⟨at1,ak1,akey1,afin1,aval1,aex1,⟨ap1,al1,aw1⟩,aov1⟩,av1⟩:=x
 obtain⟨⟨at2,ak2,akey2,afin2,aval2,aex2,⟨ap2,al2,aw2⟩,aov2⟩,av2⟩:=y
 simp only [] at e1 e2
 subst e1 e2
 unfold vM at hc ⊢
 simp only [] at hc ⊢
 generalize aov1.length=n1 at *
 generalize aov2.length=n2 at *
 have hb2:=((Below.refl w.heap.size w).alloc (Nat.le_refl _) (.cells #[.int .i64 at1,.int .i64 ak1,.string akey1,.string afin1,.string aval1,.int .i64 aex1,.int .i64 ap1,.int .i64 al1,.int .i64 aw1,.slice ao1 n1 ac1] 42)).alloc (by simp) (.cells #[.int .i64 at2,.int .i64 ak2,.string akey2,.string afin2,.string aval2,.int .i64 aex2,.int .i64 ap2,.int .i64 al2,.int .i64 aw2,.slice ao2 n2 ac2] 42)
 have HC:=hid hc
 have HB2:=hid hb2
 clear hc hx hy h1 h2 hce hb2
 cases hl:Op.bytesLess akey1.toList akey2.toList
 ·
  cases he:(akey1.toList == akey2.toList)
  ·
   go_enter Tryz.func91,Tryz.ntmps91
   go_wp2_with fail
   go_ret
   exact⟨rfl,HB2.out⟩
  ·
   go_enter Tryz.func91,Tryz.ntmps91
   go_wp2_with fail
   refine (HC.out _ HB2.out).mono ?_
   rintro e w1 ⟨rfl,hb1⟩
   have HB3:=hid (below_then HB2.out (Nat.le_refl _) hb1)
   clear hb1
   go_wp2_with fail
   go_ret
   exact⟨by simp,HB3.out⟩
 ·
  go_enter Tryz.func91,Tryz.ntmps91
  go_wp2_with fail
  go_ret
  exact⟨rfl,HB2.out⟩
end Go.Proofs.YtpeoonnglnchnaaGreatDoor.Mut
