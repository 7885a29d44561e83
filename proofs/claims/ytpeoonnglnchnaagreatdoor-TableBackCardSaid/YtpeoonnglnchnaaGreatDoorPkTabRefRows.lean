/- PkTabRefRows. -/
import Derived.Test.YtpeoonnglnchnaaGreatDoorPkTabKeys
set_option linter.unusedSectionVars false
set_option linter.unusedSimpArgs false
set_option linter.unusedVariables false
set_option maxHeartbeats 16000000
set_option maxRecDepth 100000
namespace Go.Proofs.YtpeoonnglnchnaaGreatDoor.Mut
open Go.Lib (hid)
open RowKit Go.Sort YtpeoonnglnchnaaGreatDoor.Ord RegInv
variable [Inhabited Lim]
theorem own_empty (w:World) (base:Nat) (hb:base<=w.heap.size):(w.alloc (.cells #[] 42)).ownsRow base 42 10 (.slice (some ⟨w.heap.size,0,none⟩) 0 0) 0 []:=
 ⟨rfl,Or.inr ⟨w.heap.size,0,#[],rfl,hb,heap_alloc_new w _,Nat.le_refl _,Nat.zero_le _,rfl,rfl⟩⟩
def OwnM (B:Nat) (l:List Ro) (v:Value) (W:World):Prop:=W.ownsRow B 42 10 v l.length (l.flatMap enM)
def sOwnM (B:Nat) (l:List Ro):RSpec:=sOne (OwnM B l) (fun _ _ _ h hb=>row_below h hb)
theorem refrows16_any (a b d:Value) (c:Con) (n:Nat) (w:World) (hc:Lies w a b d c) (hsm:∀ m∈c.cells++c.sibs,m.over.length<=1000000) (hd:(c.cells++c.sibs).Nodup) (hlen:(c.cells++c.sibs).length<=100000) :
  Calls Tryz.prog 11 #[.agg #[a,b,d]] w (RowsP w (c.cells++c.sibs)):=by
 obtain⟨ao,na,ac,rfl⟩:=hc.cells.slice
 obtain⟨bo,nb,bc,rfl⟩:=hc.wipes.slice
 obtain⟨dd,nd,dc,rfl⟩:=hc.sibs.slice
 obtain⟨A,eA,hA⟩:=hc.cells
 obtain⟨D,eD,hD⟩:=hc.sibs
 have eall:(A++D).map (·.1)=c.cells++c.sibs:=by rw [List.map_append,eA,eD]
 obtain⟨_,_,e1,-,-⟩:=hA.form
 obtain⟨rfl⟩:na=A.length:=by injection e1
 obtain⟨_,_,e2,-,-⟩:=hD.form
 obtain⟨rfl⟩:nd=D.length:=by injection e2
 have hl:A.length+D.length<=100000:=by rw [<-eall,lm0,la0] at hlen;exact hlen
 rw [<-eall] at hd hsm ⊢
 have HSRT:=hid (fun (v:Value) (z:World) (hz:Below w.heap.size w z) (hv:MRow z v (A++D))=>refsort_any v (A++D) z hv hd (fun x hx=>hsm x.1 (List.mem_map.2 ⟨x,hx,rfl⟩)) (by rw [la0];exact hl))
 have HR:=hid (And.intro hA hD)
 clear hA hD eA eD e1 e2 hc hd hsm hlen eall
 obtain⟨p,hp⟩:∃ p,p=A.length:=⟨_,rfl⟩
 obtain⟨q,hq⟩:∃ p,p=D.length:=⟨_,rfl⟩
 rw [<-hp,<-hq] at HR hl ⊢
 have HPQ:=hid (And.intro hp hq)
 clear hp hq
 obtain⟨W1,hW1⟩:∃ W,W=w.alloc (.cells #[.slice ao p ac,.slice bo nb bc,.slice dd q dc] 25):=⟨_,rfl⟩
 obtain⟨k,hk⟩:∃ k,k=w.heap.size:=⟨_,rfl⟩
 have hc3:C3 W1 k (.slice ao p ac) (.slice bo nb bc) (.slice dd q dc):=by rw [hW1,hk];exact C3.newR _ _ _ _
 have hb1:Below w.heap.size w W1:=by rw [hW1];exact br.alloc lr _
 have hs1:W1.heap.size=w.heap.size+1:=by rw [hW1];simp
 have HW1:=hid hW1
 have HB1:=hid hb1
 have HK:=hid hk
 have HS1:=hid hs1
 clear hW1 hb1 hk hs1
 obtain⟨hk0,c0,c1,c2,-⟩:=hc3
 go_enter Tryz.func11,Tryz.ntmps11
 go_upto_region 1 with fail
 rw [<-HW1.out,<-HK.out]
 obtain⟨B,hB⟩:∃ B,B=W1.heap.size:=⟨_,rfl⟩
 have HBS:=hid (show ∀ W,Below B W1 W->B<=W.heap.size from fun W hW=>by rw [hB];exact hW.size)
 have hcm:∀ a b,Below B W1 a->Below a.heap.size a b->Below B W1 b:=fun a b h hb=>below_then h (by rw [hB];exact Nat.le_refl _) hb
 have hpr:∀ (j:Nat) (a b:World),(j=0->(fun _=>True) a)->Below a.heap.size a b->(j=0->(fun _=>True) b):=fun _ _ _ _ _ _=>trivial
 have HWW:=hid (show ∀ W,Below B W1 W->Below w.heap.size w W from fun W hW=>below_then HB1.out lr (by rw [hB] at hW;exact hW))
 have HC3:=hid (show ∀ W,Below B W1 W->W.cell? ⟨k,0,none⟩=some (.slice ao p ac)/\W.cell? ⟨k,2,none⟩=some (.slice dd q dc) from fun W hW=>by
  rw [hB] at hW
  exact⟨(hW.cell (p:=⟨k,0,none⟩) hk0).trans c0,(hW.cell (p:=⟨k,2,none⟩) hk0).trans c2⟩)
 clear c0 c1 c2 HW1 hB
 refine RegLin.wp_region_lin (RegLin.useL [(0,3),(3,6)]) (fun W=>Below B W1 W) (fun j W=>j=0->(fun _=>True) W) 7 [false,false,false,true,true,true,true,true,true,true,false]
  [sOwnM B ([]),
  sLit (.pointer (some ⟨k,0,none⟩)),
  sLit (.slice ao p ac),
  sOwnM B (A),
  sLit (.pointer (some ⟨k,2,none⟩)),
  sLit (.slice dd q dc),
  sOwnM B (A++D)] (br.drew) (fun j _ _=>trivial) (by kernel_rfl) (by kernel_rfl) (by kernel_rfl) (by kernel_rfl) (fun F hF=>?_)
 simp only [over,overL,Nat.reduceAdd] at hF
 obtain rfl:=funext hF
 clear hF
 refine⟨⟨?_,?_,?_,?_,?_,?_,?_,trivial⟩,?_⟩
 ·
  intro V W hc hp hd K hK _
  clear hd
  have hbw:B<=W.heap.size:=HBS.out W hc
  have HC:=hid hc
  clear hc hp
  go_wp2_with fail
  refine hK _ _ ?_ ?_ ?_
  . rfl
  . exact RegLin.keeps_below hcm hpr HC.out (br.alloc lr _)
  . exact own_empty W B hbw
 ·
  intro V W hc hp hd K hK _
  clear hd
  go_wp2_with fail
  exact hK _ _ rfl (RegLin.keeps_below hcm hpr hc br) rfl
 ·
  intro V W hc hp hd K hK _
  have h1:(V 4)=.pointer (some ⟨k,0,none⟩):=(RegLin.ask hd 1:)
  clear hd
  obtain⟨c0,c2⟩:=HC3.out W hc
  go_wp2_with fail
  exact hK _ _ rfl (RegLin.keeps_below hcm hpr hc br) rfl
 ·
  intro V W hc hp hd K hK _
  have h0:OwnM B ([]) (V 3) W:=(RegLin.ask hd 0:)
  have h2:(V 5)=.slice ao p ac:=(RegLin.ask hd 2:)
  clear hd
  have hbw:B<=W.heap.size:=HBS.out W hc
  have HA:=hid h0
  have e2:=h2
  have HC:=hid hc
  have HSRC:=hid (HR.out.1.below (HWW.out W hc))
  clear hc hp h0 h2
  go_wp2_with (at_builtin;refine wpList_append_rows rfl (.tmp 3) (.tmp 5) rfl B (V 3) 0 ((([]:List Ro)).flatMap enM) rfl HA.out _ _ _ A (by first | exact e2 | rfl) HSRC.out (by omega) hbw ?_)
  intro v1 w1 g1 g2
  have G1:=hid (show OwnM B (A) v1 w1 from (by unfold OwnM;rw [<-HPQ.out.1];simpa using g1))
  have G2:=hid (show Below B W1 w1 from HC.out.grown g2 hbw (fun k hk=>(World.ownsRow.lt HA.out k hk).1))
  clear g1 g2
  go_wp2_with fail
  refine hK _ _ ?_ ?_ ?_
  . rfl
  ·
   refine RegLin.keeps_by G2.out (by kernel_rfl) (fun j hj hne hl h=>?_)
   iterate 7 (rcases j with _ | j;first | exact h | exact absurd rfl hne | exact RegLin.dead hl)
   exact absurd hj (by omega)
  . exact G1.out
 ·
  intro V W hc hp hd K hK _
  clear hd
  go_wp2_with fail
  exact hK _ _ rfl (RegLin.keeps_below hcm hpr hc br) rfl
 ·
  intro V W hc hp hd K hK _
  have h4:(V 7)=.pointer (some ⟨k,2,none⟩):=(RegLin.ask hd 4:)
  clear hd
  obtain⟨c0,c2⟩:=HC3.out W hc
  go_wp2_with fail
  exact hK _ _ rfl (RegLin.keeps_below hcm hpr hc br) rfl
 ·
  intro V W hc hp hd K hK _
  have h3:OwnM B (A) (V 6) W:=(RegLin.ask hd 3:)
  have h5:(V 8)=.slice dd q dc:=(RegLin.ask hd 5:)
  clear hd
  have hbw:B<=W.heap.size:=HBS.out W hc
  have HA:=hid (show W.ownsRow B 42 10 (V 6) p (A.flatMap enM) from by rw [HPQ.out.1];exact h3)
  have e2:=h5
  have HC:=hid hc
  have HSRC:=hid (HR.out.2.below (HWW.out W hc))
  clear hc hp h3 h5
  go_wp2_with (at_builtin;refine wpList_append_rows rfl (.tmp 6) (.tmp 8) rfl B (V 6) p ((A).flatMap enM) rfl HA.out _ _ _ D (by first | exact e2 | rfl) HSRC.out (by omega) hbw ?_)
  intro v1 w1 g1 g2
  have G1:=hid (show OwnM B (A++D) v1 w1 from (by unfold OwnM;rw [la0,<-HPQ.out.1,<-HPQ.out.2,fa0];exact g1))
  have G2:=hid (show Below B W1 w1 from HC.out.grown g2 hbw (fun k hk=>(World.ownsRow.lt HA.out k hk).1))
  clear g1 g2
  go_wp2_with fail
  refine hK _ _ ?_ ?_ ?_
  . rfl
  ·
   refine RegLin.keeps_by G2.out (by kernel_rfl) (fun j hj hne hl h=>?_)
   iterate 7 (rcases j with _ | j;first | exact h | exact absurd rfl hne | exact RegLin.dead hl)
   exact absurd hj (by omega)
  . exact G1.out
 ·
  intro V W hc hd
  have h6:OwnM B (A++D) (V 9) W:=hd 6 (by decide) rfl
  clear hd
  simp only [List.drop_succ_cons,List.drop_zero]
  have H9:=hid h6
  have HBW:=hid (HWW.out W hc)
  have hm:MRow W (V 9) (A++D):=own_mrow h6 (fun x hx=>by
   rcases List.mem_append.1 hx with h | h
   . exact (HR.out.1.below HBW.out).over x h
   . exact (HR.out.2.below HBW.out).over x h)
  have HM:=hid hm
  clear h6 hm hc hpr hcm
  go_wp2_with fail
  refine (HSRT.out (V 9) W HBW.out HM.out).mono ?_
  rintro e w5 ⟨v5,R',rfl,g1,g2,g3,g4⟩
  have HB5:=hid (below_then HBW.out lr g4)
  have HF:=hid (And.intro g1 (And.intro g2 g3))
  clear g1 g2 g3 g4
  go_wp2_with fail
  go_ret
  refine⟨v5,R',rfl,HF.out.1,own_mrow (own_base HF.out.2.1 HBW.out.size) (fun x hx=>?_),HB5.out⟩
  rcases List.mem_append.1 (HF.out.2.2 x hx) with h | h
  . exact (HR.out.1.below HB5.out).over x h
  . exact (HR.out.2.below HB5.out).over x h
end Go.Proofs.YtpeoonnglnchnaaGreatDoor.Mut
namespace Go.Proofs.YtpeoonnglnchnaaGreatDoor.Mut
open Go.Lib (hid)
open RowKit Go.Sort Go.Shelf YtpeoonnglnchnaaGreatDoor.Ord YtpeoonnglnchnaaGreatDoor.Spare
variable [Inhabited Lim]
theorem refkeys_any (v:Value) (R:List Ro) (w:World) (hr:MRow w v R) (hn:R.length<=100000) :
  Calls Tryz.prog 57 #[v] w fun e w'=>∃ v',e=.returned v'/\OwnT w' w.heap.size v' (dupF (R.map (·.1.key)))/\Below w.heap.size w w':=by
 obtain⟨ro,cap,rfl,-,-⟩:=hr.form
 obtain⟨n,hnr⟩:∃ k,k=R.length:=⟨_,rfl⟩
 rw [<-hnr] at hr hn ⊢
 have HI:=hid info_parts_T
 obtain⟨i0,hI⟩:=HI.out
 have HI:=hid hI
 obtain⟨K,hK⟩:∃ K,K=R.map (·.1.key):=⟨_,rfl⟩
 rw [<-hK]
 have HR:=hid hr
 have HN:=hid (show n=K.length from by rw [hK,lm0];exact hnr)
 have HK:=hid (fun (z:World) (hb:Below w.heap.size w z) (k:Nat) (hk:k<n)=>show ∃ b off ky,ro=some ⟨b,off,none⟩/\b<z.heap.size/\K[k]?=some ky/\z.cell? ⟨b,off+k*10+2,none⟩=some (.string ky) from by
  obtain⟨x,hx⟩:∃ x,R[k]?=some x:=⟨_,ge0 (by omega)⟩
  obtain⟨xb,xoff,hao,hat⟩:=(hr.below hb).at_ hx
  obtain⟨hbl0,a0,a1,a2,a3,a4,a5,a6,a7,a8,a9⟩:=hat
  exact⟨xb,xoff,x.1.key,hao,hbl0,by rw [hK,List.getElem?_map,hx];rfl,a2⟩)
 clear hI hr hnr hK
 go_enter Tryz.func57,Tryz.ntmps57
 go_wp2_with fail
 go_loopw [3,4] (fun ov iv wr=>∃ (k m:Nat) (oo:Option Addr) (oc:Nat),k<=n/\m<=k/\iv=.int .i64 k/\ov=.slice oo m oc/\Hid (m=(dupTo K k).length)/\Hid (wr.ownsRow w.heap.size 9 1 (.slice oo m oc) m ((dupTo K k).flatMap enTx))/\Hid (Below w.heap.size w wr)) (fun _ iv _=>n - (intOf iv).toNat)
 case atStart=>exact⟨0,0,none,0,by omega,by omega,rfl,rfl,hid rfl,hid (World.ownsRow_nil _ _ _ _),hid br⟩
 case round=>
  obtain⟨k,m,oo,oc,hk,hmk,rfl,rfl,hm,ho,hb⟩:=hrel
  by_cases hlt:k<n
  ·
   obtain⟨xb,xoff,x,hao,hbl0,hx,a2⟩:=HK.out wr hb.out k hlt
   cases hao
   have HX:=hid hx
   clear hx
   have ho_below:∀ z,Below wr.heap.size wr z->z.ownsRow w.heap.size 9 1 (.slice oo m oc) m ((dupTo K k).flatMap enTx):=fun z hz=>World.ownsRow.kept ho.out (Mrk.grown_below (row:=none) hz) (by cases (Value.slice oo m oc).ownBlock <;> simp)
   have HOB:=hid ho_below
   clear ho_below
   rcases Nat.eq_zero_or_pos k with h0 | hpos
   ·
    subst h0
    have HD:=hid (show dupTo K 1=dupTo K 0++[x] from dupTo_first K x HX.out)
    obtain rfl:m=0:=by omega
    go_upto_region 5 with fail
    refine wp_region_calm (by kernel_rfl) (by kernel_rfl) ?_
    repeat (go_big_quiet_step (fail))
    refine wpQuiet_nil ?_
    rintro _ ⟨z,rfl⟩
    obtain⟨w1,hw1⟩:∃ w1,w1=z.at:=⟨_,rfl⟩
    have hz:=z.below
    rw [<-hw1] at hz ⊢
    have a3:w1.cell? ⟨xb,xoff+2,none⟩=some (.string x):=by
     have h:=(hz.cell (p:=⟨xb,xoff+2,none⟩) hbl0).trans (by simpa using a2)
     exact h
    have hsz:=hz.size
    have HB1:=hid (below_then hb.out lr hz)
    have HO1:=hid (HOB.out w1 hz)
    clear hw1 z hz a2
    go_wp2_with (at_builtin;refine wpList_append_own_loc rfl _ _ 85 rfl w.heap.size 9 i0 (.string ByteArray.empty) [.string ByteArray.empty] 16 Tryz.underlying85 HI.out.1 HI.out.2.1 rfl HI.out.2.2.1 HI.out.2.2.2 (by decide) (.slice oo 0 oc) 0 ((dupTo K 0).flatMap enTx) rfl (HO1.out.alloc _) ⟨_,0,none⟩ 1 1 [.string x] rfl (by decide) rfl (news_one (new_cell _ _ _)) (by intro u hu;simp at hu;subst hu;rfl) (by unfold maxLen;omega) (by omega) (by have:=HB1.out.size;simp;omega) ?_)
    intro v1 w2 g1 g2 g3
    obtain⟨o1,c1,rfl⟩:∃ o1 c1,v1=.slice o1 (0+1) c1:=by
     rcases g1.2 with ⟨h1,h0⟩ | ⟨g,cap,cur,h1,_⟩
     . omega
     . exact⟨_,_,h1⟩
    have HB3:=hid (show Below w.heap.size w w2 from (HB1.out.alloc HB1.out.size _).grown g2 (by have:=HB1.out.size;simp;omega) (fun q hq=>(World.ownsRow.lt HO1.out q hq).1))
    have HO3:=hid (show w2.ownsRow w.heap.size 9 1 (.slice o1 1 c1) 1 ((dupTo K 1).flatMap enTx) from by rw [HD.out];exact g1)
    clear g1 g2 g3
    go_wp2_with fail
    go_roundw
    case rel=>exact⟨1,1,o1,c1,by omega,by omega,by go_num,rfl,hid (by rw [HD.out];rfl),HO3,HB3⟩
    case measure=>simp [intOf];omega
   ·
    obtain⟨p,rfl⟩:∃ p,k=p+1:=⟨k - 1,by omega⟩
    obtain⟨yb,yoff,y,hao,-,hy,b2⟩:=HK.out wr hb.out p (by omega)
    cases hao
    have hd:=dupTo_next K p x y hy HX.out
    have e1:((p+1:Nat):Int)=(p:Int)+1:=by omega
    have e0:(((p:Int)+1) == 0)=false:=by simp;omega
    have j0:(0:Int)<=(p:Int):=by omega
    have j1:(p:Int)+1<(n:Int):=by omega
    have j2:(p:Int)<(n:Int):=by omega
    clear hy HX
    cases hq:(!x.toList == y.toList)
    ·
     have hxy:x=y:=bytes_ext (by simpa using hq)
     have HD:=hid (show dupTo K (p+1+1)=dupTo K (p+1) from by rw [hd,if_pos hxy,List.append_nil])
     clear hd hxy
     go_upto_region 5 with fail
     refine wp_region_calm (by kernel_rfl) (by kernel_rfl) ?_
     repeat (go_big_quiet_step (fail))
     refine wpQuiet_nil ?_
     rintro _ ⟨z,rfl⟩
     obtain⟨w1,hw1⟩:∃ w1,w1=z.at:=⟨_,rfl⟩
     have hz:=z.below
     rw [<-hw1] at hz ⊢
     have HB1:=hid (below_then hb.out lr hz)
     have HO1:=hid (HOB.out w1 hz)
     clear hw1 z hz a2 b2
     go_wp2_with fail
     go_roundw
     case rel=>exact⟨p+1+1,m,oo,oc,by omega,by omega,by go_num,rfl,hid (by rw [HD.out];exact hm.out),hid (by rw [HD.out];exact HO1.out),HB1⟩
     case measure=>simp [intOf];omega
    ·
     have hxy:¬ x=y:=fun e=>by subst e;simp at hq
     have HD:=hid (show dupTo K (p+1+1)=dupTo K (p+1)++[x] from by rw [hd,if_neg hxy])
     clear hd hxy
     go_upto_region 5 with fail
     refine wp_region_calm (by kernel_rfl) (by kernel_rfl) ?_
     repeat (go_big_quiet_step (fail))
     refine wpQuiet_nil ?_
     rintro _ ⟨z,rfl⟩
     obtain⟨w1,hw1⟩:∃ w1,w1=z.at:=⟨_,rfl⟩
     have hz:=z.below
     rw [<-hw1] at hz ⊢
     have a3:w1.cell? ⟨xb,xoff+(p+1)*10+2,none⟩=some (.string x):=(hz.cell (p:=⟨xb,xoff+(p+1)*10+2,none⟩) hbl0).trans a2
     have hsz:=hz.size
     have HB1:=hid (below_then hb.out lr hz)
     have HO1:=hid (HOB.out w1 hz)
     clear hw1 z hz a2 b2
     go_wp2_with (at_builtin;refine wpList_append_own_loc rfl _ _ 85 rfl w.heap.size 9 i0 (.string ByteArray.empty) [.string ByteArray.empty] 16 Tryz.underlying85 HI.out.1 HI.out.2.1 rfl HI.out.2.2.1 HI.out.2.2.2 (by decide) (.slice oo m oc) m ((dupTo K (p+1)).flatMap enTx) rfl (HO1.out.alloc _) ⟨_,0,none⟩ 1 1 [.string x] rfl (by decide) rfl (news_one (new_cell _ _ _)) (by intro u hu;simp at hu;subst hu;rfl) (by unfold maxLen;omega) (by omega) (by have:=HB1.out.size;simp;omega) ?_)
     intro v1 w2 g1 g2 g3
     obtain⟨o1,c1,rfl⟩:∃ o1 c1,v1=.slice o1 (m+1) c1:=by
      rcases g1.2 with ⟨h1,h0⟩ | ⟨g,cap,cur,h1,_⟩
      . omega
      . exact⟨_,_,h1⟩
     have HB3:=hid (show Below w.heap.size w w2 from (HB1.out.alloc HB1.out.size _).grown g2 (by have:=HB1.out.size;simp;omega) (fun q hq=>(World.ownsRow.lt HO1.out q hq).1))
     have HO3:=hid (show w2.ownsRow w.heap.size 9 1 (.slice o1 (m+1) c1) (m+1) ((dupTo K (p+1+1)).flatMap enTx) from by rw [HD.out,fa0];exact g1)
     clear g1 g2 g3
     go_wp2_with fail
     go_roundw
     case rel=>exact⟨p+1+1,m+1,o1,c1,by omega,by omega,by go_num,rfl,hid (by rw [HD.out,la0,<-hm.out];rfl),HO3,HB3⟩
     case measure=>simp [intOf];omega
  ·
   obtain rfl:k=n:=by omega
   go_wp2_with fail
   go_ret
   refine⟨_,rfl,?_,hb.out⟩
   unfold OwnT dupF
   rw [<-HN.out,<-hm.out];exact ho.out
end Go.Proofs.YtpeoonnglnchnaaGreatDoor.Mut
namespace Go.Proofs.YtpeoonnglnchnaaGreatDoor.Mut
open Go.Lib (hid)
open RowKit Mrk YtpeoonnglnchnaaGreatDoor.Spare
structure RfAt (w wr:World) (N:Nat) (F:Nat->Bool):Prop where
 below:Below w.heap.size w wr
 row:wr.rowIs w.heap.size 4 N (fun j=>.bool (F j))
theorem RfAt.after {w wr w':World} {N:Nat} {F:Nat->Bool} (h:RfAt w wr N F) (hb:Below wr.heap.size wr w'):RfAt w w' N F:=
 ⟨below_then h.below lr hb,h.row.of_block (hb.block _ h.row.lt)⟩
theorem RfAt.set {w wr:World} {N p:Nat} {F:Nat->Bool} (h:RfAt w wr N F):RfAt w (wr.setCell ⟨w.heap.size,p,none⟩ (.bool true)) N (setF F p):=
 ⟨h.below.setCell lr _,World.rowIs.congr (World.rowIs.set h.row p _) (fun j hj=>by
  unfold setF
  by_cases e:j=p
  . rw [if_pos e,dt0 e];rfl
  . rw [if_neg e,df0 e];rfl)⟩
theorem refsv_any [Inhabited Lim] (v:Value) (K:List ByteArray) (w:World) (hr:TxRow w v K) (hn:K.length<=50000) (hs:∀ k∈K,k.size<=1000000) :
  Calls Tryz.prog 56 #[v] w fun e w'=>∃ g,e=.returned (.slice (some ⟨g,0,none⟩) (8*sizeF K.length) (8*sizeF K.length))/\w.heap.size<=g/\w'.rowIs g 4 (8*sizeF K.length) (fun j=>.bool (ofF (8*sizeF K.length) K j))/\Below w.heap.size w w':=by
 obtain⟨ro,cap,rfl,-,-⟩:=hr.form
 obtain⟨n,hnr⟩:∃ k,k=K.length:=⟨_,rfl⟩
 rw [<-hnr] at hr hn ⊢
 obtain⟨L,hL⟩:∃ L,L=sizeF n:=⟨_,rfl⟩
 rw [<-hL]
 have hL0:0<L:=by rw [hL];unfold sizeF;omega
 have hL1:L<=65536:=by rw [hL];unfold sizeF;omega
 have hbig:1+10*n / 8=L:=by rw [hL];unfold sizeF;omega
 obtain⟨N,hN⟩:∃ N,N=8*L:=⟨_,rfl⟩
 rw [<-hN]
 have hmk:∀ w:World,(Instr.makeSlice 94 (.int .i64 N) (.int .i64 N)).run Tryz.prog w=.ok (.slice (some ⟨w.heap.size,0,none⟩) N N) (w.alloc (.cells (madeCells #[.bool false] N) 4)):=fun w=>
  run_make_row' (P:=Tryz.prog) 94 4 (.bool false) 1 Tryz.underlying94 (by kernel_rfl) rfl .i64 .i64 N (by omega) (by omega) w
 have h8:(8:Int)*(L:Int)=(N:Int):=by omega
 have hN0:0<N:=by omega
 have hN1:N<=524288:=by omega
 have HPL:=hid (fun (s:ByteArray) (z:World) (h:s.size<=1000000)=>bits_any s N z h hN0 hN1)
 have HR:=hid hr
 have HN:=hid hnr
 have HSZ:=hid hs
 clear hr hnr hs hL hN
 have hq1:1+10*(n:Int) / 8=(L:Int):=by omega
 have hq2:¬ ((65536:Int)<(L:Int)):=by omega
 go_enter Tryz.func56,Tryz.ntmps56
 go_wp2_with fail
 have HST:=hid (show RfAt w (w.alloc (.cells (madeCells #[.bool false] N) 4)) N (fun _=>false) from
  ⟨(Below.refl _ w).alloc lr _,World.rowIs_made w (.bool false) N 4⟩)
 clear hmk hq1 hq2
 go_loopw [5] (fun iv wr=>∃ k:Nat,k<=n/\iv=.int .i64 k/\Hid (RfAt w wr N (ofF N (K.take k)))) (fun iv _=>n - (intOf iv).toNat)
 case atStart=>exact⟨0,by omega,rfl,HST⟩
 case round=>
  obtain⟨k,hk,rfl,hst⟩:=hrel
  by_cases hlt:k<n
  ·
   obtain⟨x,hx⟩:∃ x,K[k]?=some x:=⟨_,ge0 (by have:=HN.out;omega)⟩
   obtain⟨xb,xoff,hao,hxb,hxc⟩:=str_at (Lst.below HR.out hst.out.below) hx
   cases hao
   have HX:=hid hx
   have HSX:=hid (HSZ.out x (mg0 hx))
   have j0:(0:Int)<=(k:Int):=by omega
   have j1:(k:Int)<(n:Int):=by omega
   clear hx
   go_wp2_with fail
   refine (HPL.out x _ HSX.out).mono ?_
   rintro e w1 ⟨v1,rfl,ho1,hb1⟩
   have HS1:=hid (hst.out.after hb1)
   obtain⟨lb,lc,rfl,hlb,hlt1,hcl⟩:∃ lb lc,v1=.slice (some ⟨lb,0,none⟩) 4 lc/\wr.heap.size<=lb/\lb<w1.heap.size/\∀ m,m<4->w1.cell? ⟨lb,m,none⟩=some (.int .i64 (ptF x N m:Nat)):=by
    have hl:=World.ownsRow.lt ho1
    have ho2:=ho1
    obtain⟨-,⟨h1,h2⟩ | ⟨g,cap,cur,h1,-⟩⟩:=ho2
    . exact absurd h2 (by simp [ptsF])
    ·
     subst h1
     refine⟨g,cap,rfl,(hl g rfl).1,(hl g rfl).2,fun m hm=>?_⟩
     have h:=World.ownsRow.cells ho1 (g:=g) rfl m (.int .i64 (ptF x N m:Nat)) (by
      rcases m with _ | _ | _ | _ | m
      . rfl
      . rfl
      . rfl
      . rfl
      . omega)
     rw [addr_add,Nat.zero_add] at h
     exact h
   have HLB:=hid (show w.heap.size≠lb from by have:=hst.out.row.lt;omega)
   clear ho1 hb1 hxb hxc hlb
   go_wp2_with fail
   have HF0:=hid (show RfAt w w1 N (setTo (ofF N (K.take k)) x N 0) from HS1.out)
   have HCL:=hid hcl
   clear hcl
   go_loopw [7] (fun iv wr=>∃ m:Nat,m<=4/\iv=.int .i64 m/\lb<wr.heap.size/\Hid (∀ m,m<4->wr.cell? ⟨lb,m,none⟩=some (.int .i64 (ptF x N m:Nat)))/\Hid (RfAt w wr N (setTo (ofF N (K.take k)) x N m))) (fun iv _=>4 - (intOf iv).toNat)
   case atStart=>exact⟨0,by omega,rfl,hlt1,HCL,HF0⟩
   case round=>
    obtain⟨m,hm,rfl,hlb2,hcl,hst⟩:=hrel
    by_cases hlt4:m<4
    ·
     have cm:=hcl.out m hlt4
     obtain⟨p,hp⟩:∃ p,p=ptF x N m:=⟨_,rfl⟩
     rw [<-hp] at cm
     have hpN:p<N:=by rw [hp];exact pt_lt x N m hN0
     have cp:=World.rowIs.cell hst.out.row hpN
     have fp:=World.rowIs.frozen hst.out.row p
     have hgl:=hst.out.row.lt
     have HP:=hid hp
     have j2:(0:Int)<=(p:Int):=by omega
     have j3:(p:Int)<(N:Int):=by omega
     have j4:(0:Int)<=(m:Int):=by omega
     have j5:(m:Int)<4:=by omega
     have HNEW:=hid (show RfAt w (wr.setCell ⟨w.heap.size,p,none⟩ (.bool true)) N (setTo (ofF N (K.take k)) x N (m+1)) from by
      have h:=hst.out.set (p:=p)
      rw [hp] at h ⊢
      exact h)
     have HC2:=hid (show ∀ m,m<4->(wr.setCell ⟨w.heap.size,p,none⟩ (.bool true)).cell? ⟨lb,m,none⟩=some (.int .i64 (ptF x N m:Nat)) from fun m hm=>by
      have:=hcl.out m hm
      have:=HLB.out
      go_simp)
     clear hp
     go_wp2_with fail
     go_roundw
     case rel=>exact⟨m+1,by omega,by go_num,by simpa using hlb2,HC2,HNEW⟩
     case measure=>simp [intOf];omega
    ·
     obtain rfl:m=4:=by omega
     have HK:=hid (show RfAt w wr N (ofF N (K.take (k+1))) from by
      have e:ofF N (K.take (k+1))=setTo (ofF N (K.take k)) x N 4:=by
       unfold ofF
       rw [List.take_add_one,HX.out,List.foldl_append]
       rfl
      rw [e];exact hst.out)
     clear hst
     go_wp2_with fail
     go_roundw
     case rel=>exact⟨k+1,by omega,by go_num,HK⟩
     case measure=>simp [intOf];omega
  ·
   obtain rfl:k=n:=by omega
   have HF:=hid (show RfAt w wr N (ofF N K) from by
    have h:=hst.out
    rw [List.take_of_length_le (by have:=HN.out;omega)] at h
    exact h)
   clear hst
   go_wp2_with fail
   go_ret
   exact⟨_,rfl,Nat.le_refl _,HF.out.row,HF.out.below⟩
