/- TabAll. -/
import Derived.Test.YtpeoonnglnchnaaGreatDoorPkTabPgGet
set_option linter.unusedSectionVars false
set_option linter.unusedSimpArgs false
set_option linter.unusedVariables false
set_option maxHeartbeats 16000000
set_option maxRecDepth 100000
namespace Go.Proofs.YtpeoonnglnchnaaGreatDoor.Tab
open Go.Lib (hid)
open RowKit YtpeoonnglnchnaaGreatDoor.Spare Mut Mrk YtpeoonnglnchnaaGreatDoor.Rd
variable [Inhabited Lim]
def isSibB (m:Mu):Bool:=decide (m.table=2)
def conP (P:List (List Mu)) (W:List Mu):Con:=⟨P.flatten.filter (fun m=>!isSibB m),W,P.flatten.filter isSibB⟩
structure Acc (w:World) (B k:Nat) (cv wv sv:Value) (A D:List Ro):Prop where
 c3:C3 w k cv wv sv
 kb:k<B
 cells:w.ownsRow B 42 10 cv A.length (A.flatMap enM)
 sibs:w.ownsRow B 42 10 sv D.length (D.flatMap enM)
 apart:sv.ownBlock=none\/sv.ownBlock≠cv.ownBlock
 overs:∀ x∈A++D,w.ownsRow B 39 3 x.2 x.1.over.length (x.1.over.flatMap enS)
structure Side (w:World) (b:Nat) (cv sv rv:Value) (R:List Ro):Prop where
 row:w.ownsRow b 42 10 rv R.length (R.flatMap enM)
 over:∀ x∈R,w.ownsRow b 39 3 x.2 x.1.over.length (x.1.over.flatMap enS)
 offC:rv.ownBlock=none\/rv.ownBlock≠cv.ownBlock
 offS:rv.ownBlock=none\/rv.ownBlock≠sv.ownBlock
theorem Acc.below {w w':World} {B k:Nat} {cv wv sv:Value} {A D:List Ro} (h:Acc w B k cv wv sv A D) (hb:Below w.heap.size w w'):Acc w' B k cv wv sv A D:=
 ⟨h.c3.below hb,h.kb,row_below h.cells hb,row_below h.sibs hb,h.apart,fun x hx=>row_below (h.overs x hx) hb⟩
theorem Side.below {w w':World} {b:Nat} {cv sv rv:Value} {R:List Ro} (h:Side w b cv sv rv R) (hb:Below w.heap.size w w'):Side w' b cv sv rv R:=
 ⟨row_below h.row hb,fun x hx=>row_below (h.over x hx) hb,h.offC,h.offS⟩
theorem own_ne {w:World} {base k:Nat} {e:TypeId} {size n:Nat} {v:Value} {xs:List Value} (h:w.ownsRow base e size v n xs) (hk:k<base):v.ownBlock=none\/v.ownBlock≠some k:=by
 cases hv:v.ownBlock with
 | none=>exact Or.inl rfl
 | some j=>
  refine Or.inr fun e=>?_
  injection e with e
  have:=(World.ownsRow.lt h j hv).1
  omega
theorem own_far {w:World} {base:Nat} {e:TypeId} {size n:Nat} {v u u':Value} {xs:List Value} (h:w.ownsRow base e size v n xs) (ha:v.ownBlock=none\/v.ownBlock≠u.ownBlock) (hl:SpareLoc w u u'):v.ownBlock=none\/v.ownBlock≠u'.ownBlock:=by
 cases hv:v.ownBlock with
 | none=>exact Or.inl rfl
 | some j=>
  refine Or.inr fun e=>?_
  rcases hl j e.symm with h1 | h1
  ·
   rcases ha with h2 | h2
   . rw [hv] at h2;cases h2
   . exact h2 (by rw [hv,h1])
  . have:=(World.ownsRow.lt h j hv).2;omega
theorem far_sym {a b:Option Nat} (h:a=none\/a≠b):b=none\/b≠a:=by
 cases b with
 | none=>exact Or.inl rfl
 | some b=>exact Or.inr fun e=>by rcases h with h | h;rw [h] at e;cases e;exact h e.symm
theorem Acc.addC {w w1:World} {B k:Nat} {cv wv sv cv':Value} {A D:List Ro} {x:Ro} (h:Acc w B k cv wv sv A D) (hx:w.ownsRow B 39 3 x.2 x.1.over.length (x.1.over.flatMap enS)) (hr:w1.ownsRow B 42 10 cv' (A.length+1) ((A++[x]).flatMap enM)) (hg:w.grownBy w1 cv.ownBlock) (hl:SpareLoc w cv cv'):Acc (w1.setCell ⟨k,0,none⟩ cv') B k cv' wv sv (A++[x]) D:=by
 have hk:some k≠cv.ownBlock:=fun e=>by have:=(World.ownsRow.lt h.cells k e.symm).1;have:=h.kb;omega
 have c1:=h.c3.grown hg (fun e=>hk e.symm)
 have g2:=grown_cell w1 k 0 cv'
 have s1:=h.sibs.kept hg h.apart
 have ov:∀ y∈(A++D)++[x],w1.ownsRow B 39 3 y.2 y.1.over.length (y.1.over.flatMap enS):=fun y hy=>by
  have h1:w.ownsRow B 39 3 y.2 y.1.over.length (y.1.over.flatMap enS):=by
   rcases List.mem_append.1 hy with h1 | h1
   . exact h.overs y h1
   . rw [List.mem_singleton.1 h1];exact hx
  exact h1.kept hg (rows_apart h1 h.cells (by decide))
 refine⟨c1.set0 cv',h.kb,?_,s1.kept g2 (own_ne s1 h.kb),own_far h.sibs h.apart hl,fun y hy=>?_⟩
 . rw [la0];exact World.ownsRow.kept hr g2 (own_ne hr h.kb)
 ·
  have h1:=ov y (by simp only [List.mem_append] at hy ⊢;rcases hy with (h | h) | h;exact Or.inl (Or.inl h);exact Or.inr h;exact Or.inl (Or.inr h))
  exact h1.kept g2 (own_ne h1 h.kb)
theorem Acc.addS {w w1:World} {B k:Nat} {cv wv sv sv':Value} {A D:List Ro} {x:Ro} (h:Acc w B k cv wv sv A D) (hx:w.ownsRow B 39 3 x.2 x.1.over.length (x.1.over.flatMap enS)) (hr:w1.ownsRow B 42 10 sv' (D.length+1) ((D++[x]).flatMap enM)) (hg:w.grownBy w1 sv.ownBlock) (hl:SpareLoc w sv sv'):Acc (w1.setCell ⟨k,2,none⟩ sv') B k cv wv sv' A (D++[x]):=by
 have hk:some k≠sv.ownBlock:=fun e=>by have:=(World.ownsRow.lt h.sibs k e.symm).1;have:=h.kb;omega
 have c1:=h.c3.grown hg (fun e=>hk e.symm)
 have g2:=grown_cell w1 k 2 sv'
 have a1:=far_sym h.apart
 have s1:=h.cells.kept hg a1
 have ov:∀ y∈(A++D)++[x],w1.ownsRow B 39 3 y.2 y.1.over.length (y.1.over.flatMap enS):=fun y hy=>by
  have h1:w.ownsRow B 39 3 y.2 y.1.over.length (y.1.over.flatMap enS):=by
   rcases List.mem_append.1 hy with h1 | h1
   . exact h.overs y h1
   . rw [List.mem_singleton.1 h1];exact hx
  exact h1.kept hg (rows_apart h1 h.sibs (by decide))
 refine⟨?_,h.kb,s1.kept g2 (own_ne s1 h.kb),?_,far_sym (own_far h.cells a1 hl),fun y hy=>?_⟩
 ·
  obtain⟨h0,h1,h2,h3,h4,h5,h6⟩:=c1
  exact⟨by simpa using h0,by go_simp,by go_simp,by go_simp,by go_simp,by go_simp,by go_simp⟩
 . rw [la0];exact World.ownsRow.kept hr g2 (own_ne hr h.kb)
 ·
  have h1:=ov y (by simp only [List.mem_append] at hy ⊢;rcases hy with h | (h | h);exact Or.inl (Or.inl h);exact Or.inl (Or.inr h);exact Or.inr h)
  exact h1.kept g2 (own_ne h1 h.kb)
theorem Side.addC {w w1:World} {b B k o:Nat} {cv wv sv rv cv':Value} {A D R:List Ro} (h:Side w b cv sv rv R) (ha:Acc w B k cv wv sv A D) (hkb:k<b) (hg:w.grownBy w1 cv.ownBlock) (hl:SpareLoc w cv cv') (u:Value):Side (w1.setCell ⟨k,o,none⟩ u) b cv' sv rv R:=by
 have g2:=grown_cell w1 k o u
 have r1:=h.row.kept hg h.offC
 exact⟨r1.kept g2 (own_ne r1 hkb),fun x hx=>by have h1:=(h.over x hx).kept hg (rows_apart (h.over x hx) ha.cells (by decide));exact h1.kept g2 (own_ne h1 hkb),own_far h.row h.offC hl,h.offS⟩
theorem Side.addS {w w1:World} {b B k o:Nat} {cv wv sv rv sv':Value} {A D R:List Ro} (h:Side w b cv sv rv R) (ha:Acc w B k cv wv sv A D) (hkb:k<b) (hg:w.grownBy w1 sv.ownBlock) (hl:SpareLoc w sv sv') (u:Value):Side (w1.setCell ⟨k,o,none⟩ u) b cv sv' rv R:=by
 have g2:=grown_cell w1 k o u
 have r1:=h.row.kept hg h.offS
 exact⟨r1.kept g2 (own_ne r1 hkb),fun x hx=>by have h1:=(h.over x hx).kept hg (rows_apart (h.over x hx) ha.sibs (by decide));exact h1.kept g2 (own_ne h1 hkb),h.offC,own_far h.row h.offS hl⟩
def AllP (t:Nat) (lv wv fv:Value) (rd:Nat) (P:List (List Mu)) (W:List Mu) (F:Nat->Bool) (N:Nat) (w:World) (e:Ending) (w':World):Prop:=
 ∃ v',e=.returned (.tuple #[v',.int .i64 0])/\IsC (conP P W) v' w'/\Tbl w' t lv wv fv (rd+P.length) P W F N/\w.grownBy w' (some t)
theorem filt_snoc {x:Mu} {l:List Mu} {k:Nat} (h:l[k]?=some x) (f:Mu->Bool):(l.take (k+1)).filter f=(l.take k).filter f++(if f x then [x] else []):=by
 rw [List.take_add_one,h,List.filter_append]
 show _++List.filter f [x]=_
 cases h2:f x <;> simp [h2]
theorem tall_any (t:Nat) (lv wv fv:Value) (rd:Nat) (P:List (List Mu)) (W:List Mu) (F:Nat->Bool) (N:Nat) (w wb:World) (h:Tbl w t lv wv fv rd P W F N) (hT:Tabs wb) (hbw:Below wb.heap.size wb w) (htb:wb.heap.size<=t) (hP:GoodP P) (hW:∀ m∈W,rightF m=true) (hWl:W.length<=1000) (hrd:rd<=900000) :
  Calls Tryz.prog 19 #[.pointer (some ⟨t,0,none⟩)] w (AllP t lv wv fv rd P W F N w):=by
 have HT:=hid h
 have HGP:=hid hP
 have htw:=(ag0.1 h.box).1
 have HBB:=hid (show ∀ z,w.grownBy z (some t)->Below wb.heap.size wb z from fun z hg=>hbw.grown hg hbw.size (fun j hj=>by cases hj;exact htb))
 have HRD:=hid (fun (z:World) (rd:Nat) (i:Nat) (p:List Mu) (hz:Tbl z t lv wv fv rd P W F N) (hg:w.grownBy z (some t)) (hp:P[i]?=some p) (hr:rd<=1000000)=>read_any t lv wv fv rd P W F N i p z wb hz hT (HBB.out z hg) htb hP hp hr)
 obtain⟨h0,⟨L,l1,l2,l3⟩,⟨R,r1,r2⟩,g,cap,g1,g2⟩:=h
 obtain⟨lo,lc,e1,-,-⟩:=Lst.form l1
 have hlen:L.length=P.length:=by have:=congrArg List.length l3;rwa [lm0,lm0] at this
 obtain⟨n,hn⟩:∃ n,n=P.length:=⟨_,rfl⟩
 rw [hlen,<-hn] at e1
 obtain⟨w2,hw2⟩:∃ z,z=w.alloc (.cells #[.slice none 0 0,.slice none 0 0,.slice none 0 0] 33):=⟨_,rfl⟩
 obtain⟨k2,hk2⟩:∃ k,k=w.heap.size:=⟨_,rfl⟩
 have hb2:Below w.heap.size w w2:=by rw [hw2];exact br.alloc lr _
 have HZ2:=hid (show C3 w2 k2 (.slice none 0 0) (.slice none 0 0) (.slice none 0 0) from by rw [hw2,hk2];exact C3.new w _ _ _)
 have HCO:=hid (copies_any wv R w2 (r1.below hb2) (fun x hx=>(small_right (hW x.1 (by rw [<-r2];exact List.mem_map.2 ⟨x,hx,rfl⟩))).over) (by have:=congrArg List.length r2;rw [lm0] at this;omega))
 have hbx:=(hb2.block t htw).trans h0
 have HR2:=hid r2
 have HB2:=hid hb2
 have HW2:=hid hw2
 have HK2:=hid hk2
 have HN:=hid hn
 have HX2:=hid hbx
 have hn60:n<=60:=by rw [hn];exact hP.many
 have c1:w2.cell? ⟨t,1,none⟩=some wv:=by rw [cell_of_row w2 t 1 _ _ (0,0) hbx];rfl
 obtain⟨i0,hi0,hz0,hz1,hz2⟩:=info_parts info_M
 have HI:=hid (And.intro hi0 (And.intro hz0 (And.intro hz1 hz2)))
 subst e1
 clear hi0 hz0 hz1 hz2 h0 l1 l2 l3 r1 r2 g1 g2 hlen hbx hb2 hw2 hk2 hn hT hbw hP hW hWl
 go_enter Tryz.func19,Tryz.ntmps19
 go_upto_region 1 with fail
 rw [<-HW2.out,<-HK2.out]
 go_wp2_with fail
 refine HCO.out.mono ?_
 rintro e w3 ⟨wv2,R2,rfl,⟨gw,capw,hwf⟩,hm2,hc2,hb3⟩
 subst hwf
 have HB3:=hid (below_then HB2.out lr hb3)
 have HZ3:=hid (HZ2.out.below hb3)
 have HX3:=hid ((hb3.block t (Nat.lt_of_lt_of_le htw HB2.out.size)).trans HX2.out)
 have HWC:=hid (show Copied w3 (.slice (some ⟨gw,0,none⟩) R.length capw) R2 w.heap.size from hc2.base HB2.out.size)
 have HWM:=hid (show R2.map (·.1)=W from by rw [hm2,HR2.out])
 obtain⟨wl,hwl⟩:∃ q,q=R.length:=⟨_,rfl⟩
 rw [<-hwl] at HWC ⊢
 obtain⟨w4,hw4⟩:∃ z,z=w3.alloc (.cells #[.slice none 0 0,(.slice (some ⟨gw,0,none⟩) wl capw),.slice none 0 0] 33):=⟨_,rfl⟩
 obtain⟨k4,hk4⟩:∃ k,k=w3.heap.size:=⟨_,rfl⟩
 have hb4:Below w3.heap.size w3 w4:=by rw [hw4];exact br.alloc lr _
 have HZ4:=hid (show C3 w4 k4 (.slice none 0 0) (.slice (some ⟨gw,0,none⟩) wl capw) (.slice none 0 0) from by rw [hw4,hk4];exact C3.new w3 _ _ _)
 obtain⟨B,hB⟩:∃ b,b=w4.heap.size:=⟨_,rfl⟩
 have hkB:k4<B:=by rw [hB];exact HZ4.out.lt
 have HB5:=hid (show B=k4+1 from by rw [hB,hw4,hk4];simp)
 have hw3s:=HB3.out.size
 have htk:t<k4:=by omega
 have HA4:=hid (show Acc w4 B k4 (.slice none 0 0) (.slice (some ⟨gw,0,none⟩) wl capw) (.slice none 0 0) [] [] from ⟨HZ4.out,hkB,World.ownsRow_nil _ _ _ _,World.ownsRow_nil _ _ _ _,Or.inl rfl,fun x hx=>by cases hx⟩)
 have HX4:=hid ((hb4.block t (ag0.1 HX3.out).1).trans HX3.out)
 have HG4:=hid (show w3.grownBy w4 (some t) from below_grown hb4)
 have HGW:=hid (show ∀ z,w3.grownBy z (some t)->w.grownBy z (some t) from fun z hz=>(below_grown (row:=some t) HB3.out).andThen hz (fun j hj=>Or.inr hj))
 have HW4:=hid hw4
 have HK4:=hid hk4
 have d0:w4.cell? ⟨t,0,none⟩=some (.slice lo n lc):=by rw [cell_of_row w4 t 0 _ _ (0,0) HX4.out];rfl
 clear hm2 hc2 hb3 hb4 hw4 hk4 hB c1 HB2 HX2 HX3 HZ2 HCO HR2 hwl
 go_upto_region 2 with fail
 rw [<-HW4.out,<-HK4.out]
 go_wp2_with fail
 clear d0
 go_loopw [21] (fun iv wr=>∃ (i:Nat) (co so:Option Addr) (cc sc an dn:Nat) (A D:List Ro),i<=n/\iv=.int .i64 i/\an<=8*i/\dn<=8*i/\Hid (an=A.length/\dn=D.length)/\Hid (Acc wr B k4 (.slice co an cc) (.slice (some ⟨gw,0,none⟩) wl capw) (.slice so dn sc) A D)/\Hid (A.map (·.1)=(P.take i).flatten.filter (fun m=>!isSibB m)/\D.map (·.1)=(P.take i).flatten.filter isSibB)/\Hid (w3.grownBy wr (some t))/\Hid (wr.heap[t]?=some (.cells #[.slice lo n lc,wv,fv,.int .i64 ((rd+i:Nat):Int)] 69 (0,0)))) (fun iv _=>n - (intOf iv).toNat)
 case atStart=>exact⟨0,none,none,0,0,0,0,[],[],by omega,rfl,by omega,by omega,hid ⟨rfl,rfl⟩,HA4,hid ⟨rfl,rfl⟩,HG4,HX4⟩
 case round=>
  obtain⟨i,co,so,cc,sc,an,dn,A,D,hi,rfl,han,hdn,hln,hA,hma,hG,hX⟩:=hrel
  by_cases hlt:i<n
  ·
   have hip:i<P.length:=by have:=HN.out;omega
   obtain⟨p,hp⟩:∃ p,P[i]?=some p:=⟨_,ge0 hip⟩
   obtain⟨hp1,hp2⟩:=HGP.out.few p (mg0 hp)
   have hgw:=HGW.out wr hG.out
   have htbl:=HT.out.turn hgw hX.out
   have HRE:=hid (HRD.out wr (rd+i) i p htbl hgw hp (by omega))
   have HPI:=hid (show (P.take (i+1)).flatten=(P.take i).flatten++p from by rw [List.take_add_one,hp];simp)
   obtain⟨b,hb⟩:∃ b,b=wr.heap.size:=⟨_,rfl⟩
   have j0:(0:Int)<=(i:Int):=by omega
   have j1:(i:Int)<(n:Int):=by omega
   have hcl:=fun q hq=>(World.ownsRow.lt hA.out.cells q hq).2
   have hsl:=fun q hq=>(World.ownsRow.lt hA.out.sibs q hq).2
   have hbk:k4<b:=by rw [hb];exact hA.out.c3.lt
   have hbBb:B<=b:=by have h1:=hA.out.c3.lt;have h2:=HB5.out;omega
   clear hip hp
   go_wp2_with fail
   refine HRE.out.mono ?_
   rintro e w5 ⟨rv,R',rfl,hrm,hrc,hrt,hrg⟩
   obtain⟨ro,rc,hrf⟩:=row_form hrc.row
   obtain⟨m,hm⟩:∃ m,m=R'.length:=⟨_,rfl⟩
   rw [<-hm] at hrf
   subst hrf
   have hm8:m<=8:=by have:=congrArg List.length hrm;rw [lm0] at this;omega
   have HM:=hid hm
   have HRM:=hid hrm
   have hne:∀ {e:TypeId} {base sz nn:Nat} {u:Value} {xs:List Value},wr.ownsRow base e sz u nn xs->B<=base->w5.ownsRow base e sz u nn xs:=fun {e base sz nn u xs} hu hbb=>hu.kept hrg (own_ne hu (by omega))
   have HA5:=hid (show Acc w5 B k4 (.slice co an cc) (.slice (some ⟨gw,0,none⟩) wl capw) (.slice so dn sc) A D from ⟨hA.out.c3.grown hrg (by simp;omega),hkB,hne hA.out.cells lr,hne hA.out.sibs lr,hA.out.apart,fun x hx=>hne (hA.out.overs x hx) lr⟩)
   have HS5:=hid (show Side w5 b (.slice co an cc) (.slice so dn sc) (.slice ro m rc) R' from by
    rw [hb]
    refine⟨hrc.row,hrc.over,?_,?_⟩
    ·
     cases hv:(Value.slice ro m rc).ownBlock with
     | none=>exact Or.inl rfl
     | some q=>exact Or.inr fun e=>by have h1:=(World.ownsRow.lt hrc.row q hv).1;have h2:=hcl q e.symm;omega
    ·
     cases hv:(Value.slice ro m rc).ownBlock with
     | none=>exact Or.inl rfl
     | some q=>exact Or.inr fun e=>by have h1:=(World.ownsRow.lt hrc.row q hv).1;have h2:=hsl q e.symm;omega)
   have HG5:=hid (show w3.grownBy w5 (some t) from hG.out.andThen hrg (fun j hj=>Or.inr hj))
   have HX5:=hid (show w5.heap[t]?=some (.cells #[.slice lo n lc,wv,fv,.int .i64 ((rd+i+1:Nat):Int)] 69 (0,0)) from hrt.box)
   obtain⟨XA,hXA⟩:∃ l,l=(P.take i).flatten.filter (fun m=>!isSibB m):=⟨_,rfl⟩
   obtain⟨XD,hXD⟩:∃ l,l=(P.take i).flatten.filter isSibB:=⟨_,rfl⟩
   have HMA5:=hid (show A.map (·.1)=XA++(p.take 0).filter (fun m=>!isSibB m)/\D.map (·.1)=XD++(p.take 0).filter isSibB from by rw [hXA,hXD];simp [hma.out])
   have HXX:=hid (And.intro hXA hXD)
   have hk4b:=hbk
   have HLN5:=hln
   clear hrm hrc hrt hrg hm hne hcl hsl hA hma hG hX htbl hgw HRE hXA hXD hln hbk
   go_wp2_with fail
   go_loopw [36] (fun jv wi=>∃ (j:Nat) (co so:Option Addr) (cc sc an dn:Nat) (A D:List Ro),j<=m/\jv=.int .i64 j/\an<=8*i+j/\dn<=8*i+j/\Hid (an=A.length/\dn=D.length)/\Hid (Acc wi B k4 (.slice co an cc) (.slice (some ⟨gw,0,none⟩) wl capw) (.slice so dn sc) A D)/\Hid (Side wi b (.slice co an cc) (.slice so dn sc) (.slice ro m rc) R')/\Hid (A.map (·.1)=XA++(p.take j).filter (fun m=>!isSibB m)/\D.map (·.1)=XD++(p.take j).filter isSibB)/\Hid (w3.grownBy wi (some t))/\Hid (wi.heap[t]?=some (.cells #[.slice lo n lc,wv,fv,.int .i64 ((rd+i+1:Nat):Int)] 69 (0,0)))) (fun jv _=>m - (intOf jv).toNat)
   case atStart=>exact⟨0,co,so,cc,sc,an,dn,A,D,by omega,rfl,by omega,by omega,HLN5,HA5,HS5,HMA5,HG5,HX5⟩
   case round=>
    clear HA5 HS5 HMA5 HG5 HX5 HLN5 han hdn
    obtain⟨j,co,so,cc,sc,an,dn,A,D,hj,rfl,han,hdn,hln,hA,hS,hma,hG,hX⟩:=hrel
    by_cases hlj:j<m
    ·
     have hjr:j<R'.length:=by have:=HM.out;omega
     obtain⟨x,hx⟩:∃ x,R'[j]?=some x:=⟨_,ge0 hjr⟩
     have hpj:p[j]?=some x.1:=by rw [<-HRM.out,List.getElem?_map,hx];rfl
     have hmr:MRow wr (.slice ro m rc) R':=own_mrow hS.out.row (fun y hy=>Over.own (hS.out.over y hy))
     obtain⟨xb,xoff,hao,hat⟩:=hmr.at_ hx
     cases hao
     have hxo:=hS.out.over x (mg0 hx)
     obtain⟨xo,xc,xe⟩:=row_form hxo
     obtain⟨xn,hxn⟩:∃ q,q=x.1.over.length:=⟨_,rfl⟩
     rw [<-hxn] at xe
     have hey:enM x=[.int .i64 x.1.table,.int .i64 x.1.kind,.string x.1.key,.string x.1.fin,.string x.1.val,.int .i64 x.1.expiry,.int .i64 x.1.at_.p,.int .i64 x.1.at_.l,.int .i64 x.1.at_.w,.slice xo xn xc]:=by unfold enM;rw [xe]
     have HEY:=hid hey
     obtain⟨hxl,a0,a1,a2,a3,a4,a5,a6,a7,a8,a9⟩:=hat
     rw [xe] at a9
     obtain⟨HAN,HDN⟩:Hid (an=A.length)/\Hid (dn=D.length):=⟨hid hln.out.1,hid hln.out.2⟩
     obtain⟨W6,hW6⟩:∃ z,z=wr.alloc (.cells #[.int .i64 x.1.table,.int .i64 x.1.kind,.string x.1.key,.string x.1.fin,.string x.1.val,.int .i64 x.1.expiry,.int .i64 x.1.at_.p,.int .i64 x.1.at_.l,.int .i64 x.1.at_.w,.slice xo xn xc] 42):=⟨_,rfl⟩
     obtain⟨k9,hk9⟩:∃ k,k=wr.heap.size:=⟨_,rfl⟩
     have hb6:Below wr.heap.size wr W6:=by rw [hW6];exact br.alloc lr _
     have hx6:W6.heap[k9]?=some (.cells #[.int .i64 x.1.table,.int .i64 x.1.kind,.string x.1.key,.string x.1.fin,.string x.1.val,.int .i64 x.1.expiry,.int .i64 x.1.at_.p,.int .i64 x.1.at_.l,.int .i64 x.1.at_.w,.slice xo xn xc] 42 (0,0)):=by rw [hW6,hk9];exact heap_alloc_new wr _
     have HA6:=hid (hA.out.below hb6)
     have HS6:=hid (hS.out.below hb6)
     have HXO:=hid (row_below hxo hb6)
     have HG6:=hid (show w3.grownBy W6 (some t) from hG.out.andThen (below_grown (row:=none) hb6) (fun j hj=>by cases hj))
     have HX6:=hid (show W6.heap[t]?=some (.cells #[.slice lo n lc,wv,fv,.int .i64 ((rd+i+1:Nat):Int)] 69 (0,0)) from (hb6.block t (ag0.1 hX.out).1).trans hX.out)
     have hB6:B<=W6.heap.size:=by have h1:=HA6.out.c3.lt;have h2:=HB5.out;omega
     have HNEW:Hid (∀ j u,(enM x)[j]?=some u->(W6.alloc (.cells #[.int .i64 x.1.table,.int .i64 x.1.kind,.string x.1.key,.string x.1.fin,.string x.1.val,.int .i64 x.1.expiry,.int .i64 x.1.at_.p,.int .i64 x.1.at_.l,.int .i64 x.1.at_.w,.slice xo xn xc] 42)).cell? ((⟨W6.heap.size,0,none⟩:Addr).add j)=some u):=hid (by rw [HEY.out];exact new_cells _ _ _)
     have HONE:Hid (∀ u∈enM x,u.oneCell'=true):=hid (by rw [HEY.out];intro u hu;simp at hu;rcases hu with rfl | rfl | rfl | rfl | rfl | rfl | rfl | rfl | rfl | rfl <;> rfl)
     have hbB:B<=b:=hbBb
     obtain⟨-,s0,s1,s2,-,-,-⟩:=HA6.out.c3
     have HW6:=hid hW6
     have HK9:=hid hk9
     have i0':(0:Int)<=(j:Int):=by omega
     have i1':(j:Int)<(m:Int):=by omega
     have x0:W6.cell? ⟨k9,0,none⟩=some (.int .i64 x.1.table):=by rw [cell_of_row W6 k9 0 _ _ (0,0) hx6];rfl
     have x1:W6.cell? ⟨k9,1,none⟩=some (.int .i64 x.1.kind):=by rw [cell_of_row W6 k9 1 _ _ (0,0) hx6];rfl
     have x2:W6.cell? ⟨k9,2,none⟩=some (.string x.1.key):=by rw [cell_of_row W6 k9 2 _ _ (0,0) hx6];rfl
     have x3:W6.cell? ⟨k9,3,none⟩=some (.string x.1.fin):=by rw [cell_of_row W6 k9 3 _ _ (0,0) hx6];rfl
     have x4:W6.cell? ⟨k9,4,none⟩=some (.string x.1.val):=by rw [cell_of_row W6 k9 4 _ _ (0,0) hx6];rfl
     have x5:W6.cell? ⟨k9,5,none⟩=some (.int .i64 x.1.expiry):=by rw [cell_of_row W6 k9 5 _ _ (0,0) hx6];rfl
     have x6:W6.cell? ⟨k9,6,none⟩=some (.int .i64 x.1.at_.p):=by rw [cell_of_row W6 k9 6 _ _ (0,0) hx6];rfl
     have x7:W6.cell? ⟨k9,7,none⟩=some (.int .i64 x.1.at_.l):=by rw [cell_of_row W6 k9 7 _ _ (0,0) hx6];rfl
     have x8:W6.cell? ⟨k9,8,none⟩=some (.int .i64 x.1.at_.w):=by rw [cell_of_row W6 k9 8 _ _ (0,0) hx6];rfl
     have x9:W6.cell? ⟨k9,9,none⟩=some (.slice xo xn xc):=by rw [cell_of_row W6 k9 9 _ _ (0,0) hx6];rfl
     clear hx hmr hxo xe hey hb6 hx6 hW6 hk9 hxn hA hS hG hX hln hjr
     go_upto_region 11 with fail
     rw [<-HW6.out,<-HK9.out]
     clear HW6 HK9 a0 a1 a2 a3 a4 a5 a6 a7 a8 a9 hxl
     by_cases htab:x.1.table=2
     ·
      have HTB:=hid (show isSibB x.1=true from dt0 htab)
      have hte:(x.1.table == 2)=true:=by simpa using htab
      clear htab
      have HCR:=hid (show W6.ownsRow B 42 10 (.slice so dn sc) dn (D.flatMap enM) from by have h:=HA6.out.sibs;rw [<-HDN.out] at h;exact h)
      go_wp2_with (at_builtin;refine wpList_append_own_loc rfl _ _ 22 rfl B 42 i0 zeroM zMM 120 Tryz.underlying22 HI.out.1 HI.out.2.1 rfl HI.out.2.2.1 HI.out.2.2.2 (by decide) (.slice so dn sc) dn (D.flatMap enM) rfl (row_below HCR.out (br.alloc lr _)) ⟨_,0,none⟩ 1 1 (enM x) rfl (by decide) rfl HNEW.out HONE.out (by unfold maxLen;omega) (by omega) (by simp;omega) ?_)
      intro v1 w8 q1 q2 q3
      obtain⟨o3,c3,rfl⟩:=row_form q1
      have hba:Below W6.heap.size W6 (W6.alloc (.cells #[.int .i64 x.1.table,.int .i64 x.1.kind,.string x.1.key,.string x.1.fin,.string x.1.val,.int .i64 x.1.expiry,.int .i64 x.1.at_.p,.int .i64 x.1.at_.l,.int .i64 x.1.at_.w,.slice xo xn xc] 42)):=br.alloc lr _
      have hxov:(W6.alloc (.cells #[.int .i64 x.1.table,.int .i64 x.1.kind,.string x.1.key,.string x.1.fin,.string x.1.val,.int .i64 x.1.expiry,.int .i64 x.1.at_.p,.int .i64 x.1.at_.l,.int .i64 x.1.at_.w,.slice xo xn xc] 42)).ownsRow B 39 3 x.2 x.1.over.length (x.1.over.flatMap enS):=row_below (own_base HXO.out hbB) hba
      have ha7:=HA6.out.below hba
      have hs7:=HS6.out.below hba
      have HA8:=hid (show Acc (w8.setCell ⟨k4,2,none⟩ (.slice o3 (dn+1) c3)) B k4 (.slice co an cc) (.slice (some ⟨gw,0,none⟩) wl capw) (.slice o3 (dn+1) c3) (A) (D++[x]) from ha7.addS hxov (by rw [<-HDN.out,fa0,List.flatMap_singleton];exact q1) q2 q3)
      have HS8:=hid (show Side (w8.setCell ⟨k4,2,none⟩ (.slice o3 (dn+1) c3)) b (.slice co an cc) (.slice o3 (dn+1) c3) (.slice (some ⟨xb,xoff,none⟩) m rc) R' from hs7.addS ha7 hk4b q2 q3 _)
      have hcr7:=row_below HCR.out hba
      have hlt8:=fun q (hq:(Value.slice so dn sc).ownBlock=some q)=>World.ownsRow.lt hcr7 q hq
      have g8:W6.grownBy (w8.setCell ⟨k4,2,none⟩ (.slice o3 (dn+1) c3)) (some k4)\/True:=Or.inr trivial
      have HG8:=hid (show w3.grownBy (w8.setCell ⟨k4,2,none⟩ (.slice o3 (dn+1) c3)) (some t) from by
       have h1:w3.grownBy w8 (some t):=(HG6.out.andThen (below_grown (row:=none) hba) (fun j hj=>by cases hj)).andThen q2 (fun j hj=>Or.inl (by have:=(hlt8 j hj).1;have:=HK4.out;omega))
       exact h1.andThen (grown_cell w8 k4 2 _) (fun j hj=>by cases hj;exact Or.inl (by have:=HK4.out;omega)))
      have HX8:=hid (show (w8.setCell ⟨k4,2,none⟩ (.slice o3 (dn+1) c3)).heap[t]?=some (.cells #[.slice lo n lc,wv,fv,.int .i64 ((rd+i+1:Nat):Int)] 69 (0,0)) from by
       have h1:=(hba.block t (ag0.1 HX6.out).1).trans HX6.out
       have h2:=(q2.block t (ag0.1 h1).1 (fun e=>by have:=(hlt8 t e.symm).1;omega)).trans h1
       have h3:=((grown_cell w8 k4 2 (.slice o3 (dn+1) c3)).block t (ag0.1 h2).1 (by simp;omega)).trans h2
       exact h3)
      have c8:w8.cell? ⟨k4,2,none⟩=some (.slice so dn sc):=by
       have h1:=ha7.c3.grown q2 (fun e=>by have:=(hlt8 k4 e).1;omega)
       exact h1.c2
      have f8:w8.frozen? ⟨k4,2,none⟩=false:=by
       have h1:=ha7.c3.grown q2 (fun e=>by have:=(hlt8 k4 e).1;omega)
       exact h1.f2
      have HMA:=hid (show (A).map (·.1)=XA++(p.take (j+1)).filter (fun m=>!isSibB m)/\(D++[x]).map (·.1)=XD++(p.take (j+1)).filter isSibB from by
       rw [filt_snoc hpj,filt_snoc hpj,HTB.out]
       obtain⟨ma,md⟩:=hma.out
       simp [ma,md,List.map_append])
      have HLN:=hid (show an+0=(A).length/\dn+1=(D++[x]).length from ⟨by rw [HAN.out];simp,by rw [HDN.out];simp⟩)
      clear q1 q2 q3 hba hxov ha7 hs7 hcr7 hlt8 g8 x0 x1 x2 x3 x4 x5 x6 x7 x8 x9
      go_wp2_with fail
      go_roundw
      case rel=>exact⟨j+1,_,_,_,_,an,dn+1,A,D++[x],by omega,by go_num,by omega,by omega,HLN,HA8,HS8,HMA,HG8,HX8⟩
      case measure=>simp [intOf];omega
     ·
      have HTB:=hid (show isSibB x.1=false from df0 htab)
      have hte:(x.1.table == 2)=false:=by simpa using htab
      clear htab
      have HCR:=hid (show W6.ownsRow B 42 10 (.slice co an cc) an (A.flatMap enM) from by have h:=HA6.out.cells;rw [<-HAN.out] at h;exact h)
      go_wp2_with (at_builtin;refine wpList_append_own_loc rfl _ _ 22 rfl B 42 i0 zeroM zMM 120 Tryz.underlying22 HI.out.1 HI.out.2.1 rfl HI.out.2.2.1 HI.out.2.2.2 (by decide) (.slice co an cc) an (A.flatMap enM) rfl (row_below HCR.out (br.alloc lr _)) ⟨_,0,none⟩ 1 1 (enM x) rfl (by decide) rfl HNEW.out HONE.out (by unfold maxLen;omega) (by omega) (by simp;omega) ?_)
      intro v1 w8 q1 q2 q3
      obtain⟨o3,c3,rfl⟩:=row_form q1
      have hba:Below W6.heap.size W6 (W6.alloc (.cells #[.int .i64 x.1.table,.int .i64 x.1.kind,.string x.1.key,.string x.1.fin,.string x.1.val,.int .i64 x.1.expiry,.int .i64 x.1.at_.p,.int .i64 x.1.at_.l,.int .i64 x.1.at_.w,.slice xo xn xc] 42)):=br.alloc lr _
      have hxov:(W6.alloc (.cells #[.int .i64 x.1.table,.int .i64 x.1.kind,.string x.1.key,.string x.1.fin,.string x.1.val,.int .i64 x.1.expiry,.int .i64 x.1.at_.p,.int .i64 x.1.at_.l,.int .i64 x.1.at_.w,.slice xo xn xc] 42)).ownsRow B 39 3 x.2 x.1.over.length (x.1.over.flatMap enS):=row_below (own_base HXO.out hbB) hba
      have ha7:=HA6.out.below hba
      have hs7:=HS6.out.below hba
      have HA8:=hid (show Acc (w8.setCell ⟨k4,0,none⟩ (.slice o3 (an+1) c3)) B k4 (.slice o3 (an+1) c3) (.slice (some ⟨gw,0,none⟩) wl capw) (.slice so dn sc) (A++[x]) (D) from ha7.addC hxov (by rw [<-HAN.out,fa0,List.flatMap_singleton];exact q1) q2 q3)
      have HS8:=hid (show Side (w8.setCell ⟨k4,0,none⟩ (.slice o3 (an+1) c3)) b (.slice o3 (an+1) c3) (.slice so dn sc) (.slice (some ⟨xb,xoff,none⟩) m rc) R' from hs7.addC ha7 hk4b q2 q3 _)
      have hcr7:=row_below HCR.out hba
      have hlt8:=fun q (hq:(Value.slice co an cc).ownBlock=some q)=>World.ownsRow.lt hcr7 q hq
      have g8:W6.grownBy (w8.setCell ⟨k4,0,none⟩ (.slice o3 (an+1) c3)) (some k4)\/True:=Or.inr trivial
      have HG8:=hid (show w3.grownBy (w8.setCell ⟨k4,0,none⟩ (.slice o3 (an+1) c3)) (some t) from by
       have h1:w3.grownBy w8 (some t):=(HG6.out.andThen (below_grown (row:=none) hba) (fun j hj=>by cases hj)).andThen q2 (fun j hj=>Or.inl (by have:=(hlt8 j hj).1;have:=HK4.out;omega))
       exact h1.andThen (grown_cell w8 k4 0 _) (fun j hj=>by cases hj;exact Or.inl (by have:=HK4.out;omega)))
      have HX8:=hid (show (w8.setCell ⟨k4,0,none⟩ (.slice o3 (an+1) c3)).heap[t]?=some (.cells #[.slice lo n lc,wv,fv,.int .i64 ((rd+i+1:Nat):Int)] 69 (0,0)) from by
       have h1:=(hba.block t (ag0.1 HX6.out).1).trans HX6.out
       have h2:=(q2.block t (ag0.1 h1).1 (fun e=>by have:=(hlt8 t e.symm).1;omega)).trans h1
       have h3:=((grown_cell w8 k4 0 (.slice o3 (an+1) c3)).block t (ag0.1 h2).1 (by simp;omega)).trans h2
       exact h3)
      have c8:w8.cell? ⟨k4,0,none⟩=some (.slice co an cc):=by
       have h1:=ha7.c3.grown q2 (fun e=>by have:=(hlt8 k4 e).1;omega)
       exact h1.c0
      have f8:w8.frozen? ⟨k4,0,none⟩=false:=by
       have h1:=ha7.c3.grown q2 (fun e=>by have:=(hlt8 k4 e).1;omega)
       exact h1.f0
      have HMA:=hid (show (A++[x]).map (·.1)=XA++(p.take (j+1)).filter (fun m=>!isSibB m)/\(D).map (·.1)=XD++(p.take (j+1)).filter isSibB from by
       rw [filt_snoc hpj,filt_snoc hpj,HTB.out]
       obtain⟨ma,md⟩:=hma.out
       simp [ma,md,List.map_append])
      have HLN:=hid (show an+1=(A++[x]).length/\dn+0=(D).length from ⟨by rw [HAN.out];simp,by rw [HDN.out];simp⟩)
      clear q1 q2 q3 hba hxov ha7 hs7 hcr7 hlt8 g8 x0 x1 x2 x3 x4 x5 x6 x7 x8 x9
      go_wp2_with fail
      go_roundw
      case rel=>exact⟨j+1,_,_,_,_,an+1,dn,A++[x],D,by omega,by go_num,by omega,by omega,HLN,HA8,HS8,HMA,HG8,HX8⟩
      case measure=>simp [intOf];omega
    ·
     obtain rfl:j=m:=by omega
     have HMB:=hid (show A.map (·.1)=(P.take (i+1)).flatten.filter (fun m=>!isSibB m)/\D.map (·.1)=(P.take (i+1)).flatten.filter isSibB from by
      have hpt:p.take j=p:=List.take_of_length_le (by have h1:=congrArg List.length HRM.out;rw [lm0] at h1;have:=HM.out;omega)
      obtain⟨ma,md⟩:=hma.out
      rw [hpt] at ma md
      rw [HPI.out,List.filter_append,List.filter_append,<-HXX.out.1,<-HXX.out.2]
      exact⟨ma,md⟩)
     go_wp2_with fail
     go_roundw
     case rel=>exact⟨i+1,co,so,cc,sc,an,dn,A,D,by omega,by go_num,by omega,by omega,hln,hA,HMB,hG,hX⟩
     case measure=>simp [intOf];omega
  ·
   obtain rfl:i=n:=by omega
   have HPT:=hid (show P.take i=P from List.take_of_length_le (by have:=HN.out;omega))
   have hgw:=HGW.out wr hG.out
   have HTF:=hid (HT.out.turn hgw hX.out)
   have HWF:=hid (show Copied wr (.slice (some ⟨gw,0,none⟩) wl capw) R2 w.heap.size from Rd.Copied.read HWC.out hG.out htw)
   have HZ9:=hid (show C3 wr k2 (.slice none 0 0) (.slice none 0 0) (.slice none 0 0) from HZ3.out.grown hG.out (by have:=HK2.out;simp;omega))
   have HGF:=hid hgw
   have HIS:=hid (show IsC (conP P W) (.agg #[.slice co an cc,(.slice (some ⟨gw,0,none⟩) wl capw),.slice so dn sc]) wr from by
    refine Lies.is ⟨⟨A,by rw [hma.out.1,HPT.out];rfl,?_⟩,⟨R2,HWM.out,HWF.out.mrow⟩,⟨D,by rw [hma.out.2,HPT.out];rfl,?_⟩⟩
    . exact own_mrow hA.out.cells (fun x hx=>Over.own (hA.out.overs x (List.mem_append_left _ hx)))
    . exact own_mrow hA.out.sibs (fun x hx=>Over.own (hA.out.overs x (List.mem_append_right _ hx))))
   obtain⟨-,s0,s1,s2,-,-,-⟩:=hA.out.c3
   obtain⟨-,z0,z1,z2,f0,f1,f2⟩:=HZ9.out
   obtain⟨hp,hgp,u0,u1,u2⟩:=c3_put (o1:=co) (o2:=some ⟨gw,0,none⟩) (o3:=so) (n1:=an) (n2:=wl) (n3:=dn) (k1:=cc) (k2:=capw) (k3:=sc) HZ9.out (.slice co an cc) (.slice (some ⟨gw,0,none⟩) wl capw) (.slice so dn sc) _ rfl
   have HF:=hid (show AllP t (.slice lo i lc) wv fv rd P W F N w (.returned (.tuple #[.agg #[.slice co an cc,.slice (some ⟨gw,0,none⟩) wl capw,.slice so dn sc],.int .i64 0])) _ from ⟨_,rfl,HIS.out.plain3 hp,by rw [<-HN.out];exact HT.out.turn (HGF.out.andThen hgp (fun j hj=>by cases hj;exact Or.inl (by rw [HK2.out];exact Nat.le_refl _))) ((hgp.block t (ag0.1 hX.out).1 (by have:=HK2.out;simp;omega)).trans hX.out),HGF.out.andThen hgp (fun j hj=>by cases hj;exact Or.inl (by rw [HK2.out];exact Nat.le_refl _))⟩)
   clear hp hgp hgw
   go_wp2_with fail
   refine bodyPost_ret (v:=.tuple #[.agg #[.slice co an cc,.slice (some ⟨gw,0,none⟩) wl capw,.slice so dn sc],.int .i64 0]) (by simp [results,Tryz.f19,go_sem,u0,u1,u2]) rfl HF.out
