/- TabRefSort. -/
import Derived.Test.YtpeoonnglnchnaaGreatDoorPkTabRows
set_option linter.unusedSectionVars false
set_option linter.unusedSimpArgs false
set_option linter.unusedVariables false
set_option maxHeartbeats 16000000
set_option maxRecDepth 100000
namespace Go.Proofs.YtpeoonnglnchnaaGreatDoor.Mut
open Go.Lib (hid)
open RowKit Go.Sort YtpeoonnglnchnaaGreatDoor.Ord
variable [Inhabited Lim]
def sIn (x:Ro):Bool->List Ro->List Ro
 | inn,[]=>if inn then [] else [x]
 | inn,y::t=>(if !inn && !decide (sibC y.1 x.1<0) then [x] else [])++(y::sIn x (inn || !decide (sibC y.1 x.1<0)) t)
theorem sIn_cons (x y:Ro) (inn:Bool) (t:List Ro):sIn x inn (y::t)=(if !inn && !decide (sibC y.1 x.1<0) then [x] else [])++(y::sIn x (inn || !decide (sibC y.1 x.1<0)) t):=rfl
theorem sIn_true (x:Ro):∀ t,sIn x true t=t
 | []=>rfl
 | y::t=>by
  unfold sIn
  rw [Bool.true_or,sIn_true x t]
  rfl
theorem sIn_map (x:Ro):∀ t:List Ro,(sIn x false t).map (·.1)=rowIns x.1 (t.map (·.1))
 | []=>rfl
 | y::t=>by
  unfold sIn
  rw [List.map_cons]
  unfold rowIns
  have hs:=sibO.swap y.1 x.1
  by_cases h:sibC y.1 x.1<0
  ·
   have h2:¬ sibC x.1 y.1<=0:=by omega
   rw [dt0 h,if_neg h2]
   show y.1::(sIn x false t).map (·.1)=_
   rw [sIn_map x t]
  ·
   have h2:sibC x.1 y.1<=0:=by omega
   rw [df0 h,if_pos h2]
   show x.1::y.1::(sIn x true t).map (·.1)=_
   rw [sIn_true]
theorem sIn_mem (x:Ro):∀ (t:List Ro) (inn:Bool),∀ y∈sIn x inn t,y∈t\/y=x
 | [],inn,y,hy=>by cases inn <;> simp [sIn] at hy;exact Or.inr hy
 | z::t,inn,y,hy=>by
  unfold sIn at hy
  rcases List.mem_append.1 hy with hy | hy
  . split at hy <;> simp at hy;exact Or.inr hy
  ·
   rcases List.mem_cons.1 hy with rfl | hy
   . exact Or.inl (List.mem_cons_self ..)
   ·
    rcases sIn_mem x t _ y hy with h | h
    . exact Or.inl (List.mem_cons_of_mem _ h)
    . exact Or.inr h
theorem sIn_len (x:Ro) (t:List Ro):(sIn x false t).length=t.length+1:=by
 have h:=congrArg List.length (sIn_map x t)
 rw [lm0,(rowIns_perm x.1 _).length_eq] at h
 simpa using h
structure SoFar (R:List Ro) (k:Nat) (acc:List Ro):Prop where
 perm:(acc.map (·.1)).Perm ((R.take k).map (·.1))
 sorted:(acc.map (·.1)).Pairwise (fun a b=>sibC a b<=0)
 mem:∀ y∈acc,y∈R
theorem SoFar.nil (R:List Ro):SoFar R 0 []:=⟨List.Perm.refl _,List.Pairwise.nil,fun _ h=>by cases h⟩
theorem SoFar.next {R acc:List Ro} {k:Nat} {x:Ro} (h:SoFar R k acc) (hx:R[k]?=some x):SoFar R (k+1) (sIn x false acc):=by
 refine⟨?_,?_,fun y hy=>?_⟩
 ·
  rw [sIn_map,List.take_add_one,hx,List.map_append]
  exact ((rowIns_perm x.1 _).trans (h.perm.cons x.1)).trans (List.perm_append_comm (l₁:=[x.1])).symm.symm
 . rw [sIn_map];exact rowIns_sorted x.1 _ h.sorted
 ·
  rcases sIn_mem x acc false y hy with h1 | h1
  . exact h.mem y h1
  . rw [h1];exact mg0 hx
theorem SoFar.len {R acc:List Ro} {k:Nat} (h:SoFar R k acc) (hk:k<=R.length):acc.length=k:=by
 have h1:=h.perm.length_eq
 rw [lm0,lm0,List.length_take] at h1
 omega
theorem SoFar.done {R acc:List Ro} (h:SoFar R R.length acc):acc.map (·.1)=rowsF (R.map (·.1)):=by
 have h1:=h.perm
 rw [List.take_of_length_le lr] at h1
 exact rowsF_one h1 h.sorted
theorem one_rowY {w:World} {x:Ro} {vo:Option Addr} {vn vc:Nat} (e:x.2=.slice vo vn vc) (h:Over w x):MRow (w.alloc (.cells #[.int .i64 x.1.table,.int .i64 x.1.kind,.string x.1.key,.string x.1.fin,.string x.1.val,.int .i64 x.1.expiry,.int .i64 x.1.at_.p,.int .i64 x.1.at_.l,.int .i64 x.1.at_.w,.slice vo vn vc] 42)) (.slice (some ⟨w.heap.size,0,none⟩) 1 1) [x]:=by
 have h1:=one_row (t:=42) h
 unfold enM at h1
 rw [e] at h1
 exact h1
def RefRowsP (w:World) (R:List Ro) (e:Ending) (w':World):Prop:=
 ∃ (v':Value) (R':List Ro),e=.returned v'/\R'.map (·.1)=rowsF (R.map (·.1))/\w'.ownsRow w.heap.size 42 10 v' R'.length (R'.flatMap enM)/\(∀ x∈R',x∈R)/\Below w.heap.size w w'
theorem own_mrow {w:World} {base:Nat} {v:Value} {R:List Ro} (h:w.ownsRow base 42 10 v R.length (R.flatMap enM)) (ho:∀ x∈R,Over w x):MRow w v R:=⟨Lst.owned enM_len (by decide) rfl h,ho⟩
theorem refsort_any (v:Value) (R:List Ro) (w:World) (hv:MRow w v R) (hd:(R.map (·.1)).Nodup) (hs:∀ x∈R,x.1.over.length<=1000000) (hn:R.length<=100000) :
  Calls Tryz.prog 51 #[v] w (RefRowsP w R):=by
 obtain⟨ao,cap,rfl,-,-⟩:=hv.form
 obtain⟨n,hN⟩:∃ n,n=R.length:=⟨_,rfl⟩
 rw [<-hN] at hv hn ⊢
 have HLE:=hid (fun (x y:Ro) (z:World) (hz:Below w.heap.size w z) (hx:x∈R) (hy:y∈R)=>refless15_any x y z ((hv.over x hx).below hz) ((hv.over y hy).below hz) (hs x hx) (hs y hy))
 have HCO:=hid (fun (x y:Ro) (z:World) (hz:Below w.heap.size w z) (hx:x∈R) (hy:y∈R)=>refcompare_any x y z ((hv.over x hx).below hz) ((hv.over y hy).below hz) (hs x hx) (hs y hy))
 have HV:=hid hv
 have HN:=hid hN
 have HD:=hid hd
 clear hv hd hs hN
 go_enter Tryz.func51,Tryz.ntmps51
 go_wp2_with fail
 go_loopw [3,4] (fun ov iv wr=>∃ (k:Nat) (acc:List Ro) (oo:Option Addr) (oc:Nat),k<=n/\iv=.int .i64 k/\ov=.slice oo k oc/\Hid (SoFar R k acc)/\Hid (wr.ownsRow w.heap.size 42 10 (.slice oo k oc) k (acc.flatMap enM))/\Hid (Below w.heap.size w wr)) (fun _ iv _=>n - (intOf iv).toNat)
 case atStart=>exact⟨0,[],none,0,by omega,rfl,rfl,hid (SoFar.nil R),hid (World.ownsRow_nil _ _ _ _),hid br⟩
 case round=>
  obtain⟨i,acc,oo,oc,hi,rfl,rfl,hso,hown,hb⟩:=hrel
  by_cases hlt:i<n
  ·
   have hir:i<R.length:=by have:=HN.out;omega
   obtain⟨x,hx⟩:∃ x,R[i]?=some x:=⟨_,ge0 hir⟩
   have hal:acc.length=i:=hso.out.len (by omega)
   obtain⟨B1,hB1⟩:∃ B,B=wr.heap.size:=⟨_,rfl⟩
   have hacc:MRow wr (.slice oo i oc) acc:=own_mrow (by rw [hal];exact hown.out) (fun y hy=>(HV.out.below hb.out).over y (hso.out.mem y hy))
   have HACC:=hid hacc
   have HX:=hid hx
   have HAL:=hid hal
   have HB1:=hid hB1
   clear hx hal hB1 hacc hir
   obtain⟨wo,rfl⟩:∃ W,W=wr:=⟨_,rfl⟩
   go_wp2_with fail
   go_loopw [5,6,7] (fun xv nv kv wr=>∃ (k:Nat) (inn:Bool) (nx:List Ro) (xn:Nat) (xo:Option Addr) (xc:Nat),k<=i/\kv=.int .i64 k/\nv=.bool inn/\xv=.slice xo xn xc/\xn<=2*k/\Hid (xn=nx.length/\nx++sIn x inn (acc.drop k)=sIn x false acc)/\Hid (wr.ownsRow B1 42 10 (.slice xo xn xc) xn (nx.flatMap enM))/\Hid (Below B1 wo wr)) (fun _ _ kv _=>i - (intOf kv).toNat)
   case atStart=>exact⟨0,false,[],0,none,0,by omega,rfl,rfl,rfl,by omega,hid ⟨rfl,rfl⟩,hid (World.ownsRow_nil _ _ _ _),hid br⟩
   case round=>
    obtain⟨k,inn,nx,xn,xo,xc,hk,rfl,rfl,rfl,hxn,hst,hnx,hbz⟩:=hrel
    have HBW:=hid (show Below w.heap.size w wr from below_then hb.out lr (by rw [<-HB1.out];exact hbz.out))
    have HBZ:=hid (show Below wo.heap.size wo wr from by rw [<-HB1.out];exact hbz.out)
    have hszz:B1<=wr.heap.size:=by have h:=HBZ.out.size;rw [<-HB1.out] at h;exact h
    obtain⟨xb,xoff,hao,hatx⟩:=(HV.out.below HBW.out).at_ HX.out
    cases hao
    have hox:=(HV.out.below HBW.out).over x (mg0 HX.out)
    obtain⟨vo,vc,ex,-,-⟩:=Over.form hox
    have HOX:=hid hox
    obtain⟨vn,hvn⟩:∃ q,q=x.1.over.length:=⟨_,rfl⟩
    by_cases hltk:k<i
    ·
     have hkr:k<acc.length:=by have:=HAL.out;omega
     obtain⟨y,hy⟩:∃ y,acc[k]?=some y:=⟨_,ge0 hkr⟩
     obtain⟨yb,yoff,hao2,haty⟩:=(HACC.out.below HBZ.out).at_ hy
     cases hao2
     have hye:acc[k]=y:=(gs0.1 hy).2
     have hym:=hso.out.mem y (mg0 hy)
     have hoy:=(HV.out.below HBW.out).over y hym
     obtain⟨uo,uc,ey,-,-⟩:=Over.form hoy
     have hdl:acc.drop k=y::acc.drop (k+1):=by rw [dg0 hkr,hye]
     have HXY:=hid (show muC y.1 x.1≠0 from fun e=>by
      have h1:y.1=x.1:=(muO.zero y.1 x.1).1 e
      have h2:y.1∈(R.take i).map (·.1):=hso.out.perm.mem_iff.1 (List.mem_map.2 ⟨y,mg0 hy,rfl⟩)
      have h3:=HD.out
      rw [<-List.take_append_drop i R,List.map_append,List.nodup_append] at h3
      obtain⟨hi1,hi2⟩:=gs0.1 HX.out
      exact h3.2.2 y.1 h2 x.1 (List.mem_map.2 ⟨x,by rw [dg0 hi1,hi2];exact List.mem_cons_self ..,rfl⟩) h1)
     obtain⟨un,hun⟩:∃ q,q=y.1.over.length:=⟨_,rfl⟩
     rw [<-hvn] at ex
     rw [<-hun] at ey
     have hvx:vM x=.agg #[.int .i64 x.1.table,.int .i64 x.1.kind,.string x.1.key,.string x.1.fin,.string x.1.val,.int .i64 x.1.expiry,.int .i64 x.1.at_.p,.int .i64 x.1.at_.l,.int .i64 x.1.at_.w,.slice vo vn vc]:=by unfold vM;rw [ex]
     have hvy:vM y=.agg #[.int .i64 y.1.table,.int .i64 y.1.kind,.string y.1.key,.string y.1.fin,.string y.1.val,.int .i64 y.1.expiry,.int .i64 y.1.at_.p,.int .i64 y.1.at_.l,.int .i64 y.1.at_.w,.slice uo un uc]:=by unfold vM;rw [ey]
     obtain⟨ls,hls⟩:∃ b,b=decide (sibC y.1 x.1<0):=⟨_,rfl⟩
     have HL:=hid (fun (z:World) (hz:Below wr.heap.size wr z)=>show Calls Tryz.prog 91 #[.agg #[.int .i64 y.1.table,.int .i64 y.1.kind,.string y.1.key,.string y.1.fin,.string y.1.val,.int .i64 y.1.expiry,.int .i64 y.1.at_.p,.int .i64 y.1.at_.l,.int .i64 y.1.at_.w,.slice uo un uc],.agg #[.int .i64 x.1.table,.int .i64 x.1.kind,.string x.1.key,.string x.1.fin,.string x.1.val,.int .i64 x.1.expiry,.int .i64 x.1.at_.p,.int .i64 x.1.at_.l,.int .i64 x.1.at_.w,.slice vo vn vc]] z (fun e w'=>e=.returned (.bool ls)/\Below z.heap.size z w') from by
      have h:=HLE.out y x z (below_then HBW.out lr hz) hym (mg0 HX.out)
      rw [hvx,hvy,<-hls] at h;exact h)
     obtain⟨c,hc⟩:∃ c,c=muC y.1 x.1:=⟨_,rfl⟩
     have HC:=hid (fun (z:World) (hz:Below w.heap.size w z)=>show Calls Tryz.prog 52 #[.agg #[.int .i64 y.1.table,.int .i64 y.1.kind,.string y.1.key,.string y.1.fin,.string y.1.val,.int .i64 y.1.expiry,.int .i64 y.1.at_.p,.int .i64 y.1.at_.l,.int .i64 y.1.at_.w,.slice uo un uc],.agg #[.int .i64 x.1.table,.int .i64 x.1.kind,.string x.1.key,.string x.1.fin,.string x.1.val,.int .i64 x.1.expiry,.int .i64 x.1.at_.p,.int .i64 x.1.at_.l,.int .i64 x.1.at_.w,.slice vo vn vc]] z (fun e w'=>e=.returned (.int .i64 c)/\Below z.heap.size z w') from by
      have h:=HCO.out y x z hz hym (mg0 HX.out)
      rw [hvx,hvy,<-hc] at h;exact h)
     have hcne:(c == 0)=false:=by have:=HXY.out;rw [<-hc] at this;simpa using this
     have hstep:=hst.out.2
     rw [hdl] at hstep
     rw [sIn_cons,<-hls] at hstep
     have HST:=hid hstep
     have HXN:=hid hst.out.1
     have HATX:=hid (fun (z:World) (hz:Below w.heap.size w z)=>show At z xb (xoff+i*10) x from by
      obtain⟨b',o',e',h⟩:=(HV.out.below hz).at_ HX.out
      cases e';exact h)
     have HATY:=hid (fun (z:World) (hz:Below wo.heap.size wo z)=>show At z yb (yoff+k*10) y from by
      obtain⟨b',o',e',h⟩:=(HACC.out.below hz).at_ hy
      cases e';exact h)
     have HOVX:=hid (fun (z:World) (hz:Below w.heap.size w z)=>(HV.out.below hz).over x (mg0 HX.out))
     have HOVY:=hid (fun (z:World) (hz:Below w.heap.size w z)=>(HV.out.below hz).over y hym)
     have HW:=hid (fun (z:World) (hz:Below wo.heap.size wo z)=>show Below w.heap.size w z from below_then hb.out lr hz)
     have HEX:=hid ex
     have HEY:=hid ey
     have i0:(0:Int)<=(i:Int):=by omega
     have i1:(i:Int)<(n:Int):=by omega
     have k0:(0:Int)<=(k:Int):=by omega
     have k1:(k:Int)<(i:Int):=by omega
     clear hy hye hym hoy ey hdl ex hvx hvy hls hc hstep hst hvn hun hox hatx haty hkr
     cases inn
     ·
      cases ls
      ·
       skip
       obtain⟨hlx,a0,a1,a2,a3,a4,a5,a6,a7,a8,a9⟩:=HATX.out wr (HW.out wr HBZ.out)
       obtain⟨hly,b0,b1,b2,b3,b4,b5,b6,b7,b8,b9⟩:=HATY.out wr HBZ.out
       rw [HEX.out] at a9
       rw [HEY.out] at b9
       go_upto_region 10 with fail
       refine wp_region_calm (by kernel_rfl) (by kernel_rfl) ?_
       repeat (go_big_quiet_step ((go_at_call 91;exact calm (HL.out _ (BW.below _)))))
       refine wpQuiet_nil ?_
       rintro _ ⟨z1,rfl⟩
       obtain⟨w2,hw2⟩:∃ W,W=z1.at:=⟨_,rfl⟩
       have hz1:=z1.below
       rw [<-hw2] at hz1 ⊢
       have HB2:=hid (below_then HBZ.out lr hz1)
       have HO2:=hid (row_below hnx.out hz1)
       have hs2:B1<=w2.heap.size:=by have h:=HB2.out.size;rw [<-HB1.out] at h;exact h
       clear a0 a1 a2 a3 a4 a5 a6 a7 a8 a9 b0 b1 b2 b3 b4 b5 b6 b7 b8 b9 hlx hly
       clear hw2 z1 hz1
       obtain⟨hlx,a0,a1,a2,a3,a4,a5,a6,a7,a8,a9⟩:=HATX.out w2 (HW.out w2 HB2.out)
       obtain⟨hly,b0,b1,b2,b3,b4,b5,b6,b7,b8,b9⟩:=HATY.out w2 HB2.out
       rw [HEX.out] at a9
       rw [HEY.out] at b9
       go_wp2_with (at_builtin;refine wpList_append_rows rfl (.tmp 34) (.tmp 39) rfl B1 (.slice xo xn xc) xn _ rfl (row_below HO2.out (br.alloc lr _)) (some ⟨w2.heap.size,0,none⟩) 1 1 [x] rfl (one_rowY HEX.out (HOVX.out w2 (HW.out w2 HB2.out))) (by omega) (by simp;omega) ?_)
       intro v3 w3 g1 g2
       obtain⟨o3,c3,rfl⟩:∃ o1 c1,v3=.slice o1 (xn+1) c1:=by
        rcases g1.2 with ⟨h1,h0⟩ | ⟨g,cap,cur,h1,_⟩
        . omega
        . exact⟨_,_,h1⟩
       have HO3:=hid (show w3.ownsRow B1 42 10 (.slice o3 (xn+1) c3) (xn+1) ((nx++[x]).flatMap enM) from by rw [fa0];exact g1)
       have HB3:=hid (show Below wo.heap.size wo w3 from by
        have h:=(HB2.out.alloc (by rw [<-HB1.out];exact hs2) _).grown g2 (by have:=HB1.out;simp;omega) (fun q hq=>by have:=(HO2.out.lt q hq).1;have:=HB1.out;omega)
        exact h)
       clear a0 a1 a2 a3 a4 a5 a6 a7 a8 a9 b0 b1 b2 b3 b4 b5 b6 b7 b8 b9 hlx hly
       clear g1 g2
       obtain⟨hlx,a0,a1,a2,a3,a4,a5,a6,a7,a8,a9⟩:=HATX.out w3 (HW.out w3 HB3.out)
       obtain⟨hly,b0,b1,b2,b3,b4,b5,b6,b7,b8,b9⟩:=HATY.out w3 HB3.out
       rw [HEX.out] at a9
       rw [HEY.out] at b9
       go_upto_region 13 with fail
       refine wp_region_calm (by kernel_rfl) (by kernel_rfl) ?_
       repeat (go_big_quiet_step ((go_at_call 52;exact calm (HC.out _ (below_then (HW.out w3 HB3.out) lr (BW.below _))))))
       refine wpQuiet_nil ?_
       rintro _ ⟨z2,rfl⟩
       obtain⟨w5,hw5⟩:∃ W,W=z2.at:=⟨_,rfl⟩
       have hz2:=z2.below
       rw [<-hw5] at hz2 ⊢
       have HB5:=hid (below_then HB3.out lr hz2)
       have HO5:=hid (row_below HO3.out hz2)
       have hs5:B1<=w5.heap.size:=by have h:=HB5.out.size;rw [<-HB1.out] at h;exact h
       clear a0 a1 a2 a3 a4 a5 a6 a7 a8 a9 b0 b1 b2 b3 b4 b5 b6 b7 b8 b9 hlx hly
       clear hw5 z2 hz2
       obtain⟨hlx,a0,a1,a2,a3,a4,a5,a6,a7,a8,a9⟩:=HATX.out w5 (HW.out w5 HB5.out)
       obtain⟨hly,b0,b1,b2,b3,b4,b5,b6,b7,b8,b9⟩:=HATY.out w5 HB5.out
       rw [HEX.out] at a9
       rw [HEY.out] at b9
       go_wp2_with (at_builtin;refine wpList_append_rows rfl (.tmp 51) (.tmp 56) rfl B1 (.slice o3 (xn+1) c3) (xn+1) _ rfl (row_below HO5.out (br.alloc lr _)) (some ⟨w5.heap.size,0,none⟩) 1 1 [y] rfl (one_rowY HEY.out (HOVY.out w5 (HW.out w5 HB5.out))) (by omega) (by simp;omega) ?_)
       intro v6 w6 g1 g2
       obtain⟨o6,c6,rfl⟩:∃ o1 c1,v6=.slice o1 ((xn+1)+1) c1:=by
        rcases g1.2 with ⟨h1,h0⟩ | ⟨g,cap,cur,h1,_⟩
        . omega
        . exact⟨_,_,h1⟩
       have HO6:=hid (show w6.ownsRow B1 42 10 (.slice o6 ((xn+1)+1) c6) ((xn+1)+1) (((nx++[x])++[y]).flatMap enM) from by simpa [fa0] using g1)
       have HB6:=hid (show Below B1 wo w6 from by
        have h:Below B1 wo w5:=by have h:=HB5.out;rw [<-HB1.out] at h;exact h
        exact (h.alloc hs5 _).grown g2 (by simp;omega) (fun q hq=>(HO5.out.lt q hq).1))
       clear a0 a1 a2 a3 a4 a5 a6 a7 a8 a9 b0 b1 b2 b3 b4 b5 b6 b7 b8 b9 hlx hly
       clear g1 g2
       go_wp2_with fail
       go_roundw
       case rel=>exact⟨k+1,true,(nx++[x])++[y],(xn+1)+1,o6,c6,by omega,by go_num,rfl,rfl,by omega,hid ⟨by have:=HXN.out;simp;omega,by have h:=HST.out;simpa using h⟩,HO6,HB6⟩
       case measure=>simp [intOf];omega
      ·
       skip
       obtain⟨hlx,a0,a1,a2,a3,a4,a5,a6,a7,a8,a9⟩:=HATX.out wr (HW.out wr HBZ.out)
       obtain⟨hly,b0,b1,b2,b3,b4,b5,b6,b7,b8,b9⟩:=HATY.out wr HBZ.out
       rw [HEX.out] at a9
       rw [HEY.out] at b9
       go_upto_region 10 with fail
       refine wp_region_calm (by kernel_rfl) (by kernel_rfl) ?_
       repeat (go_big_quiet_step ((go_at_call 91;exact calm (HL.out _ (BW.below _)))))
       refine wpQuiet_nil ?_
       rintro _ ⟨z1,rfl⟩
       obtain⟨w2,hw2⟩:∃ W,W=z1.at:=⟨_,rfl⟩
       have hz1:=z1.below
       rw [<-hw2] at hz1 ⊢
       have HB2:=hid (below_then HBZ.out lr hz1)
       have HO2:=hid (row_below hnx.out hz1)
       have hs2:B1<=w2.heap.size:=by have h:=HB2.out.size;rw [<-HB1.out] at h;exact h
       clear a0 a1 a2 a3 a4 a5 a6 a7 a8 a9 b0 b1 b2 b3 b4 b5 b6 b7 b8 b9 hlx hly
       clear hw2 z1 hz1
       obtain⟨hlx,a0,a1,a2,a3,a4,a5,a6,a7,a8,a9⟩:=HATX.out w2 (HW.out w2 HB2.out)
       obtain⟨hly,b0,b1,b2,b3,b4,b5,b6,b7,b8,b9⟩:=HATY.out w2 HB2.out
       rw [HEX.out] at a9
       rw [HEY.out] at b9
       go_upto_region 13 with fail
       refine wp_region_calm (by kernel_rfl) (by kernel_rfl) ?_
       repeat (go_big_quiet_step ((go_at_call 52;exact calm (HC.out _ (below_then (HW.out w2 HB2.out) lr (BW.below _))))))
       refine wpQuiet_nil ?_
       rintro _ ⟨z2,rfl⟩
       obtain⟨w5,hw5⟩:∃ W,W=z2.at:=⟨_,rfl⟩
       have hz2:=z2.below
       rw [<-hw5] at hz2 ⊢
       have HB5:=hid (below_then HB2.out lr hz2)
       have HO5:=hid (row_below HO2.out hz2)
       have hs5:B1<=w5.heap.size:=by have h:=HB5.out.size;rw [<-HB1.out] at h;exact h
       clear a0 a1 a2 a3 a4 a5 a6 a7 a8 a9 b0 b1 b2 b3 b4 b5 b6 b7 b8 b9 hlx hly
       clear hw5 z2 hz2
       obtain⟨hlx,a0,a1,a2,a3,a4,a5,a6,a7,a8,a9⟩:=HATX.out w5 (HW.out w5 HB5.out)
       obtain⟨hly,b0,b1,b2,b3,b4,b5,b6,b7,b8,b9⟩:=HATY.out w5 HB5.out
       rw [HEX.out] at a9
       rw [HEY.out] at b9
       go_wp2_with (at_builtin;refine wpList_append_rows rfl (.tmp 51) (.tmp 56) rfl B1 (.slice xo xn xc) xn _ rfl (row_below HO5.out (br.alloc lr _)) (some ⟨w5.heap.size,0,none⟩) 1 1 [y] rfl (one_rowY HEY.out (HOVY.out w5 (HW.out w5 HB5.out))) (by omega) (by simp;omega) ?_)
       intro v6 w6 g1 g2
       obtain⟨o6,c6,rfl⟩:∃ o1 c1,v6=.slice o1 (xn+1) c1:=by
        rcases g1.2 with ⟨h1,h0⟩ | ⟨g,cap,cur,h1,_⟩
        . omega
        . exact⟨_,_,h1⟩
       have HO6:=hid (show w6.ownsRow B1 42 10 (.slice o6 (xn+1) c6) (xn+1) ((nx++[y]).flatMap enM) from by simpa [fa0] using g1)
       have HB6:=hid (show Below B1 wo w6 from by
        have h:Below B1 wo w5:=by have h:=HB5.out;rw [<-HB1.out] at h;exact h
        exact (h.alloc hs5 _).grown g2 (by simp;omega) (fun q hq=>(HO5.out.lt q hq).1))
       clear a0 a1 a2 a3 a4 a5 a6 a7 a8 a9 b0 b1 b2 b3 b4 b5 b6 b7 b8 b9 hlx hly
       clear g1 g2
       go_wp2_with fail
       go_roundw
       case rel=>exact⟨k+1,false,nx++[y],xn+1,o6,c6,by omega,by go_num,rfl,rfl,by omega,hid ⟨by have:=HXN.out;simp;omega,by have h:=HST.out;simpa using h⟩,HO6,HB6⟩
       case measure=>simp [intOf];omega
     ·
      skip
      obtain⟨hlx,a0,a1,a2,a3,a4,a5,a6,a7,a8,a9⟩:=HATX.out wr (HW.out wr HBZ.out)
      obtain⟨hly,b0,b1,b2,b3,b4,b5,b6,b7,b8,b9⟩:=HATY.out wr HBZ.out
      rw [HEX.out] at a9
      rw [HEY.out] at b9
      go_upto_region 10 with fail
      refine wp_region_calm (by kernel_rfl) (by kernel_rfl) ?_
      repeat (go_big_quiet_step ((go_at_call 91;exact calm (HL.out _ (BW.below _)))))
      refine wpQuiet_nil ?_
      rintro _ ⟨z1,rfl⟩
      obtain⟨w2,hw2⟩:∃ W,W=z1.at:=⟨_,rfl⟩
      have hz1:=z1.below
      rw [<-hw2] at hz1 ⊢
      have HB2:=hid (below_then HBZ.out lr hz1)
      have HO2:=hid (row_below hnx.out hz1)
      have hs2:B1<=w2.heap.size:=by have h:=HB2.out.size;rw [<-HB1.out] at h;exact h
      clear a0 a1 a2 a3 a4 a5 a6 a7 a8 a9 b0 b1 b2 b3 b4 b5 b6 b7 b8 b9 hlx hly
      clear hw2 z1 hz1
      obtain⟨hlx,a0,a1,a2,a3,a4,a5,a6,a7,a8,a9⟩:=HATX.out w2 (HW.out w2 HB2.out)
      obtain⟨hly,b0,b1,b2,b3,b4,b5,b6,b7,b8,b9⟩:=HATY.out w2 HB2.out
      rw [HEX.out] at a9
      rw [HEY.out] at b9
      go_upto_region 13 with fail
      refine wp_region_calm (by kernel_rfl) (by kernel_rfl) ?_
      repeat (go_big_quiet_step ((go_at_call 52;exact calm (HC.out _ (below_then (HW.out w2 HB2.out) lr (BW.below _))))))
      refine wpQuiet_nil ?_
      rintro _ ⟨z2,rfl⟩
      obtain⟨w5,hw5⟩:∃ W,W=z2.at:=⟨_,rfl⟩
      have hz2:=z2.below
      rw [<-hw5] at hz2 ⊢
      have HB5:=hid (below_then HB2.out lr hz2)
      have HO5:=hid (row_below HO2.out hz2)
      have hs5:B1<=w5.heap.size:=by have h:=HB5.out.size;rw [<-HB1.out] at h;exact h
      clear a0 a1 a2 a3 a4 a5 a6 a7 a8 a9 b0 b1 b2 b3 b4 b5 b6 b7 b8 b9 hlx hly
      clear hw5 z2 hz2
      obtain⟨hlx,a0,a1,a2,a3,a4,a5,a6,a7,a8,a9⟩:=HATX.out w5 (HW.out w5 HB5.out)
      obtain⟨hly,b0,b1,b2,b3,b4,b5,b6,b7,b8,b9⟩:=HATY.out w5 HB5.out
      rw [HEX.out] at a9
      rw [HEY.out] at b9
      go_wp2_with (at_builtin;refine wpList_append_rows rfl (.tmp 51) (.tmp 56) rfl B1 (.slice xo xn xc) xn _ rfl (row_below HO5.out (br.alloc lr _)) (some ⟨w5.heap.size,0,none⟩) 1 1 [y] rfl (one_rowY HEY.out (HOVY.out w5 (HW.out w5 HB5.out))) (by omega) (by simp;omega) ?_)
      intro v6 w6 g1 g2
      obtain⟨o6,c6,rfl⟩:∃ o1 c1,v6=.slice o1 (xn+1) c1:=by
       rcases g1.2 with ⟨h1,h0⟩ | ⟨g,cap,cur,h1,_⟩
       . omega
       . exact⟨_,_,h1⟩
      have HO6:=hid (show w6.ownsRow B1 42 10 (.slice o6 (xn+1) c6) (xn+1) ((nx++[y]).flatMap enM) from by simpa [fa0] using g1)
      have HB6:=hid (show Below B1 wo w6 from by
       have h:Below B1 wo w5:=by have h:=HB5.out;rw [<-HB1.out] at h;exact h
       exact (h.alloc hs5 _).grown g2 (by simp;omega) (fun q hq=>(HO5.out.lt q hq).1))
      clear a0 a1 a2 a3 a4 a5 a6 a7 a8 a9 b0 b1 b2 b3 b4 b5 b6 b7 b8 b9 hlx hly
      clear g1 g2
      go_wp2_with fail
      go_roundw
      case rel=>exact⟨k+1,true,nx++[y],xn+1,o6,c6,by omega,by go_num,rfl,rfl,by omega,hid ⟨by have:=HXN.out;simp;omega,by have h:=HST.out;simpa using h⟩,HO6,HB6⟩
      case measure=>simp [intOf];omega
    ·
     obtain rfl:k=i:=by omega
     have hfin:=hst.out.2
     rw [List.drop_of_length_le (by have:=HAL.out;omega)] at hfin
     have HNXT:=hid (hso.out.next HX.out)
     have HLEN:=hid (show (sIn x false acc).length=k+1 from by rw [sIn_len,HAL.out])
     have i0:(0:Int)<=(k:Int):=by omega
     have i1:(k:Int)<(n:Int):=by omega
     rw [<-hvn] at ex
     have HEX:=hid ex
     cases inn
     ·
      have HFIN:=hid (show nx++[x]=sIn x false acc from hfin)
      have hxk:xn=k:=by have h:=congrArg List.length HFIN.out;rw [HLEN.out,la0] at h;have:=hst.out.1;simp at h;omega
      subst hxk
      obtain⟨hlx,a0,a1,a2,a3,a4,a5,a6,a7,a8,a9⟩:=hatx
      rw [ex] at a9
      clear hfin hst hvn ex hox
      go_wp2_with (at_builtin;refine wpList_append_rows rfl (.tmp 60) (.tmp 65) rfl B1 (.slice xo xn xc) xn _ rfl (row_below hnx.out (br.alloc lr _)) (some ⟨wr.heap.size,0,none⟩) 1 1 [x] rfl (one_rowY HEX.out HOX.out) (by omega) (by simp;omega) ?_)
      intro v6 w6 g1 g2
      obtain⟨o6,c6,rfl⟩:∃ o1 c1,v6=.slice o1 (xn+1) c1:=by
       rcases g1.2 with ⟨h1,h0⟩ | ⟨g,cap,cur,h1,_⟩
       . omega
       . exact⟨_,_,h1⟩
      have HO6:=hid (show w6.ownsRow w.heap.size 42 10 (.slice o6 (xn+1) c6) (xn+1) ((sIn x false acc).flatMap enM) from by
       rw [<-HFIN.out]
       exact own_base (by simpa [fa0] using g1) (by have:=hb.out.size;have:=HB1.out;omega))
      have HB6:=hid (show Below w.heap.size w w6 from (HBW.out.alloc HBW.out.size _).grown g2 (by have:=HBW.out.size;simp;omega) (fun q hq=>by have:=(hnx.out.lt q hq).1;have:=HB1.out;have:=hb.out.size;omega))
      clear g1 g2 a0 a1 a2 a3 a4 a5 a6 a7 a8 a9 hlx
      go_wp2_with fail
      go_roundw
      case rel=>exact⟨xn+1,sIn x false acc,o6,c6,by omega,by go_num,rfl,HNXT,HO6,HB6⟩
      case measure=>simp [intOf];omega
     ·
      have HFIN:=hid (show nx=sIn x false acc from by have h:nx++[]=sIn x false acc:=hfin;rw [List.append_nil] at h;exact h)
      have hxk:xn=k+1:=by have h:=congrArg List.length HFIN.out;rw [HLEN.out] at h;have:=hst.out.1;omega
      subst hxk
      have HO6:=hid (show wr.ownsRow w.heap.size 42 10 (.slice xo (k+1) xc) (k+1) ((sIn x false acc).flatMap enM) from by
       rw [<-HFIN.out]
       exact own_base hnx.out (by have:=hb.out.size;have:=HB1.out;omega))
      clear hfin hst hvn ex hox hatx
      go_wp2_with fail
      go_roundw
      case rel=>exact⟨k+1,sIn x false acc,xo,xc,by omega,by go_num,rfl,HNXT,HO6,HBW⟩
      case measure=>simp [intOf];omega
  ·
   obtain rfl:i=n:=by omega
   have HF:=hid (show acc.map (·.1)=rowsF (R.map (·.1)) from by have h:=hso.out;rw [HN.out] at h;exact h.done)
   have HAL:=hid (hso.out.len (by have:=HN.out;omega))
   go_wp2_with fail
   go_ret
   exact⟨_,acc,rfl,HF.out,by rw [HAL.out];exact hown.out,hso.out.mem,hb.out⟩
