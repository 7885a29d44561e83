/- The walk of the law TableGets (layer 16). PRINTED by wip/gentabgets.py. -/
import Derived.Test.YtpeoonnglnchnaaGreatDoorPkAlive08
import Derived.Test.YtpeoonnglnchnaaGreatDoorPkRegSp2
set_option maxHeartbeats 16000000
set_option maxRecDepth 100000
set_option linter.unusedSimpArgs false
set_option linter.unusedVariables false
namespace Go.Proofs.YtpeoonnglnchnaaGreatDoor.Tab
open Go.Lib (hid)
open Go.RowKit Go.Proofs.YtpeoonnglnchnaaGreatDoor.Ord Go.Proofs.YtpeoonnglnchnaaGreatDoor.RegInv Go.Proofs.YtpeoonnglnchnaaGreatDoor.Spare Go.Proofs.YtpeoonnglnchnaaGreatDoor.Mut Go.Proofs.YtpeoonnglnchnaaGreatDoor.Mrk Go.Proofs.YtpeoonnglnchnaaGreatDoor.Rd
set_option linter.unusedSectionVars false
variable [Inhabited Lim]
theorem c_rsame16 {w:World} {v v':Value} {l:List Mu} (h:Reads w v l) (h':Reads w v' l) (hs:∀ m∈l,Small m):Calls Tryz.prog 12 #[v,v'] w (RetB true w):=by
 obtain⟨R,e,hR⟩:=h
 obtain⟨R',e',hR'⟩:=h'
 refine (refsame_any v v' R R' w hR hR' (fun x hx=>(hs x.1 (by rw [←e];exact List.mem_map.2 ⟨x,hx,rfl⟩))) (fun x hx=>(hs x.1 (by rw [←e'];exact List.mem_map.2 ⟨x,hx,rfl⟩)))).mono ?_
 rintro e2 w2 ⟨rfl,hb⟩
 rw [e,e']
 exact⟨by rw [(eqF_iff l l).2 rfl],hb⟩
theorem reads_turn {w w':World} {t:Nat} {lv wv fv v:Value} {rd:Nat} {P:List (List Mu)} {W l:List Mu} {F:Nat→Bool} {N:Nat} (h:Reads w v l) (ht:Tbl w t lv wv fv rd P W F N) (hg:w.grownBy w' (some t)):Reads w' v l:=by
 obtain⟨R,e,hR⟩:=h
 obtain⟨h0,⟨L,l1,-,-⟩,⟨R2,r1,-⟩,g,cap,g1,-⟩:=ht
 obtain⟨lo,lc,e1,-,-⟩:=Lst.form l1
 obtain⟨wo,wc,e2,-,-⟩:=r1.form
 subst e1
 subst e2
 subst g1
 have ci:=tblC_int lo wo (some ⟨g,0,none⟩) L.length R2.length N lc wc cap (.int .i64 (rd:Nat))
 have hM:∀ (x:Ro) (off:Nat),∃ j,j<10∧(#[Value.slice lo L.length lc,.slice wo R2.length wc,.slice (some ⟨g,0,none⟩) N cap,.int .i64 (rd:Nat)]:Array Value)[off+j]?≠(enM x)[j]?:=fun x off=>by
  by_cases e:off=3
  · exact⟨1,by decide,fun h=>by have:=ci (off+1) _ h;omega⟩
  · exact⟨0,by decide,fun h=>e (ci off _ h)⟩
 have hS:∀ (x:Stp) (off:Nat),∃ j,j<3∧(#[Value.slice lo L.length lc,.slice wo R2.length wc,.slice (some ⟨g,0,none⟩) N cap,.int .i64 (rd:Nat)]:Array Value)[off+j]?≠(enS x)[j]?:=fun x off=>by
  by_cases e:off=3
  · exact⟨1,by decide,fun h=>by have:=ci (off+1) _ h;omega⟩
  · exact⟨0,by decide,fun h=>e (ci off _ h)⟩
 exact⟨R,e,⟨lst_beside hR.row hg (lst_off hR.row h0 hM),fun x hx=>⟨lst_beside (hR.over x hx).lst hg (lst_off (hR.over x hx).lst h0 hS),(hR.over x hx).zn⟩⟩⟩
theorem tableGets_any (vl:Value) (A:List Ro) (key:ByteArray) (w:World) (hkm:key.size≤maxLen) (hT:Tabs w) (hA:MRow w vl A) (zA:∀ x∈A,x.1.key.size≤maxLen∧x.1.fin.size≤maxLen∧x.1.val.size≤maxLen) :
  Calls Tryz.prog 3 #[vl,.string key] w (RetB true w):=by
 have HGa:=hid (great_any vl A 60 w hA (by decide) zA)
 obtain⟨ga,hga⟩:∃ q,q=greatF (A.map (·.1)) 60:=⟨_,rfl⟩
 rw [←hga] at HGa
 obtain⟨la,hla⟩:∃ l,l=A.map (·.1):=⟨_,rfl⟩
 rw [←hla] at hga
 have HRA:=hid (show Reads w vl la from ⟨A,hla.symm,hA⟩)
 obtain⟨ao,ac,rfl,-,-⟩:=hA.form
 obtain⟨na,hna⟩:∃ k,k=A.length:=⟨_,rfl⟩
 rw [←hna] at HGa HRA ⊢
 have HT:=hid hT
 have HGG:=hid hga
 have HAL:=hid (show ∀ W,Below w.heap.size w W→Calls Tryz.prog 17 #[] W fun e w'=>e=.returned (.bool true)∧Below W.heap.size W w' from fun W h=>alive16_any W (HT.out.below h))
 clear hT hA zA hga hna hla
 obtain⟨x,hx⟩:∃ x,x=Mut.leftOf la:=⟨_,rfl⟩
 have HX:=hid hx
 clear hx
 go_enter Tryz.func3,Tryz.ntmps3
 go_wp2_with fail
 refine HGa.out.mono ?_
 rintro e w1 ⟨rfl,h1⟩
 subst h1
 cases ga
 case true=>
  go_wp2_with fail
  go_ret
  exact⟨rfl,Below.refl _ _⟩
 obtain⟨lA,sA⟩:=great_small HGG.out.symm
 have hkm2:key.size≤9223372036854775807:=by unfold maxLen at hkm;omega
 cases hq5:decide ((key.size:Int) > 500)
 case true=>
  go_wp2_with fail
  go_ret
  exact⟨rfl,Below.refl _ _⟩
 have hk5:key.size≤500:=by simp at hq5;omega
 have HOM:=hid (show (∀ W,Below w.heap.size w W→Calls Tryz.prog 10 #[.slice ao na ac] W (RetC x W))∧∀ W,Below w.heap.size w W→Calls Tryz.prog 7 #[.slice ao na ac] W (RetC x W) from by
  rw [HX.out]
  exact⟨fun W h=>c_of (HT.out.below h) (HRA.out.below h) (by omega) sA,fun W h=>c_refof (HT.out.below h) (HRA.out.below h) (by omega) sA⟩)
 have HG:=hid (show Mut.Good x 60 from by rw [HX.out];exact (Mut.leftOf_good la).more lA)
 have HGP:=hid (good_pages HG.out (Nat.le_refl _))
 clear lA sA HGG HGa HRA HX
 go_wp2_with fail
 refine (HOM.out.2 _ (Below.refl _ _)).mono ?_
 rintro e w1 ⟨vv,rfl,hl,hb1⟩
 obtain⟨m1,i1,j1,m2,i2,j2,m3,i3,j3,rfl,hl1⟩:=hl.form
 go_upto_region 4 with fail
 obtain⟨W2,hW2⟩:∃ W,W=w1.alloc (.cells #[.slice m1 i1 j1,.slice m2 i2 j2,.slice m3 i3 j3] 25):=⟨_,rfl⟩
 obtain⟨k3,hk3⟩:∃ k,k=w1.heap.size:=⟨_,rfl⟩
 rw [←hW2,←hk3]
 have hb2:Below w1.heap.size w1 W2:=by rw [hW2];exact (Below.refl _ _).alloc (Nat.le_refl _) _
 have HB2:=hid (below_then hb1 (Nat.le_refl _) hb2)
 have HC2:=hid (show C3 W2 k3 (.slice m1 i1 j1) (.slice m2 i2 j2) (.slice m3 i3 j3) from by rw [hW2,hk3];exact C3.newR w1 _ _ _)
 have HM2:=hid (show IsC x (.agg #[.slice m1 i1 j1,.slice m2 i2 j2,.slice m3 i3 j3]) W2 from (hl1.below hb2).is)
 have HY2:=hid (hl1.below hb2)
 clear hb1 hl hl1 hW2 hk3 hb2
 go_wp2_with fail
 refine (HOM.out.1 _ HB2.out).mono ?_
 rintro e w3 ⟨vx,rfl,hx3,hb3⟩
 have HPU:=hid (tabput_any hx3 HG.out (Nat.le_refl _))
 have HB3:=hid (below_then HB2.out (Nat.le_refl _) hb3)
 have HC3:=hid (HC2.out.below hb3)
 have HM3:=hid (HM2.out.below hb3)
 have HY3:=hid (HY2.out.below hb3)
 clear hx3 hb3 HB2 HC2 HM2
 go_wp2_with fail
 refine HPU.out.mono ?_
 rintro e w4 ⟨bv,rfl,hob,hb4⟩
 have HOP:=hid (topen_any bv x 60 w4 w (row_of hob) HG.out (Nat.le_refl _) HT.out (below_then HB3.out (Nat.le_refl _) hb4))
 have HB4:=hid (below_then HB3.out (Nat.le_refl _) hb4)
 have HC4:=hid (HC3.out.below hb4)
 have HM4:=hid (HM3.out.below hb4)
 have HY4:=hid (HY3.out.below hb4)
 clear hob hb4 HPU HB3 HC3 HM3
 go_wp2_with fail
 refine HOP.out.mono ?_
 rintro e w5 ⟨t,lv,wv,fv,rfl,htw,htb,hb5⟩
 have HBx5:=hid hb5
 have HT5:=hid htb
 have htw2:w.heap.size≤t:=Nat.le_trans HB4.out.size htw
 have HC5:=hid (HC4.out.below hb5)
 have HY5:=hid (HY4.out.below hb5)
 have hcl:(x.cells++x.sibs).length≤60:=by have:=rowsC_len HG.out.okc;unfold rowsC at this;rw [rowsF_len] at this;exact this
 have HRS:=hid (refrows16_any _ _ _ x 60 w5 HY5.out (fun m hm=>(small_right (rowsC_right HG.out.okc m (rowsF_mem.2 hm))).over) (rows_nodup HG.out) (by omega))
 obtain⟨-,s0,s1,s2,-,-,-⟩:=HC5.out
 obtain⟨i0,hi0,hz0,hz1,hz2⟩:=info_parts info_M
 have HI:=hid (And.intro hi0 (And.intro hz0 (And.intro hz1 hz2)))
 clear hi0 hz0 hz1 hz2 htb hb5 hcl HOP
 go_wp2_with fail
 refine HRS.out.mono ?_
 rintro e wa ⟨v2,R,rfl,hmap,hmr,hba⟩
 have HMAP:=hid (show R.map (·.1)=rowsC x from hmap)
 obtain⟨ro,rc,rfl,-,-⟩:=hmr.form
 obtain⟨rn,hrn⟩:∃ q,q=R.length:=⟨_,rfl⟩
 have hRl:rn≤60:=by have h:=congrArg List.length HMAP.out;rw [List.length_map] at h;have:=rowsC_len HG.out.okc;omega
 have HRN:=hid hrn
 rw [←hrn] at hmr ⊢
 have HMR:=hid hmr
 have HBxa:=hid (below_then HBx5.out (Nat.le_refl _) hba)
 have HTa:=hid (HT5.out.below hba)
 obtain⟨B,hB⟩:∃ b,b=wa.heap.size:=⟨_,rfl⟩
 have HB:=hid hB
 clear hmap hmr hba s0 s1 s2 hrn hB HRS
 go_wp2_with fail
 go_loopw [8,10] (fun ov iv wr=>∃ (i on:Nat) (oo:Option Addr) (oc:Nat) (O:List Ro),i≤rn∧on≤i∧iv=.int .i64 i∧ov=.slice oo on oc∧Hid (on=O.length∧O.map (·.1)=((R.take i).map (·.1)).filter (keyB key)∧∀ y∈O,y∈R)∧Hid (wr.ownsRow B 42 10 (.slice oo on oc) on (O.flatMap enM))∧Hid (Below wa.heap.size wa wr)) (fun _ iv _=>rn - (intOf iv).toNat)
 case atStart=>exact⟨0,0,none,0,[],by omega,by omega,rfl,rfl,hid ⟨rfl,rfl,fun y hy=>by cases hy⟩,hid (World.ownsRow_nil _ _ _ _),hid (Below.refl _ _)⟩
 case round=>
  obtain⟨i,on,oo,oc,O,hi,hon,rfl,rfl,ho,hO,hb⟩:=hrel
  by_cases hlt:i<rn
  ·
   have hir:i<R.length:=by have:=HRN.out;omega
   obtain⟨y,hy⟩:∃ y,R[i]?=some y:=⟨_,List.getElem?_eq_getElem hir⟩
   obtain⟨x,hx⟩:∃ x:Ro,x=y:=⟨_,rfl⟩
   subst hx
   have hmr:=HMR.out.below hb.out
   obtain⟨xb,xoff,hao,hat⟩:=hmr.at_ hy
   cases hao
   have hov:=hmr.over x (List.mem_of_getElem? hy)
   obtain⟨xo,xc,xe,-,-⟩:=Over.form hov
   obtain⟨xn,hxn⟩:∃ q,q=x.1.over.length:=⟨_,rfl⟩
   rw [←hxn] at xe
   have HEY:=hid (show enM x=[.int .i64 x.1.table,.int .i64 x.1.kind,.string x.1.key,.string x.1.fin,.string x.1.val,.int .i64 x.1.expiry,.int .i64 x.1.at_.p,.int .i64 x.1.at_.l,.int .i64 x.1.at_.w,.slice xo xn xc] from by unfold enM;rw [xe])
   obtain⟨hxl,a0,a1,a2,a3,a4,a5,a6,a7,a8,a9⟩:=hat
   rw [xe] at a9
   have hpj:((R.map (·.1))[i]?)=some x.1:=by rw [List.getElem?_map,hy];rfl
   have HFS:=hid (show ((R.take (i+1)).map (·.1)).filter (keyB key)=((R.take i).map (·.1)).filter (keyB key)++(if keyB key x.1 then [x.1] else []) from by
    rw [List.map_take,List.map_take]
    exact filt_snoc hpj (keyB key))
   have HXM:=hid (List.mem_of_getElem? hy)
   have j0:(0:Int)≤(i:Int):=by omega
   have j1:(i:Int)<(rn:Int):=by omega
   have hBs:B≤wr.heap.size:=by rw [HB.out];exact hb.out.size
   clear hir hy hmr hov xe hxn hpj
   by_cases hkk:(x.1.key.toList == key.toList)=true
   ·
    have HNEW:Hid (∀ j u,(enM x)[j]?=some u→(wr.alloc (.cells #[.int .i64 x.1.table,.int .i64 x.1.kind,.string x.1.key,.string x.1.fin,.string x.1.val,.int .i64 x.1.expiry,.int .i64 x.1.at_.p,.int .i64 x.1.at_.l,.int .i64 x.1.at_.w,.slice xo xn xc] 42)).cell? ((⟨wr.heap.size,0,none⟩:Addr).add j)=some u):=hid (by rw [HEY.out];exact new_cells _ _ _)
    have HONE:Hid (∀ u∈enM x,u.oneCell'=true):=hid (by rw [HEY.out];intro u hu;simp at hu;rcases hu with rfl | rfl | rfl | rfl | rfl | rfl | rfl | rfl | rfl | rfl <;> rfl)
    go_wp2_with (at_builtin;refine wpList_append_own_loc rfl _ _ 22 rfl B 42 i0 zeroM zMM 120 Tryz.underlying22 HI.out.1 HI.out.2.1 rfl HI.out.2.2.1 HI.out.2.2.2 (by decide) (.slice oo on oc) on (O.flatMap enM) rfl (row_below hO.out ((Below.refl _ _).alloc (Nat.le_refl _) _)) ⟨_,0,none⟩ 1 1 (enM x) rfl (by decide) rfl HNEW.out HONE.out (by unfold maxLen;omega) (by omega) (by simp;omega) ?_)
    intro v1 w8 q1 q2 q3
    obtain⟨o3,c3,rfl⟩:=row_form q1
    have hba:Below wr.heap.size wr (wr.alloc (.cells #[.int .i64 x.1.table,.int .i64 x.1.kind,.string x.1.key,.string x.1.fin,.string x.1.val,.int .i64 x.1.expiry,.int .i64 x.1.at_.p,.int .i64 x.1.at_.l,.int .i64 x.1.at_.w,.slice xo xn xc] 42)):=(Below.refl _ _).alloc (Nat.le_refl _) _
    have hlt8:=fun q (hq:(Value.slice oo on oc).ownBlock=some q)=>World.ownsRow.lt hO.out q hq
    have HO8:=hid (show w8.ownsRow B 42 10 (.slice o3 (on+1) c3) (on+1) ((O++[x]).flatMap enM) from by rw [List.flatMap_append,List.flatMap_singleton];exact q1)
    have HB8:=hid (show Below wa.heap.size wa w8 from (below_then hb.out (Nat.le_refl _) hba).grown q2 (below_then hb.out (Nat.le_refl _) hba).size (fun j hj=>by have:=(hlt8 j hj).1;have:=HB.out;omega))
    have HS8:=hid (show on+1=(O++[x]).length∧(O++[x]).map (·.1)=((R.take (i+1)).map (·.1)).filter (keyB key)∧∀ y∈O++[x],y∈R from ⟨by rw [List.length_append,ho.out.1];rfl,by rw [HFS.out,show keyB key x.1=true from hkk,List.map_append,ho.out.2.1];rfl,fun y hy=>by
     rcases List.mem_append.1 hy with h | h
     · exact ho.out.2.2 y h
     · rw [List.mem_singleton.1 h];exact HXM.out⟩)
    clear q1 q2 q3 hba hlt8 hkk a0 a1 a2 a3 a4 a5 a6 a7 a8 a9
    go_wp2_with fail
    go_roundw
    case rel=>exact⟨i+1,on+1,o3,c3,O++[x],by omega,by omega,by go_num,rfl,HS8,HO8,HB8⟩
    case measure=>simp [intOf];omega
   ·
    have hkf:(x.1.key.toList == key.toList)=false:=by simpa using hkk
    have HS8:=hid (show on=O.length∧O.map (·.1)=((R.take (i+1)).map (·.1)).filter (keyB key)∧∀ y∈O,y∈R from ⟨ho.out.1,by rw [HFS.out,show keyB key x.1=false from hkf,ho.out.2.1];simp,ho.out.2.2⟩)
    clear hkk
    go_wp2_with fail
    go_roundw
    case rel=>exact⟨i+1,on,oo,oc,O,by omega,by omega,by go_num,rfl,HS8,hO,hb⟩
    case measure=>simp [intOf];omega
  ·
   obtain rfl:i=rn:=by omega
   have HRO:=hid (show Reads wr (.slice oo on oc) ((rowsC x).filter (keyB key)) from by
    refine⟨O,?_,own_mrow (by rw [←ho.out.1];exact hO.out) (fun y hy=>(HMR.out.below hb.out).over y (ho.out.2.2 y hy))⟩
    rw [ho.out.2.1,List.take_of_length_le (by rw [HRN.out];exact Nat.le_refl _),HMAP.out])
   have HBxr:=hid (below_then HBxa.out (Nat.le_refl _) hb.out)
   have HTr:=hid (HTa.out.below hb.out)
   have HCr:=hid (show ∀ W,Below w4.heap.size w4 W→C3 W k3 (.slice m1 i1 j1) (.slice m2 i2 j2) (.slice m3 i3 j3) from fun W h=>HC4.out.below h)
   have hsm:∀ m∈rowsC x,Small m:=fun m hm=>small_right (rowsC_right HG.out.okc m hm)
   have HSF:=hid (show ∀ m∈(rowsC x).filter (keyB key),Small m from fun m hm=>hsm m (List.mem_filter.1 hm).1)
   have HSW:=hid (show ∀ m∈x.wipes,rightF m=true from fun m hm=>HG.out.okc.right m (Con.mem_all.2 (Or.inr (Or.inl hm))))
   obtain⟨rd,hrd⟩:∃ q,q=readsF x key:=⟨_,rfl⟩
   have HGT:=hid (show ∀ W,Below w4.heap.size w4 W→Tbl W t lv wv fv 0 (pagesF (rowsC x)) x.wipes (bitsC x) (sizeC x)→Calls Tryz.prog 13 #[.pointer (some ⟨t,0,none⟩),.string key] W (GetTP t lv wv fv 0 (pagesF (rowsC x)) x.wipes (bitsC x) (sizeC x) ((rowsC x).filter (keyB key),rd) W) from fun W hb ht=>by
    have h:=tget_any t lv wv fv 0 _ x.wipes _ _ key W w ht HT.out (below_then HB4.out (Nat.le_refl _) hb) htw2 HGP.out (sizeC_pos x) (sizeC_le x) (by omega) (by omega)
    rw [getT_rows HG.out,←hrd] at h
    exact h)
   have HRF:=hid (show ∀ W,Below w4.heap.size w4 W→Calls Tryz.prog 15 #[.agg #[.slice m1 i1 j1,.slice m2 i2 j2,.slice m3 i3 j3],.string key] W fun e w'=>e=.returned (.int .i64 (rd:Nat))∧Below W.heap.size W w' from fun W hb=>by
    rw [hrd]
    exact refreads_any key (HM4.out.below hb) HG.out (Nat.le_refl _) (by omega))
   have hcm:∀ a b,(Below w4.heap.size w4 a∧Reads a (.slice oo on oc) ((rowsC x).filter (keyB key)))→Below a.heap.size a b→(Below w4.heap.size w4 b∧Reads b (.slice oo on oc) ((rowsC x).filter (keyB key))):=fun a b h hb=>⟨below_then h.1 (Nat.le_refl _) hb,h.2.below hb⟩
   have hpr:∀ (j:Nat) (a b:World),(j=2→(fun W=>Tbl W t lv wv fv 0 (pagesF (rowsC x)) x.wipes (bitsC x) (sizeC x)) a)→Below a.heap.size a b→(j=2→(fun W=>Tbl W t lv wv fv 0 (pagesF (rowsC x)) x.wipes (bitsC x) (sizeC x)) b):=fun j a b h hb e=>(h e).below hb
   have HRR:=hid (show ∀ W,Below wr.heap.size wr W→Reads W (.slice oo on oc) ((rowsC x).filter (keyB key)) from fun W h=>HRO.out.below h)
   have HOWN:=hid (show ∀ W,Below w4.heap.size w4 W→True from fun _ _=>trivial)
   have HP0:=hid (HTr.out.below (Below.refl _ _).drew)
   have HC0:=hid (show Below w4.heap.size w4 wr.drew from below_then HBxr.out (Nat.le_refl _) (Below.refl _ _).drew)
   clear hrd hsm ho hO hb
   go_upto_region 14 with fail
   refine RegLin.wp_region_lin (RegLin.useL []) (fun W=>Below w4.heap.size w4 W∧Reads W (.slice oo on oc) ((rowsC x).filter (keyB key))) (fun j W=>j=2→(fun W=>Tbl W t lv wv fv 0 (pagesF (rowsC x)) x.wipes (bitsC x) (sizeC x)) W) 23 [false,false,false,false,false,false,false,false,false,false,false,false,false,false,false,false,false,false,false,false,false,false,false,false,false,false,false,false,false,false,false,false,false,false,false,false,false,false,false,false,false,false,false,false,false,false,false,false,false,false,false,false,false,false,false,true,true,true,true,true,true,true,true,true,true,true,true,true,true,true,true,true,true,true,true,true,true,true]
    [sLit (.pointer (some ⟨t,0,none⟩)),
  sLit (.string key),
  sOne (fun v1 W=>Reads W v1 ((rowsC x).filter (keyB key))∧Tbl W t lv wv fv rd (pagesF (rowsC x)) x.wipes (bitsC x) (sizeC x)) (fun _ _ _ h hb=>⟨h.1.below hb,h.2.below hb⟩),
  sLit (.slice oo on oc),
  sLit (.bool true),
  sLit (.bool true),
  sLit (.pointer (some ⟨t,0,none⟩)),
  sLit (.int .i64 (rd:Nat)),
  sLit (.agg #[.slice m1 i1 j1,.slice m2 i2 j2,.slice m3 i3 j3]),
  sLit (.string key),
  sLit (.int .i64 (rd:Nat)),
  sLit (.bool true),
  sLit (.bool true),
  sLit (.bool true),
  sLit (.pointer (some ⟨t,0,none⟩)),
  sOne (fun v1 W=>Reads W v1 x.wipes) (fun _ _ _ h hb=>h.below hb),
  sLit (.pointer (some ⟨k3,1,none⟩)),
  sLit (.slice m2 i2 j2),
  sLit (.bool true),
  sLit (.bool true),
  sLit (.bool true),
  sLit (.bool true),
  sLit (.bool true)] (⟨HC0.out,HRO.out.below (Below.refl _ _).drew⟩) (fun j _ _=>HP0.out) (by kernel_rfl) (by kernel_rfl) (by kernel_rfl) (by kernel_rfl) (fun F hF=>?_)
   simp only [over,overL,Nat.reduceAdd] at hF
   obtain rfl:=funext hF
   clear hF
   refine⟨⟨?_,?_,?_,?_,?_,?_,?_,?_,?_,?_,?_,?_,?_,?_,?_,?_,?_,?_,?_,?_,?_,?_,?_,trivial⟩,?_⟩
   ·
    intro V W hc hp hd K hK _
    clear hd
    go_wp2_with fail
    exact hK _ _ rfl (RegLin.keeps_below hcm hpr hc (Below.refl _ _)) rfl
   ·
    intro V W hc hp hd K hK _
    clear hd
    go_wp2_with fail
    exact hK _ _ rfl (RegLin.keeps_below hcm hpr hc (Below.refl _ _)) rfl
   ·
    intro V W hc hp hd K hK _
    have h0:(V 55)=.pointer (some ⟨t,0,none⟩):=hd 0 (by decide) (by kernel_rfl) (RegLin.useL_ok (by kernel_rfl))
    have h1:(V 56)=.string key:=hd 1 (by decide) (by kernel_rfl) (RegLin.useL_ok (by kernel_rfl))
    clear hd
    skip
    have HCC:=hid hc
    have HPP:=hid (hp rfl)
    clear hc hp
    go_wp2_with fail
    refine (HGT.out W HCC.out.1 HPP.out).mono ?_
    rintro e w1 ⟨v1,R1,rfl,g1,g2,g3,g4⟩
    have HN2:=hid (show Reads w1 v1 ((rowsC x).filter (keyB key))∧Tbl w1 t lv wv fv rd (pagesF (rowsC x)) x.wipes (bitsC x) (sizeC x) from ⟨⟨R1,g1,g2.mrow⟩,by have h:=g3;rw [Nat.zero_add] at h;exact h⟩)
    have HN1:=hid (show Below w4.heap.size w4 w1∧Reads w1 (.slice oo on oc) ((rowsC x).filter (keyB key)) from ⟨tbl_below HCC.out.1 htw g4,reads_turn HCC.out.2 HPP.out g4⟩)
    clear g1 g2 g3 g4
    go_wp2_with fail
    refine hK _ _ ?_ ?_ ?_
    · rfl
    ·
     refine RegLin.keeps_by HN1.out (by kernel_rfl) (fun j hj hne hl h=>?_)
     iterate 23 (rcases j with _ | j;first | exact h | exact absurd rfl hne | exact Bool.noConfusion (hl.symm.trans (show RegLin.liveB _ _ _ _ _=false from by kernel_rfl)))
     exact absurd hj (by omega)
    · exact HN2.out
   ·
    intro V W hc hp hd K hK _
    clear hd
    go_wp2_with fail
    exact hK _ _ rfl (RegLin.keeps_below hcm hpr hc (Below.refl _ _)) rfl
   ·
    intro V W hc hp hd K hK _
    have h2:Reads W (V 57) ((rowsC x).filter (keyB key))∧Tbl W t lv wv fv rd (pagesF (rowsC x)) x.wipes (bitsC x) (sizeC x):=hd 2 (by decide) (by kernel_rfl) (RegLin.useL_ok (by kernel_rfl))
    have h3:(V 58)=.slice oo on oc:=hd 3 (by decide) (by kernel_rfl) (RegLin.useL_ok (by kernel_rfl))
    clear hd
    have HCC:=hid hc
    have HV:=hid h2.1
    clear hc hp h2
    go_wp2_with fail
    refine (c_rsame16 HV.out HCC.out.2 HSF.out).mono ?_
    rintro e w1 ⟨rfl,g2⟩
    go_wp2_with fail
    exact hK _ _ rfl (RegLin.keeps_below hcm hpr HCC.out g2) rfl
   ·
    intro V W hc hp hd K hK _
    have h4:(V 59)=.bool true:=hd 4 (by decide) (by kernel_rfl) (RegLin.useL_ok (by kernel_rfl))
    clear hd
    go_wp2_with fail
    exact hK _ _ rfl (RegLin.keeps_below hcm hpr hc (Below.refl _ _)) rfl
   ·
    intro V W hc hp hd K hK _
    have h5:(V 60)=.bool true:=hd 5 (by decide) (by kernel_rfl) (RegLin.useL_ok (by kernel_rfl))
    clear hd
    go_wp2_with fail
    exact hK _ _ rfl (RegLin.keeps_below hcm hpr hc (Below.refl _ _)) rfl
   ·
    intro V W hc hp hd K hK _
    have h2:Reads W (V 57) ((rowsC x).filter (keyB key))∧Tbl W t lv wv fv rd (pagesF (rowsC x)) x.wipes (bitsC x) (sizeC x):=hd 2 (by decide) (by kernel_rfl) (RegLin.useL_ok (by kernel_rfl))
    have h5:(V 60)=.bool true:=hd 5 (by decide) (by kernel_rfl) (RegLin.useL_ok (by kernel_rfl))
    have h6:(V 61)=.pointer (some ⟨t,0,none⟩):=hd 6 (by decide) (by kernel_rfl) (RegLin.useL_ok (by kernel_rfl))
    clear hd
    have HCC:=hid hc
    have HV:=hid h2.2
    clear hc hp h2
    go_wp2_with fail
    refine (treads_any t lv wv fv rd _ _ _ _ W HV.out).mono ?_
    rintro e w1 ⟨rfl,h1⟩
    subst h1
    go_wp2_with fail
    exact hK _ _ rfl (RegLin.keeps_below hcm hpr HCC.out (Below.refl _ _)) rfl
   ·
    intro V W hc hp hd K hK _
    have h5:(V 60)=.bool true:=hd 5 (by decide) (by kernel_rfl) (RegLin.useL_ok (by kernel_rfl))
    clear hd
    obtain⟨-,s0,s1,s2,-,-,-⟩:=(HCr.out W hc.1)
    go_wp2_with fail
    exact hK _ _ rfl (RegLin.keeps_below hcm hpr hc (Below.refl _ _)) rfl
   ·
    intro V W hc hp hd K hK _
    have h5:(V 60)=.bool true:=hd 5 (by decide) (by kernel_rfl) (RegLin.useL_ok (by kernel_rfl))
    clear hd
    go_wp2_with fail
    exact hK _ _ rfl (RegLin.keeps_below hcm hpr hc (Below.refl _ _)) rfl
   ·
    intro V W hc hp hd K hK _
    have h5:(V 60)=.bool true:=hd 5 (by decide) (by kernel_rfl) (RegLin.useL_ok (by kernel_rfl))
    have h8:(V 63)=.agg #[.slice m1 i1 j1,.slice m2 i2 j2,.slice m3 i3 j3]:=hd 8 (by decide) (by kernel_rfl) (RegLin.useL_ok (by kernel_rfl))
    have h9:(V 64)=.string key:=hd 9 (by decide) (by kernel_rfl) (RegLin.useL_ok (by kernel_rfl))
    clear hd
    have HCC:=hid hc
    clear hc hp
    go_wp2_with fail
    refine (HRF.out W HCC.out.1).mono ?_
    rintro e w1 ⟨rfl,g2⟩
    go_wp2_with fail
    exact hK _ _ rfl (RegLin.keeps_below hcm hpr HCC.out g2) rfl
   ·
    intro V W hc hp hd K hK _
    have h5:(V 60)=.bool true:=hd 5 (by decide) (by kernel_rfl) (RegLin.useL_ok (by kernel_rfl))
    have h7:(V 62)=.int .i64 (rd:Nat):=hd 7 (by decide) (by kernel_rfl) (RegLin.useL_ok (by kernel_rfl))
    have h10:(V 65)=.int .i64 (rd:Nat):=hd 10 (by decide) (by kernel_rfl) (RegLin.useL_ok (by kernel_rfl))
    clear hd
    have HCC:=hid hc
    clear hc hp
    go_wp2_with fail
    refine hK _ _ ?_ ?_ ?_
    · rfl
    · exact RegLin.keeps_below hcm hpr HCC.out (Below.refl _ _)
    · exact (by first | rfl | (show Value.bool _=Value.bool true;simp))
   ·
    intro V W hc hp hd K hK _
    have h5:(V 60)=.bool true:=hd 5 (by decide) (by kernel_rfl) (RegLin.useL_ok (by kernel_rfl))
    have h11:(V 66)=.bool true:=hd 11 (by decide) (by kernel_rfl) (RegLin.useL_ok (by kernel_rfl))
    clear hd
    go_wp2_with fail
    exact hK _ _ rfl (RegLin.keeps_below hcm hpr hc (Below.refl _ _)) rfl
   ·
    intro V W hc hp hd K hK _
    have h12:(V 67)=.bool true:=hd 12 (by decide) (by kernel_rfl) (RegLin.useL_ok (by kernel_rfl))
    clear hd
    go_wp2_with fail
    exact hK _ _ rfl (RegLin.keeps_below hcm hpr hc (Below.refl _ _)) rfl
   ·
    intro V W hc hp hd K hK _
    have h13:(V 68)=.bool true:=hd 13 (by decide) (by kernel_rfl) (RegLin.useL_ok (by kernel_rfl))
    clear hd
    go_wp2_with fail
    exact hK _ _ rfl (RegLin.keeps_below hcm hpr hc (Below.refl _ _)) rfl
   ·
    intro V W hc hp hd K hK _
    have h2:Reads W (V 57) ((rowsC x).filter (keyB key))∧Tbl W t lv wv fv rd (pagesF (rowsC x)) x.wipes (bitsC x) (sizeC x):=hd 2 (by decide) (by kernel_rfl) (RegLin.useL_ok (by kernel_rfl))
    have h13:(V 68)=.bool true:=hd 13 (by decide) (by kernel_rfl) (RegLin.useL_ok (by kernel_rfl))
    have h14:(V 69)=.pointer (some ⟨t,0,none⟩):=hd 14 (by decide) (by kernel_rfl) (RegLin.useL_ok (by kernel_rfl))
    clear hd
    have HCC:=hid hc
    have HV:=hid h2.2
    clear hc hp h2
    go_wp2_with fail
    refine (twipes_any t lv wv fv rd _ _ _ _ W HV.out HSW.out (by have:=HG.out.okc.lens.2.1;omega)).mono ?_
    rintro e w1 ⟨v1,rfl,g1,g2⟩
    go_wp2_with fail
    refine hK _ _ ?_ ?_ ?_
    · rfl
    · exact RegLin.keeps_below hcm hpr HCC.out g2
    · exact g1
   ·
    intro V W hc hp hd K hK _
    have h13:(V 68)=.bool true:=hd 13 (by decide) (by kernel_rfl) (RegLin.useL_ok (by kernel_rfl))
    clear hd
    go_wp2_with fail
    exact hK _ _ rfl (RegLin.keeps_below hcm hpr hc (Below.refl _ _)) rfl
   ·
    intro V W hc hp hd K hK _
    have h13:(V 68)=.bool true:=hd 13 (by decide) (by kernel_rfl) (RegLin.useL_ok (by kernel_rfl))
    have h16:(V 71)=.pointer (some ⟨k3,1,none⟩):=hd 16 (by decide) (by kernel_rfl) (RegLin.useL_ok (by kernel_rfl))
    clear hd
    obtain⟨-,s0,s1,s2,-,-,-⟩:=(HCr.out W hc.1)
    go_wp2_with fail
    exact hK _ _ rfl (RegLin.keeps_below hcm hpr hc (Below.refl _ _)) rfl
   ·
    intro V W hc hp hd K hK _
    have h13:(V 68)=.bool true:=hd 13 (by decide) (by kernel_rfl) (RegLin.useL_ok (by kernel_rfl))
    have h15:Reads W (V 70) x.wipes:=hd 15 (by decide) (by kernel_rfl) (RegLin.useL_ok (by kernel_rfl))
    have h17:(V 72)=.slice m2 i2 j2:=hd 17 (by decide) (by kernel_rfl) (RegLin.useL_ok (by kernel_rfl))
    clear hd
    have HCC:=hid hc
    have HV:=hid h15
    have HV2:=hid (HY4.out.below hc.1).2
    clear hc hp h15
    go_wp2_with fail
    refine (c_rsame16 HV.out HV2.out (fun m hm=>small_right (HSW.out m hm))).mono ?_
    rintro e w1 ⟨rfl,g2⟩
    go_wp2_with fail
    exact hK _ _ rfl (RegLin.keeps_below hcm hpr HCC.out g2) rfl
   ·
    intro V W hc hp hd K hK _
    have h13:(V 68)=.bool true:=hd 13 (by decide) (by kernel_rfl) (RegLin.useL_ok (by kernel_rfl))
    have h18:(V 73)=.bool true:=hd 18 (by decide) (by kernel_rfl) (RegLin.useL_ok (by kernel_rfl))
    clear hd
    go_wp2_with fail
    exact hK _ _ rfl (RegLin.keeps_below hcm hpr hc (Below.refl _ _)) rfl
   ·
    intro V W hc hp hd K hK _
    have h19:(V 74)=.bool true:=hd 19 (by decide) (by kernel_rfl) (RegLin.useL_ok (by kernel_rfl))
    clear hd
    go_wp2_with fail
    exact hK _ _ rfl (RegLin.keeps_below hcm hpr hc (Below.refl _ _)) rfl
   ·
    intro V W hc hp hd K hK _
    have h20:(V 75)=.bool true:=hd 20 (by decide) (by kernel_rfl) (RegLin.useL_ok (by kernel_rfl))
    clear hd
    have HCC:=hid hc
    clear hc hp
    go_wp2_with fail
    refine (HAL.out W (below_then HB4.out (Nat.le_refl _) HCC.out.1)).mono ?_
    rintro e w1 ⟨rfl,g2⟩
    go_wp2_with fail
    exact hK _ _ rfl (RegLin.keeps_below hcm hpr HCC.out g2) rfl
   ·
    intro V W hc hp hd K hK _
    have h20:(V 75)=.bool true:=hd 20 (by decide) (by kernel_rfl) (RegLin.useL_ok (by kernel_rfl))
    have h21:(V 76)=.bool true:=hd 21 (by decide) (by kernel_rfl) (RegLin.useL_ok (by kernel_rfl))
    clear hd
    go_wp2_with fail
    exact hK _ _ rfl (RegLin.keeps_below hcm hpr hc (Below.refl _ _)) rfl
   ·
    intro V W hc hd
    have h22:(V 77)=.bool true:=hd 22 (by decide) rfl
    clear hd
    simp only [List.drop_succ_cons,List.drop_zero]
    have HBF:=hid (below_then HB4.out (Nat.le_refl _) hc.1)
    clear hc
    go_wp2_with fail
    go_ret
    exact⟨rfl,HBF.out⟩
end Go.Proofs.YtpeoonnglnchnaaGreatDoor.Tab
