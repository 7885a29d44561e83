/- PkTabSvPut. -/
import Derived.Test.YtpeoonnglnchnaaGreatDoorPkTabSieve
import Derived.Test.YtpeoonnglnchnaaGreatDoorRdWith
set_option linter.unusedSectionVars false
set_option linter.unusedSimpArgs false
set_option linter.unusedVariables false
set_option maxHeartbeats 16000000
set_option maxRecDepth 100000
namespace Go.Proofs.YtpeoonnglnchnaaGreatDoor.Tab
open Go.Lib (hid)
open RowKit Mrk YtpeoonnglnchnaaGreatDoor.Spare Mut YtpeoonnglnchnaaGreatDoor.Rd
variable [Inhabited Lim]
def sieveL (F:Nat->Bool) (L:Nat):List Nat:=(List.range L).map (byteF F)
theorem sieveL_len (F:Nat->Bool) (L:Nat):(sieveL F L).length=L:=by unfold sieveL;simp
theorem sieveL_lt (F:Nat->Bool) (L:Nat):∀ c∈sieveL F L,c<256:=by
 intro c hc
 unfold sieveL at hc
 obtain⟨j,_,rfl⟩:=List.mem_map.1 hc
 exact byteF_lt F j
theorem sieveL_at (F:Nat->Bool) (L j c:Nat) (h:(sieveL F L)[j]?=some c):j<L/\c=byteF F j:=by
 unfold sieveL at h
 rw [List.getElem?_map] at h
 obtain⟨k,hk,rfl⟩:=Option.map_eq_some_iff.1 h
 obtain⟨h1,h2⟩:=gs0.1 hk
 simp at h1 h2
 subst h2
 exact⟨h1,rfl⟩
theorem svput_any (g L bc base:Nat) (F:Nat->Bool) (v:Value) (bs:List Nat) (w:World) (hr:SvRow w g L F) (hL1:L<=65536) (hv:OwnB w base v bs) (hbase:base<=w.heap.size) (hbs:bs.length<=900000) :
  Calls Tryz.prog 46 #[v,.agg #[.slice (some ⟨g,0,none⟩) L bc]] w (OnPost base v (bs++textF (strOf (sieveL F L))) w):=by
 obtain⟨W0,hW0⟩:∃ W,W=w.alloc (.cells #[.slice (some ⟨g,0,none⟩) L bc] 67):=⟨_,rfl⟩
 have hb0:Below w.heap.size w W0:=by rw [hW0];exact br.alloc lr _
 have hcv:=conv_bytes W0 ⟨g,0,none⟩ (sieveL F L) L bc (sieveL_len F L).symm (fun j c h=>by
  obtain⟨h1,rfl⟩:=sieveL_at F L j c h
  rw [addr_add,Nat.zero_add]
  exact (hr.below hb0).cell j h1)
 have htx:=text_onto (strOf (sieveL F L)) base v bs W0 (by rw [strOf_size,sieveL_len];omega) (hv.below hb0) (Nat.le_trans hbase hb0.size) (by omega)
 have HTX:=hid htx
 have HW0:=hid hW0
 have HB0:=hid hb0
 have HGR:=hid (show ∀ row,w.grownBy W0 row from fun row=>by rw [hW0];exact World.grownBy_alloc w _ row)
 obtain⟨T,hT⟩:∃ T,T=strOf (sieveL F L):=⟨_,rfl⟩
 rw [<-hT] at hcv HTX ⊢
 have c0:W0.cell? ⟨w.heap.size,0,none⟩=some (.slice (some ⟨g,0,none⟩) L bc):=by rw [hW0];go_simp
 clear htx hW0 hb0 hv hT hr
 go_enter Tryz.func46,Tryz.ntmps46
 go_upto_region 1 with fail
 rw [<-HW0.out]
 clear HW0
 go_wp2_with fail
 refine HTX.out.mono ?_
 rintro e w1 ⟨v1,rfl,g1,g2,g3⟩
 have HF:=hid (And.intro g1 (And.intro g2 g3))
 clear g1 g2 g3
 go_wp2_with fail
 go_ret
 refine⟨v1,rfl,HF.out.1,(HGR.out _).andThen HF.out.2.1 (fun j hj=>Or.inr hj),fun q hq=>?_⟩
 rcases HF.out.2.2 q hq with h | h
 . exact Or.inl h
 . exact Or.inr (Nat.le_trans HB0.out.size h)
end Go.Proofs.YtpeoonnglnchnaaGreatDoor.Tab
namespace Go.Proofs.YtpeoonnglnchnaaGreatDoor.Rd
open Go.Lib (hid)
open RowKit Mrk RegInv Mut
variable [Inhabited Lim]
theorem getM_any (r:Nat) (v:Value) (B:List Nat) (s:S) (w wb:World) (h:Rdr w r v B s) (hB:∀ c∈B,c<256) (hT:Tabs wb) (hbw:Below wb.heap.size wb w) (hrb:wb.heap.size<=r) :
  Calls Tryz.prog 107 #[pR r] w (WithP r v B (getM B s) w):=by
 have HTX:=hid (fun (most:Int) (s:S) (w1:World) (h:Rdr w1 r v B s)=>text_any r v B most s w1 h hB)
 have HWI:=hid (fun (key:ByteArray) (s:S) (w1:World) (h:Rdr w1 r v B s) (hb:Below wb.heap.size wb w1) (hk:key.size<=1000000)=>with_any r v B key s w1 wb h hB hT hb hrb hk)
 have HVL:=hid (show B≠[]->∀ ad n c,v=.slice (some ad) n c->ad.block<w.heap.size from fun hb ad n c e=>h.vlow hb ad n c e)
 have hrw:r<w.heap.size:=h.lt
 obtain⟨t,ht⟩:∃ x,x=textS B 24 s:=⟨_,rfl⟩
 have hts:=textS_size B 24 (by decide) s
 rw [<-ht] at hts
 have HQ:=hid (show getM B s=withS B t.1 t.2 from by unfold getM;rw [ht])
 rw [HQ.out]
 have HN1:=hid (show ∀ w1,Rdr w1 r v B s->Calls Tryz.prog 34 #[pR r,.int .i64 24] w1 (RdP r v B t.2 (.string t.1) w1) from fun w1 h=>by rw [ht];exact HTX.out 24 s w1 h)
 obtain⟨key,s1⟩:=t
 simp only [] at HN1 hts
 have HTS:=hid hts
 obtain⟨ws,hws⟩:∃ x,x=withS B key s1:=⟨_,rfl⟩
 show Calls _ _ _ w (WithP r v B (withS B key s1) w)
 rw [<-hws]
 have HN2:=hid (show ∀ w1,Rdr w1 r v B s1->Below wb.heap.size wb w1->Calls Tryz.prog 142 #[pR r,.string key] w1 (WithP r v B ws w1) from fun w1 h hb=>by rw [hws];exact HWI.out key s1 w1 h hb (by omega))
 obtain⟨⟨tb,kd,ky,fi,va,ex,⟨sp,sl,sw⟩,O⟩,q⟩:=ws
 obtain⟨W0,hW0⟩:∃ W,W=w.alloc (.cells #[.int .i64 0,.int .i64 0,.string ⟨#[]⟩,.string ⟨#[]⟩,.string ⟨#[]⟩,.int .i64 0,.int .i64 0,.int .i64 0,.int .i64 0,.slice none 0 0] 42):=⟨_,rfl⟩
 obtain⟨k2,hk2⟩:∃ k,k=w.heap.size:=⟨_,rfl⟩
 have hb0:Below w.heap.size w W0:=by rw [hW0];exact br.alloc lr _
 have HZ0:=hid (show W0.heap[k2]?=some (.cells #[.int .i64 0,.int .i64 0,.string ⟨#[]⟩,.string ⟨#[]⟩,.string ⟨#[]⟩,.int .i64 0,.int .i64 0,.int .i64 0,.int .i64 0,.slice none 0 0] 42 (0,0)) from by rw [hW0,hk2];exact heap_alloc_new w _)
 have HR0:=hid (h.below hb0)
 have HG0:=hid (show w.grownBy W0 (some r) from below_grown hb0)
 have HBB:=hid (show ∀ W,w.grownBy W (some r)->Below wb.heap.size wb W from fun W hg=>hbw.grown hg hbw.size (fun j hj=>by cases hj;exact hrb))
 have HW0:=hid hW0
 have HK2:=hid hk2
 clear hW0 hk2 hb0 h hT hbw ht hts hws
 go_enter Tryz.func107,Tryz.ntmps107
 go_upto_region 1 with fail
 rw [<-HW0.out,<-HK2.out]
 go_wp2_with fail
 refine (HN1.out W0 HR0.out).mono ?_
 rintro e w1 ⟨rfl,hr1,hg1⟩
 have HR1:=hid hr1
 have HG1:=hid (HG0.out.andThen hg1 (fun j hj=>Or.inr hj))
 have HZ1:=hid ((hg1.block k2 (ag0.1 HZ0.out).1 (by rw [HK2.out];simp;omega)).trans HZ0.out)
 clear hr1 hg1
 go_wp2_with fail
 refine (HN2.out w1 HR1.out (HBB.out w1 HG1.out)).mono ?_
 rintro e w2 ⟨ov,rfl,ho2,hr2,hg2⟩
 obtain⟨vo,vc,rfl⟩:=row_form ho2
 simp only [] at ho2 hr2 ⊢
 unfold OwnS at ho2
 obtain⟨n,hn⟩:∃ n,n=O.length:=⟨_,rfl⟩
 rw [<-hn] at ho2 ⊢
 have HN:=hid hn
 have z0:=(hg2.block k2 (ag0.1 HZ1.out).1 (by rw [HK2.out];simp;omega)).trans HZ1.out
 have hne:(Value.slice vo n vc).ownBlock≠some k2:=fun e=>by
  have h1:=(World.ownsRow.lt ho2 _ e).1
  have h2:=HG1.out.size
  have h3:=(ag0.1 HZ1.out).1
  omega
 have HF:=hid (fin_put (w:=w) (m:=⟨tb,kd,ky,fi,va,ex,⟨sp,sl,sw⟩,O⟩) (ov:=.slice vo n vc) (HG1.out.andThen hg2 (fun j hj=>Or.inr hj)) (by rw [HK2.out];exact Nat.le_refl _) hrw z0 hr2 HVL.out (by show w2.ownsRow w.heap.size 39 3 (.slice vo n vc) O.length (O.flatMap enS);rw [<-HN.out];exact own_base ho2 HG1.out.size) (Or.inr hne) (.int .i64 tb) (.int .i64 kd) (.string ky) (.string fi) (.string va) (.int .i64 ex) (.int .i64 sp) (.int .i64 sl) (.int .i64 sw) (.slice vo n vc) rfl _ rfl)
 have y0:w2.cell? ⟨k2,0,none⟩=some (.int .i64 0):=by rw [cell_of_row w2 k2 0 _ _ (0,0) z0];rfl
 have g0:w2.frozen? ⟨k2,0,none⟩=false:=frozen_of_row w2 k2 0 _ _ z0
 have y1:w2.cell? ⟨k2,1,none⟩=some (.int .i64 0):=by rw [cell_of_row w2 k2 1 _ _ (0,0) z0];rfl
 have g1:w2.frozen? ⟨k2,1,none⟩=false:=frozen_of_row w2 k2 1 _ _ z0
 have y2:w2.cell? ⟨k2,2,none⟩=some (.string ⟨#[]⟩):=by rw [cell_of_row w2 k2 2 _ _ (0,0) z0];rfl
 have g2:w2.frozen? ⟨k2,2,none⟩=false:=frozen_of_row w2 k2 2 _ _ z0
 have y3:w2.cell? ⟨k2,3,none⟩=some (.string ⟨#[]⟩):=by rw [cell_of_row w2 k2 3 _ _ (0,0) z0];rfl
 have g3:w2.frozen? ⟨k2,3,none⟩=false:=frozen_of_row w2 k2 3 _ _ z0
 have y4:w2.cell? ⟨k2,4,none⟩=some (.string ⟨#[]⟩):=by rw [cell_of_row w2 k2 4 _ _ (0,0) z0];rfl
 have g4:w2.frozen? ⟨k2,4,none⟩=false:=frozen_of_row w2 k2 4 _ _ z0
 have y5:w2.cell? ⟨k2,5,none⟩=some (.int .i64 0):=by rw [cell_of_row w2 k2 5 _ _ (0,0) z0];rfl
 have g5:w2.frozen? ⟨k2,5,none⟩=false:=frozen_of_row w2 k2 5 _ _ z0
 have y6:w2.cell? ⟨k2,6,none⟩=some (.int .i64 0):=by rw [cell_of_row w2 k2 6 _ _ (0,0) z0];rfl
 have g6:w2.frozen? ⟨k2,6,none⟩=false:=frozen_of_row w2 k2 6 _ _ z0
 have y7:w2.cell? ⟨k2,7,none⟩=some (.int .i64 0):=by rw [cell_of_row w2 k2 7 _ _ (0,0) z0];rfl
 have g7:w2.frozen? ⟨k2,7,none⟩=false:=frozen_of_row w2 k2 7 _ _ z0
 have y8:w2.cell? ⟨k2,8,none⟩=some (.int .i64 0):=by rw [cell_of_row w2 k2 8 _ _ (0,0) z0];rfl
 have g8:w2.frozen? ⟨k2,8,none⟩=false:=frozen_of_row w2 k2 8 _ _ z0
 have y9:w2.cell? ⟨k2,9,none⟩=some (.slice none 0 0):=by rw [cell_of_row w2 k2 9 _ _ (0,0) z0];rfl
 have g9:w2.frozen? ⟨k2,9,none⟩=false:=frozen_of_row w2 k2 9 _ _ z0
 clear z0 hn hne ho2 hr2 hg2
 unfold vM
 simp only []
 go_wp2_with fail
 exact bodyPost_ret (v:=.agg #[.int .i64 tb,.int .i64 kd,.string ky,.string fi,.string va,.int .i64 ex,.int .i64 sp,.int .i64 sl,.int .i64 sw,.slice vo n vc]) (results_cell_row rfl _ _ k2 42 _ (0,0) _ rfl HF.out.2 Tryz.underlying42 rfl size_M) rfl HF.out.1
theorem Copied.read {w w':World} {v:Value} {R:List Ro} {base r:Nat} (h:Copied w v R base) (hg:w.grownBy w' (some r)) (hr:r<base):Copied w' v R base:=by
 have key:∀ {e:TypeId} {sz n:Nat} {u:Value} {xs:List Value},w.ownsRow base e sz u n xs->w'.ownsRow base e sz u n xs:=fun {e sz n u xs} hu=>World.ownsRow.kept hu hg (Or.inr fun e0=>by have:=(World.ownsRow.lt hu _ e0).1;omega)
 exact⟨key h.row,fun x hx=>key (h.over x hx)⟩
def ListP (r:Nat) (v:Value) (B:List Nat) (q:List Mu × S) (w:World) (e:Ending) (w':World):Prop:=
 ∃ v' R,e=.returned v'/\R.map (·.1)=q.1/\Copied w' v' R w.heap.size/\Rdr w' r v B q.2/\w.grownBy w' (some r)
theorem list_any (r:Nat) (v:Value) (B:List Nat) (most:Int) (s:S) (w wb:World) (h:Rdr w r v B s) (hB:∀ c∈B,c<256) (hT:Tabs wb) (hbw:Below wb.heap.size wb w) (hrb:wb.heap.size<=r) (hm:most<=100000) :
  Calls Tryz.prog 73 #[pR r,.int .i64 most] w (ListP r v B (listS B most s) w):=by
 have HBB:=hid (show ∀ W,w.grownBy W (some r)->Below wb.heap.size wb W from fun W hg=>hbw.grown hg hbw.size (fun j hj=>by cases hj;exact hrb))
 have HGM:=hid (fun (s:S) (w1:World) (h:Rdr w1 r v B s) (hg:w.grownBy w1 (some r))=>getM_any r v B s w1 wb h hB hT (HBB.out w1 hg) hrb)
 have HWY:=hid (fun (s:S) (w1:World) (h:Rdr w1 r v B s)=>why_any r v B s w1 h)
 have hrw:r<w.heap.size:=h.lt
 obtain⟨i0,hi0,hz0,hz1,hz2⟩:=info_parts info_M
 have HI:=hid (And.intro hi0 (And.intro hz0 (And.intro hz1 hz2)))
 clear hi0 hz0 hz1 hz2
 obtain⟨g,hg⟩:∃ x,x=countS B most s:=⟨_,rfl⟩
 have hok:=(countS_ok B most s h.at_).2.2
 have HN1:=hid (show ∀ w1,Rdr w1 r v B s->Calls Tryz.prog 33 #[pR r,.int .i64 most] w1 (RdP r v B g.2 (.int .i64 (g.1:Nat)) w1) from fun w1 h=>by rw [hg];exact count_any r v B most s w1 h hB)
 rw [<-hg] at hok
 obtain⟨LS,hLS⟩:∃ x,x=listS B most s:=⟨_,rfl⟩
 rw [<-hLS]
 have HLS:=hid (show LS=if (listG B g.1 g.2).2.2=0 then ((listG B g.1 g.2).1.getD [],(listG B g.1 g.2).2) else ([],(listG B g.1 g.2).2) from by rw [hLS,hg];rfl)
 have HR:=hid h
 obtain⟨n,tg⟩:=g
 simp only [] at HN1 hok HLS
 have hn5:n<=100000:=by omega
 clear h hT hbw hrb hg hok hLS hm
 go_enter Tryz.func73,Tryz.ntmps73
 go_wp2_with fail
 refine (HN1.out w HR.out).mono ?_
 rintro e w1 ⟨rfl,hr1,hg1⟩
 have HR1:=hid hr1
 have HG1:=hid hg1
 clear hr1 hg1
 go_wp2_with fail
 go_loopw [5,9] (fun ov iv wr=>∃ (k:Nat) (R:List Ro) (q:S) (oo:Option Addr) (oc:Nat),k<=n/\iv=.int .i64 k/\ov=.slice oo k oc/\Hid (R.length=k)/\Hid (listG B n tg=((listG B (n - k) q).1.map (R.map (·.1)++·),(listG B (n - k) q).2))/\Hid (Rdr wr r v B q)/\Hid (Copied wr (.slice oo k oc) R w.heap.size)/\Hid (w.grownBy wr (some r))) (fun _ iv _=>n - (intOf iv).toNat)
 case atStart=>exact⟨0,[],tg,none,0,by omega,rfl,rfl,hid rfl,hid (by simp),HR1,hid ⟨World.ownsRow_nil _ _ _ _,fun x hx=>by cases hx⟩,HG1⟩
 case round=>
  obtain⟨k,R,⟨qa,qy⟩,oo,oc,hk,rfl,rfl,hrl,hls,hrd,hcp,hgr⟩:=hrel
  by_cases hlt:k<n
  ·
   cases hy:((qy:Int) != 0)
   ·
    have hy':qy=0:=by simpa using hy
    subst hy'
    obtain⟨gm,hgm⟩:∃ x,x=getM B (qa,0):=⟨_,rfl⟩
    have HG2:=hid (show ∀ w1,Rdr w1 r v B (qa,0)->w.grownBy w1 (some r)->Calls Tryz.prog 107 #[pR r] w1 (WithP r v B gm w1) from fun w1 h hg=>by rw [hgm];exact HGM.out _ w1 h hg)
    have HNX:=hid (show listG B n tg=((listG B (n - (k+1)) gm.2).1.map ((R.map (·.1)++[gm.1])++·),(listG B (n - (k+1)) gm.2).2) from by
     rw [hls.out,show n - k=(n - (k+1))+1 by omega,listG,if_pos rfl,<-hgm]
     simp only [Option.map_map,Prod.mk.injEq,and_true]
     congr 1
     funext x
     simp)
    clear hgm hls hy
    obtain⟨⟨tb,kd,ky,fi,va,ex,⟨sp,sl,sw⟩,O⟩,q'⟩:=gm
    simp only [] at HNX
    go_wp2_with fail
    refine (HWY.out _ wr hrd.out).mono ?_
    rintro e w2 ⟨rfl,h1⟩
    subst h1
    go_wp2_with fail
    refine (HG2.out wr hrd.out hgr.out).mono ?_
    rintro e w2 ⟨xv,rfl,ho2,hr2,hg2⟩
    obtain⟨xo,xc,rfl⟩:=row_form ho2
    simp only [] at ho2 hr2 ⊢
    have hgs:=hgr.out.size
    obtain⟨y,hy⟩:∃ y:Ro,y=(⟨tb,kd,ky,fi,va,ex,⟨sp,sl,sw⟩,O⟩,.slice xo O.length xc):=⟨_,rfl⟩
    have HY1:=hid (show y.1=⟨tb,kd,ky,fi,va,ex,⟨sp,sl,sw⟩,O⟩ from by rw [hy])
    have HOY:=hid (show w2.ownsRow w.heap.size 39 3 y.2 y.1.over.length (y.1.over.flatMap enS) from by rw [hy];exact own_base ho2 hgs)
    obtain⟨m,hm⟩:∃ m,m=O.length:=⟨_,rfl⟩
    rw [<-hm] at hy ⊢
    have hey:enM y=[.int .i64 tb,.int .i64 kd,.string ky,.string fi,.string va,.int .i64 ex,.int .i64 sp,.int .i64 sl,.int .i64 sw,.slice xo m xc]:=by rw [hy];rfl
    have HR2:=hid hr2
    have HGR:=hid (hgr.out.andThen hg2 (fun j hj=>Or.inr hj))
    have HC2:=hid (Copied.read hcp.out hg2 hrw)
    have HCR:=hid (show w2.ownsRow w.heap.size 42 10 (.slice oo k oc) k (R.flatMap enM) from by have h:=HC2.out.row;rw [hrl.out] at h;exact h)
    have hsz1:=HGR.out.size
    have HNEW:Hid (∀ j u,(enM y)[j]?=some u->(w2.alloc (.cells #[.int .i64 tb,.int .i64 kd,.string ky,.string fi,.string va,.int .i64 ex,.int .i64 sp,.int .i64 sl,.int .i64 sw,.slice xo m xc] 42)).cell? ((⟨w2.heap.size,0,none⟩:Addr).add j)=some u):=hid (by rw [hey];exact new_cells _ _ _)
    have HONE:Hid (∀ u∈enM y,u.oneCell'=true):=hid (by rw [hey];intro u hu;simp at hu;rcases hu with rfl | rfl | rfl | rfl | rfl | rfl | rfl | rfl | rfl | rfl <;> rfl)
    clear ho2 hr2 hg2 hy hey hm
    unfold vM
    simp only []
    go_wp2_with (at_builtin;refine wpList_append_own _ rfl _ _ 22 rfl w.heap.size 42 i0 zeroM 10 120 Tryz.underlying22 HI.out.1 HI.out.2.1 HI.out.2.2.1 HI.out.2.2.2 rfl (by decide) (.slice oo k oc) _ _ rfl (HCR.out.alloc _) ⟨_,0,none⟩ 1 1 (enM y) rfl rfl ?c1 ?c2 ?c3 ?c4 ?c5 ?_;(case c1=>exact HNEW.out);(case c2=>exact HONE.out))
    case c3=>unfold maxLen;omega
    case c4=>omega
    case c5=>simp;omega
    intro v' w3 hown3 hgrow3 _
    obtain⟨Wa,hWa⟩:∃ W,W=w2.alloc (.cells #[.int .i64 tb,.int .i64 kd,.string ky,.string fi,.string va,.int .i64 ex,.int .i64 sp,.int .i64 sl,.int .i64 sw,.slice xo m xc] 42):=⟨_,rfl⟩
    have hba:Below w2.heap.size w2 Wa:=by rw [hWa];exact br.alloc lr _
    rw [<-hWa] at hgrow3
    have hrow:=row_below HCR.out hba
    have hov3:∀ z∈R++[y],w3.ownsRow w.heap.size 39 3 z.2 z.1.over.length (z.1.over.flatMap enS):=by
     intro z hz
     have hz1:w2.ownsRow w.heap.size 39 3 z.2 z.1.over.length (z.1.over.flatMap enS):=by
      rcases List.mem_append.1 hz with h | h
      . exact HC2.out.over z h
      . rw [List.mem_singleton.1 h];exact HOY.out
     exact (row_below hz1 hba).kept hgrow3 (rows_apart (row_below hz1 hba) hrow (by decide))
    have hlen:(R++[y]).length=k+1:=by rw [la0,hrl.out];rfl
    have HR3:=hid (show Rdr w3 r v B q' from (HR2.out.below hba).aside hgrow3 (fun j hj=>by have:=(World.ownsRow.lt hrow j hj).1;omega) (fun j hj hb ad n c e=>by have h1:=HR.out.vlow hb ad n c e;have h2:=(World.ownsRow.lt hrow j hj).1;omega))
    have HG3:=hid (show w.grownBy w3 (some r) from (HGR.out.andThen (below_grown (row:=some r) hba) (fun j hj=>Or.inr hj)).andThen hgrow3 (fun j hj=>Or.inl (World.ownsRow.lt hrow j hj).1))
    obtain⟨gg,gc,rfl⟩:=ownsRow_succ hown3
    have HC3:=hid (show Copied w3 (.slice (some ⟨gg,0,none⟩) (k+1) gc) (R++[y]) w.heap.size from ⟨by rw [hlen,fa0,List.flatMap_singleton];exact hown3,hov3⟩)
    have HLN:=hid hlen
    have HN3:=hid (show listG B n tg=((listG B (n - (k+1)) q').1.map ((R++[y]).map (·.1)++·),(listG B (n - (k+1)) q').2) from by rw [HNX.out,List.map_append,List.map_singleton,HY1.out])
    clear hown3 hgrow3 hov3 hlen hrow hba hWa
    go_wp2_with fail
    go_roundw
    case rel=>exact⟨k+1,_,q',_,_,by omega,by go_num,rfl,HLN,HN3,HR3,HC3,HG3⟩
    case measure=>simp [intOf];omega
   ·
    have hy':¬ qy=0:=by simpa using hy
    have HE:=hid (show LS=([],((qa,qy):S)) from by
     have h:=HLS.out
     rw [hls.out,show n - k=(n - (k+1))+1 by omega,listG,if_neg hy'] at h
     simpa [hy'] using h)
    clear hls hy'
    go_wp2_with fail
    refine (HWY.out _ wr hrd.out).mono ?_
    rintro e w2 ⟨rfl,h1⟩
    subst h1
    go_wp2_with fail
    go_ret
    rw [HE.out]
    exact⟨_,[],rfl,rfl,⟨World.ownsRow_nil _ _ _ _,fun x hx=>by cases hx⟩,hrd.out,hgr.out⟩
  ·
   obtain rfl:k=n:=by omega
   have hls0:=hls.out
   rw [Nat.sub_self,listG] at hls0
   simp only [Option.map_some,List.append_nil] at hls0
   cases hy:((qy:Int) != 0)
   ·
    have hy':qy=0:=by simpa using hy
    subst hy'
    have HE:=hid (show LS=(R.map (·.1),((qa,(0:Int)):S)) from by
     have h:=HLS.out
     rw [hls0] at h
     simpa using h)
    clear hls hls0
    go_wp2_with fail
    refine (HWY.out _ wr hrd.out).mono ?_
    rintro e w2 ⟨rfl,h1⟩
    subst h1
    go_wp2_with fail
    go_ret
    rw [HE.out]
    exact⟨_,R,rfl,rfl,hcp.out,hrd.out,hgr.out⟩
   ·
    have hy':¬ qy=0:=by simpa using hy
    have HE:=hid (show LS=([],((qa,qy):S)) from by
     have h:=HLS.out
     rw [hls0] at h
     simpa [hy'] using h)
    clear hls hls0 hy'
    go_wp2_with fail
    refine (HWY.out _ wr hrd.out).mono ?_
    rintro e w2 ⟨rfl,h1⟩
    subst h1
    go_wp2_with fail
    go_ret
    rw [HE.out]
    exact⟨_,[],rfl,rfl,⟨World.ownsRow_nil _ _ _ _,fun x hx=>by cases hx⟩,hrd.out,hgr.out⟩
end Go.Proofs.YtpeoonnglnchnaaGreatDoor.Rd
namespace Go.Proofs.YtpeoonnglnchnaaGreatDoor.Rd
open Go Mrk
def contL (v:Nat):Bool->List Nat->Option Nat
 | _,[]=>some v
 | q,c::l=>if (q=true/\c=128)\/36028797018963968<=v\/c<128 then none else contL (v*128+c % 128) false l
theorem contL_snoc:∀ (l:List Nat) (v:Nat) (q:Bool) (u c:Nat),contL v q l=some u->¬ ((q=true/\l=[])/\c=128)->u<36028797018963968->128<=c->contL v q (l++[c])=some (u*128+c % 128)
 | [],v,q,u,c,h,h1,h2,h3=>by
  simp only [contL,Option.some.injEq] at h
  subst h
  have h4:¬ ((q=true/\c=128)\/36028797018963968<=v\/c<128):=by
   rintro (⟨a,b⟩ | b | b)
   . exact h1 ⟨⟨a,rfl⟩,b⟩
   . omega
   . omega
  simp only [List.nil_append,contL]
  rw [if_neg h4]
 | x::l,v,q,u,c,h,h1,h2,h3=>by
  simp only [List.cons_append,contL] at h ⊢
  split at h
  . cases h
  ·
   rename_i hx
   rw [if_neg hx]
   exact contL_snoc l _ false u c h (by simp) h2 h3
theorem numL_cont (B:List Nat) (a:Nat) (rest:List Nat):∀ (l:List Nat) (pre:List Nat) (f v u:Nat),B=pre++(l++rest)->contL v (decide (pre.length=a)) l=some u->a<=pre.length->numL B a (f+l.length) pre.length v=numL B a f (pre.length+l.length) u
 | [],pre,f,v,u,_,h,_=>by
  simp only [contL,Option.some.injEq] at h
  subst h
  simp
 | c::l,pre,f,v,u,hB,h,ha=>by
  simp only [contL] at h
  split at h
  . cases h
  ·
   rename_i hx
   have hc:B[pre.length]?=some c:=by rw [hB];simp
   rw [List.length_cons,show f+(l.length+1)=(f+l.length)+1 by omega,numL_step B a _ _ v c hc,if_neg (by
    rintro (⟨h1,h2⟩ | h1)
    . exact hx (Or.inl ⟨by simpa using h1,h2⟩)
    . exact hx (Or.inr (Or.inl h1))),if_neg (fun h1=>hx (Or.inr (Or.inr h1)))]
   have h5:=numL_cont B a rest l (pre++[c]) f (v*128+c % 128) u (by rw [hB];simp) (by
    rw [show decide ((pre++[c]).length=a)=false by simp;omega];exact h) (by simp;omega)
   rw [la0,List.length_singleton] at h5
   rw [h5]
   congr 1
   omega
theorem cont_low:∀ (k n:Nat),n<128 ^ k->n<4611686018427387904->contL 0 true (hi (low n).tail.reverse)=some (n / 128)
 | 0,n,h,_=>by
  have:n=0:=by simpa using h
  subst this
  rw [low_small (by omega)]
  rfl
 | k+1,n,h,hn=>by
  by_cases hs:n<128
  ·
   rw [low_small hs]
   have:n / 128=0:=by omega
   rw [this]
   rfl
  ·
   have ih:=cont_low k (n / 128) (by rw [Nat.div_lt_iff_lt_mul (by decide)];rw [Nat.pow_succ] at h;exact h) (by omega)
   rw [low_big (by omega),List.tail_cons]
   have e:low (n / 128)=n / 128 % 128::(low (n / 128)).tail:=by
    conv=>lhs;rw [low]
    congr 1
    conv=>rhs;rw [low]
    rfl
   rw [e,List.reverse_cons]
   unfold hi at ih ⊢
   rw [List.map_append]
   have h1:=contL_snoc _ 0 true (n / 128 / 128) (n / 128 % 128+128) ih (by
    rintro⟨⟨-,h2⟩,h3⟩
    have h4:(low (n / 128)).tail=[]:=List.reverse_eq_nil_iff.1 (List.map_eq_nil_iff.1 h2)
    by_cases hq:n / 128<128
    . omega
    ·
     rw [low_big (by omega),List.tail_cons] at h4
     exact low_ne _ h4) (by omega) (by omega)
   show contL 0 true (List.map (·+128) (low (n / 128)).tail.reverse++[n / 128 % 128+128])=_
   rw [h1]
   congr 1
   omega
theorem num_back (pre post:List Nat) (n:Nat) (hn:n<4611686018427387904):numS (pre++(putF n++post)) (pre.length,0)=(n,(pre.length+(putF n).length,0)):=by
 have hlow:n<128 ^ 9:=Nat.lt_of_lt_of_le hn (by decide)
 have hc:=cont_low 9 n hlow hn
 obtain⟨l,hl⟩:∃ l,l=hi (low n).tail.reverse:=⟨_,rfl⟩
 have hp:putF n=l++[n % 128]:=by rw [hl];rfl
 rw [<-hl] at hc
 obtain⟨B,hB⟩:∃ B,B=pre++(putF n++post):=⟨_,rfl⟩
 have hB2:B=pre++(l++([n % 128]++post)):=by rw [hB,hp,List.append_assoc]
 have hlen:B.length=pre.length+(l.length+1)+post.length:=by rw [hB2];simp;omega
 have h1:=numL_cont B pre.length ([n % 128]++post) l pre (B.length+1 - pre.length - l.length) 0 (n / 128) hB2 (by simpa using hc) lr
 rw [show B.length+1 - pre.length - l.length+l.length=B.length+1 - pre.length by omega] at h1
 have hz:B[pre.length+l.length]?=some (n % 128):=by
  rw [hB2,<-List.append_assoc,<-la0]
  simp
 have h2:numR B pre.length=.ok (n,pre.length+l.length+1):=by
  unfold numR
  rw [h1,show B.length+1 - pre.length - l.length=(B.length - pre.length - l.length)+1 by omega,numL_step B _ _ _ _ _ hz,if_neg (by omega),if_pos (by omega)]
  congr 2
  omega
 rw [<-hB]
 unfold numS
 rw [if_pos rfl]
 show (match numR B pre.length with | .ok (n,a)=>(n,(a,(0:Int))) | .error e=>(0,(pre.length,e)))=_
 rw [h2,hp]
 simp
 omega
