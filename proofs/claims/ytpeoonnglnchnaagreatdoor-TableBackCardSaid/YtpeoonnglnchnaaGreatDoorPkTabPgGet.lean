/- PkTabPgGet. -/
import Derived.Test.YtpeoonnglnchnaaGreatDoorPkTabReads
set_option linter.unusedSectionVars false
set_option linter.unusedSimpArgs false
set_option linter.unusedVariables false
set_option maxHeartbeats 16000000
set_option maxRecDepth 100000
namespace Go.Proofs.YtpeoonnglnchnaaGreatDoor.Tab
open Go.Lib (hid)
open RowKit YtpeoonnglnchnaaGreatDoor.Ord YtpeoonnglnchnaaGreatDoor.Spare Mut Mrk YtpeoonnglnchnaaGreatDoor.Rd
variable [Inhabited Lim]
theorem pageL_at {l:List Mu} {k:Nat} {m:Mu} (h:l[k]?=some m) (last:ByteArray):pageL last (l.drop k)=rowB last m++pageL m.key (l.drop (k+1)):=by
 obtain⟨hi,he⟩:=gs0.1 h
 rw [dg0 hi,he]
 rfl
theorem pageget_any (r:Nat) (v:Value) (pre post:List Nat) (l:List Mu) (w wb:World) (h:Rdr w r v (pre++(pageB l++post)) (pre.length,0)) (hB:∀ c∈pre++(pageB l++post),c<256) (hT:Tabs wb) (hbw:Below wb.heap.size wb w) (hrb:wb.heap.size<=r)
  (hrt:∀ m∈l,rightF m=true) (hs:l.Pairwise (fun a b=>sibC a b<0)) (h8:l.length<=8) :
  Calls Tryz.prog 96 #[pR r] w (ListP r v (pre++(pageB l++post)) (l,(pre.length+(pageB l).length,0)) w):=by
 obtain⟨B,hBe⟩:∃ B,B=pre++(pageB l++post):=⟨_,rfl⟩
 obtain⟨pz,hpz⟩:∃ p,p=pre.length+(pageB l).length:=⟨_,rfl⟩
 rw [<-hBe] at h hB ⊢
 rw [<-hpz]
 have HBB:=hid (show ∀ W,w.grownBy W (some r)->Below wb.heap.size wb W from fun W hg=>hbw.grown hg hbw.size (fun j hj=>by cases hj;exact hrb))
 have HWY:=hid (fun (s:S) (w1:World) (h:Rdr w1 r v B s)=>why_any r v B s w1 h)
 have hrw:r<w.heap.size:=h.lt
 obtain⟨i0,hi0,hz0,hz1,hz2⟩:=info_parts info_M
 have HI:=hid (And.intro hi0 (And.intro hz0 (And.intro hz1 hz2)))
 obtain⟨n,hn⟩:∃ n,n=l.length:=⟨_,rfl⟩
 have hn8:n<=8:=by rw [hn];exact h8
 have hb1:B=pre++(putF n++(pageL ByteArray.empty l++post)):=by rw [hBe,hn];unfold pageB;simp [List.append_assoc]
 have hcb:=count_back pre (pageL ByteArray.empty l++post) n 8 (by omega) (by omega)
 rw [<-hb1] at hcb
 have HN1:=hid (show ∀ w1,Rdr w1 r v B (pre.length,0)->Calls Tryz.prog 33 #[pR r,.int .i64 8] w1 (RdP r v B ((pre++putF n).length,0) (.int .i64 (n:Nat)) w1) from fun w1 h=>by have h1:=count_any r v B 8 (pre.length,0) w1 h hB;rw [hcb] at h1;rw [la0];exact h1)
 have HC0:=hid (show (pre++putF n)++(pageL ByteArray.empty (l.drop 0)++post)=B from by rw [hb1,List.drop_zero];simp [List.append_assoc])
 have HON:=hid (fun (cur P:List Nat) (last:ByteArray) (m:Mu) (w1:World) (hq:B=cur++(rowB last m++P)) (h:Rdr w1 r v B (cur.length,0)) (hg:w.grownBy w1 (some r)) (hm:rightF m=true) (wl:Well last) (hl:last.size<=24)=>show Calls Tryz.prog 136 #[pR r,.string last] w1 (WithP r v B (m,((cur++rowB last m).length,0)) w1) from by
  have h1:=one_any r v cur P last m w1 wb (by rw [<-hq];exact h) (by rw [<-hq];exact hB) hT (HBB.out w1 hg) hrb hm wl hl
  rw [<-hq] at h1
  rw [la0]
  exact h1)
 have HRT:=hid hrt
 have HS:=hid hs
 have HR:=hid h
 have HN:=hid hn
 have HPZ:=hid (show ∀ cur,cur++post=B->cur.length=pz from fun cur hc=>by
  have h1:=congrArg List.length hc
  rw [hBe] at h1
  rw [la0,la0,la0] at h1
  omega)
 clear hi0 hz0 hz1 hz2 h hB hT hbw hrb hrt hs h8 hcb hb1 hBe hpz hn
 go_enter Tryz.func96,Tryz.ntmps96
 go_wp2_with fail
 refine (HN1.out w HR.out).mono ?_
 rintro e w1 ⟨rfl,hr1,hg1⟩
 have HR1:=hid hr1
 have HG1:=hid hg1
 clear hr1 hg1
 go_wp2_with fail
 go_loopw [3,4,8] (fun ov sv iv wr=>∃ (k:Nat) (last:ByteArray) (cur:List Nat) (R:List Ro) (oo:Option Addr) (oc:Nat),k<=n/\iv=.int .i64 k/\sv=.string last/\ov=.slice oo k oc/\last.size<=24/\Hid (Well last)/\Hid (R.length=k)/\Hid (R.map (·.1)=l.take k)/\Hid (cur++(pageL last (l.drop k)++post)=B)/\Hid (Rdr wr r v B (cur.length,0))/\Hid (Copied wr (.slice oo k oc) R w.heap.size)/\Hid (w.grownBy wr (some r))) (fun _ _ iv _=>n - (intOf iv).toNat)
 case atStart=>exact⟨0,ByteArray.empty,pre++putF n,[],none,0,by omega,rfl,rfl,rfl,by simp,hid well_empty,hid rfl,hid rfl,HC0,HR1,hid ⟨World.ownsRow_nil _ _ _ _,fun x hx=>by cases hx⟩,HG1⟩
 case round=>
  obtain⟨k,last,cur,R,oo,oc,hk,rfl,rfl,rfl,hls,hwl,hrl,hrm,hcu,hrd,hcp,hgr⟩:=hrel
  by_cases hlt:k<n
  ·
   have hkl:k<l.length:=by have:=HN.out;omega
   obtain⟨m,hmk⟩:∃ m,l[k]?=some m:=⟨_,ge0 hkl⟩
   have hmr:=HRT.out m (mg0 hmk)
   have hq:B=cur++(rowB last m++(pageL m.key (l.drop (k+1))++post)):=by rw [<-hcu.out,pageL_at hmk last];simp [List.append_assoc]
   have HCU:=hid (show (cur++rowB last m)++(pageL m.key (l.drop (k+1))++post)=B from by rw [hq];simp [List.append_assoc])
   have HO1:=hid (HON.out cur _ last m wr hq hrd.out hgr.out hmr hwl.out hls)
   have HTK:=hid (show R.map (·.1)++[m]=l.take (k+1) from by rw [hrm.out,List.take_add_one,hmk];rfl)
   have HWK:=hid (keyF_well (right_key hmr))
   have hmks:=(right_sizes hmr).1
   have HSM:=hid (small_right hmr)
   have HPREV:=hid (show ∀ x∈R,sibC x.1 m<0/\Small x.1 from fun x hx=>by
    have h1:x.1∈l.take k:=by rw [<-hrm.out];exact List.mem_map.2 ⟨x,hx,rfl⟩
    obtain⟨j,hj1,hj2⟩:=List.mem_iff_getElem.1 h1
    rw [List.length_take] at hj1
    rw [List.getElem_take] at hj2
    obtain⟨hk1,hk2⟩:=gs0.1 hmk
    refine⟨?_,small_right (HRT.out _ (List.mem_of_mem_take h1))⟩
    rw [<-hj2,<-hk2]
    exact List.pairwise_iff_getElem.1 HS.out j k (by omega) hk1 (by omega))
   obtain⟨cu2,hcu2⟩:∃ c,c=cur++rowB last m:=⟨_,rfl⟩
   rw [<-hcu2] at HCU HO1
   obtain⟨tb,kd,ky,fi,va,ex,⟨sp,sl,sw⟩,O⟩:=m
   simp only [] at HCU hmks HWK
   clear hmk hmr hq hkl hcu hcu2 hwl hrm
   go_wp2_with fail
   refine HO1.out.mono ?_
   rintro e w2 ⟨xv,rfl,ho2,hr2,hg2⟩
   obtain⟨xo,xc,rfl⟩:=row_form ho2
   simp only [] at ho2 hr2 ⊢
   have hgs:=hgr.out.size
   obtain⟨n1,hn1⟩:∃ m,m=O.length:=⟨_,rfl⟩
   obtain⟨y,hy⟩:∃ y:Ro,y=(⟨tb,kd,ky,fi,va,ex,⟨sp,sl,sw⟩,O⟩,.slice xo n1 xc):=⟨_,rfl⟩
   have HY1:=hid (show y.1=⟨tb,kd,ky,fi,va,ex,⟨sp,sl,sw⟩,O⟩ from by rw [hy])
   have HOY:=hid (show w2.ownsRow w.heap.size 39 3 y.2 y.1.over.length (y.1.over.flatMap enS) from by rw [hy,hn1];exact own_base ho2 hgs)
   rw [<-hn1]
   have hey:enM y=[.int .i64 tb,.int .i64 kd,.string ky,.string fi,.string va,.int .i64 ex,.int .i64 sp,.int .i64 sl,.int .i64 sw,.slice xo n1 xc]:=by rw [hy];rfl
   have hvy:vM y=.agg #[.int .i64 tb,.int .i64 kd,.string ky,.string fi,.string va,.int .i64 ex,.int .i64 sp,.int .i64 sl,.int .i64 sw,.slice xo n1 xc]:=by rw [hy];rfl
   have HR2:=hid hr2
   have HGR:=hid (hgr.out.andThen hg2 (fun j hj=>Or.inr hj))
   have HC2:=hid (Copied.read hcp.out hg2 hrw)
   obtain⟨W3,hW3⟩:∃ W,W=w2.alloc (.cells #[.int .i64 tb,.int .i64 kd,.string ky,.string fi,.string va,.int .i64 ex,.int .i64 sp,.int .i64 sl,.int .i64 sw,.slice xo n1 xc] 42):=⟨_,rfl⟩
   obtain⟨k5,hk5⟩:∃ k,k=w2.heap.size:=⟨_,rfl⟩
   have hb3:Below w2.heap.size w2 W3:=by rw [hW3];exact br.alloc lr _
   have HX3:=hid (show W3.heap[k5]?=some (.cells #[.int .i64 tb,.int .i64 kd,.string ky,.string fi,.string va,.int .i64 ex,.int .i64 sp,.int .i64 sl,.int .i64 sw,.slice xo n1 xc] 42 (0,0)) from by rw [hW3,hk5];exact heap_alloc_new w2 _)
   have HR3:=hid (HR2.out.below hb3)
   have HO3:=hid (row_below HOY.out hb3)
   have HC3:=hid (HC2.out.below hb3)
   have HG3:=hid (show w.grownBy W3 (some r) from HGR.out.andThen (below_grown (row:=none) hb3) (fun j hj=>by cases hj))
   have HW3:=hid hW3
   have HK5:=hid hk5
   have HNE5:=hid (show some k5≠(Value.slice oo k oc).ownBlock from fun e=>by have:=(World.ownsRow.lt HC2.out.row _ e.symm).2;omega)
   have HEY:=hid hey
   have HVY:=hid hvy
   have hk5l:k5<W3.heap.size:=(ag0.1 HX3.out).1
   clear ho2 hr2 hg2 hy hey hvy hn1 hb3 hW3 hk5 HO1 hrd hcp HR2 HC2 HOY HGR hgr
   unfold vM
   simp only []
   go_upto_region 6 with fail
   rw [<-HW3.out,<-HK5.out]
   clear HW3 HK5
   have x0:W3.cell? ⟨k5,0,none⟩=some (.int .i64 tb):=by rw [cell_of_row W3 k5 0 _ _ (0,0) HX3.out];rfl
   have x1:W3.cell? ⟨k5,1,none⟩=some (.int .i64 kd):=by rw [cell_of_row W3 k5 1 _ _ (0,0) HX3.out];rfl
   have x2:W3.cell? ⟨k5,2,none⟩=some (.string ky):=by rw [cell_of_row W3 k5 2 _ _ (0,0) HX3.out];rfl
   have x3:W3.cell? ⟨k5,3,none⟩=some (.string fi):=by rw [cell_of_row W3 k5 3 _ _ (0,0) HX3.out];rfl
   have x4:W3.cell? ⟨k5,4,none⟩=some (.string va):=by rw [cell_of_row W3 k5 4 _ _ (0,0) HX3.out];rfl
   have x5:W3.cell? ⟨k5,5,none⟩=some (.int .i64 ex):=by rw [cell_of_row W3 k5 5 _ _ (0,0) HX3.out];rfl
   have x6:W3.cell? ⟨k5,6,none⟩=some (.int .i64 sp):=by rw [cell_of_row W3 k5 6 _ _ (0,0) HX3.out];rfl
   have x7:W3.cell? ⟨k5,7,none⟩=some (.int .i64 sl):=by rw [cell_of_row W3 k5 7 _ _ (0,0) HX3.out];rfl
   have x8:W3.cell? ⟨k5,8,none⟩=some (.int .i64 sw):=by rw [cell_of_row W3 k5 8 _ _ (0,0) HX3.out];rfl
   have x9:W3.cell? ⟨k5,9,none⟩=some (.slice xo n1 xc):=by rw [cell_of_row W3 k5 9 _ _ (0,0) HX3.out];rfl
   by_cases hk0:k=0
   ·
    have hk0i:¬ (0<(k:Int)):=by omega
    have hk0n:¬ (0<k):=by omega
    have HK0:=hid hk0
    clear hk0
    refine wp_region_calm (by kernel_rfl) (by kernel_rfl) ?_
    repeat (go_big_quiet_step ((go_at_call 35;exact calm_same (HWY.out _ _ (HR3.out.below (BW.below _))))))
    refine wpQuiet_nil ?_
    rintro _ ⟨z1,rfl⟩
    obtain⟨w6,hw6⟩:∃ W,W=z1.at:=⟨_,rfl⟩
    have hz1:=z1.below
    rw [<-hw6] at hz1 ⊢
    have HR6:=hid (HR3.out.below hz1)
    have HO6:=hid (row_below HO3.out hz1)
    have HC6:=hid (HC3.out.below hz1)
    have HG6:=hid (show w.grownBy w6 (some r) from HG3.out.andThen (below_grown (row:=none) hz1) (fun j hj=>by cases hj))
    have hx6:=(hz1.block k5 hk5l).trans HX3.out
    clear hz1 hw6 x0 x1 x2 x3 x4 x5 x6 x7 x8 x9
    go_wp2_with fail
    refine (HWY.out _ w6 HR6.out).mono ?_
    rintro e w7 ⟨rfl,h1⟩
    subst h1
    have x0:w6.cell? ⟨k5,0,none⟩=some (.int .i64 tb):=by rw [cell_of_row w6 k5 0 _ _ (0,0) hx6];rfl
    have x1:w6.cell? ⟨k5,1,none⟩=some (.int .i64 kd):=by rw [cell_of_row w6 k5 1 _ _ (0,0) hx6];rfl
    have x2:w6.cell? ⟨k5,2,none⟩=some (.string ky):=by rw [cell_of_row w6 k5 2 _ _ (0,0) hx6];rfl
    have x3:w6.cell? ⟨k5,3,none⟩=some (.string fi):=by rw [cell_of_row w6 k5 3 _ _ (0,0) hx6];rfl
    have x4:w6.cell? ⟨k5,4,none⟩=some (.string va):=by rw [cell_of_row w6 k5 4 _ _ (0,0) hx6];rfl
    have x5:w6.cell? ⟨k5,5,none⟩=some (.int .i64 ex):=by rw [cell_of_row w6 k5 5 _ _ (0,0) hx6];rfl
    have x6:w6.cell? ⟨k5,6,none⟩=some (.int .i64 sp):=by rw [cell_of_row w6 k5 6 _ _ (0,0) hx6];rfl
    have x7:w6.cell? ⟨k5,7,none⟩=some (.int .i64 sl):=by rw [cell_of_row w6 k5 7 _ _ (0,0) hx6];rfl
    have x8:w6.cell? ⟨k5,8,none⟩=some (.int .i64 sw):=by rw [cell_of_row w6 k5 8 _ _ (0,0) hx6];rfl
    have x9:w6.cell? ⟨k5,9,none⟩=some (.slice xo n1 xc):=by rw [cell_of_row w6 k5 9 _ _ (0,0) hx6];rfl
    have HCR:=hid (show w6.ownsRow w.heap.size 42 10 (.slice oo k oc) k (R.flatMap enM) from by have h:=HC6.out.row;rw [hrl.out] at h;exact h)
    have HNEW:Hid (∀ j u,(enM y)[j]?=some u->(w6.alloc (.cells #[.int .i64 tb,.int .i64 kd,.string ky,.string fi,.string va,.int .i64 ex,.int .i64 sp,.int .i64 sl,.int .i64 sw,.slice xo n1 xc] 42)).cell? ((⟨w6.heap.size,0,none⟩:Addr).add j)=some u):=hid (by rw [HEY.out];exact new_cells _ _ _)
    have HONE:Hid (∀ u∈enM y,u.oneCell'=true):=hid (by rw [HEY.out];intro u hu;simp at hu;rcases hu with rfl | rfl | rfl | rfl | rfl | rfl | rfl | rfl | rfl | rfl <;> rfl)
    have hgs6:=HG6.out.size
    have HX6:=hid hx6
    clear hx6
    go_wp2_with (at_builtin;refine wpList_append_own _ rfl _ _ 22 rfl w.heap.size 42 i0 zeroM 10 120 Tryz.underlying22 HI.out.1 HI.out.2.1 HI.out.2.2.1 HI.out.2.2.2 rfl (by decide) (.slice oo k oc) _ _ rfl (HCR.out.alloc _) ⟨_,0,none⟩ 1 1 (enM y) rfl rfl ?c1 ?c2 ?c3 ?c4 ?c5 ?_;(case c1=>exact HNEW.out);(case c2=>exact HONE.out))
    case c3=>unfold maxLen;omega
    case c4=>omega
    case c5=>simp;omega
    intro v' w8 hown3 hgrow3 _
    obtain⟨Wa,hWa⟩:∃ W,W=w6.alloc (.cells #[.int .i64 tb,.int .i64 kd,.string ky,.string fi,.string va,.int .i64 ex,.int .i64 sp,.int .i64 sl,.int .i64 sw,.slice xo n1 xc] 42):=⟨_,rfl⟩
    have hba:Below w6.heap.size w6 Wa:=by rw [hWa];exact br.alloc lr _
    rw [<-hWa] at hgrow3
    have hrow:=row_below HCR.out hba
    have hov3:∀ z∈R++[y],w8.ownsRow w.heap.size 39 3 z.2 z.1.over.length (z.1.over.flatMap enS):=by
     intro z hz
     have hz1:w6.ownsRow w.heap.size 39 3 z.2 z.1.over.length (z.1.over.flatMap enS):=by
      rcases List.mem_append.1 hz with h | h
      . exact HC6.out.over z h
      . rw [List.mem_singleton.1 h];exact HO6.out
     exact (row_below hz1 hba).kept hgrow3 (rows_apart (row_below hz1 hba) hrow (by decide))
    have hlen:(R++[y]).length=k+1:=by rw [la0,hrl.out];rfl
    have HR8:=hid (show Rdr w8 r v B (cu2.length,0) from (HR6.out.below hba).aside hgrow3 (fun j hj=>by have:=(World.ownsRow.lt hrow j hj).1;omega) (fun j hj hb ad n c e=>by have h1:=HR.out.vlow hb ad n c e;have h2:=(World.ownsRow.lt hrow j hj).1;omega))
    have HG8:=hid (show w.grownBy w8 (some r) from (HG6.out.andThen (below_grown (row:=some r) hba) (fun j hj=>Or.inr hj)).andThen hgrow3 (fun j hj=>Or.inl (World.ownsRow.lt hrow j hj).1))
    have x2:w8.cell? ⟨k5,2,none⟩=some (.string ky):=by
     have h1:w8.heap[k5]?=some (.cells #[.int .i64 tb,.int .i64 kd,.string ky,.string fi,.string va,.int .i64 ex,.int .i64 sp,.int .i64 sl,.int .i64 sw,.slice xo n1 xc] 42 (0,0)):=(hgrow3.block k5 (Nat.lt_of_lt_of_le (ag0.1 HX6.out).1 hba.size) HNE5.out).trans ((hba.block k5 (ag0.1 HX6.out).1).trans HX6.out)
     rw [cell_of_row w8 k5 2 _ _ (0,0) h1];rfl
    obtain⟨gg,gc,rfl⟩:=ownsRow_succ hown3
    have HC8:=hid (show Copied w8 (.slice (some ⟨gg,0,none⟩) (k+1) gc) (R++[y]) w.heap.size from ⟨by rw [hlen,fa0,List.flatMap_singleton];exact hown3,hov3⟩)
    have HLN:=hid hlen
    have HM8:=hid (show (R++[y]).map (·.1)=l.take (k+1) from by rw [List.map_append,List.map_singleton,HY1.out];exact HTK.out)
    clear hown3 hgrow3 hov3 hlen hrow hba hWa x0 x1 x3 x4 x5 x6 x7 x8 x9
    go_wp2_with fail
    go_roundw
    case rel=>exact⟨k+1,ky,cu2,R++[y],some ⟨gg,0,none⟩,gc,by omega,by go_num,rfl,rfl,hmks,HWK,HLN,HM8,HCU,HR8,HC8,HG8⟩
    case measure=>simp [intOf];omega
   ·
    obtain⟨k',rfl⟩:∃ q,k=q+1:=⟨k - 1,by omega⟩
    have hk0i:(0:Int)<((k'+1:Nat):Int):=by omega
    have hk1:((k'+1:Nat):Int) - 1=(k':Int):=by omega
    have hkl:k'<R.length:=by rw [hrl.out];omega
    obtain⟨p,hp⟩:∃ p,R[k']?=some p:=⟨_,ge0 hkl⟩
    obtain⟨hsib,hpsm⟩:=HPREV.out p (mg0 hp)
    have hmr3:MRow W3 (.slice oo (k'+1) oc) R:=HC3.out.mrow
    obtain⟨pb,poff,hao,hat⟩:=hmr3.at_ hp
    cases hao
    have hpo:=hmr3.over p (mg0 hp)
    obtain⟨qo,qc,pe,-,-⟩:=Over.form hpo
    obtain⟨pn,hpn⟩:∃ q,q=p.1.over.length:=⟨_,rfl⟩
    rw [<-hpn] at pe
    have hvp:vM p=.agg #[.int .i64 p.1.table,.int .i64 p.1.kind,.string p.1.key,.string p.1.fin,.string p.1.val,.int .i64 p.1.expiry,.int .i64 p.1.at_.p,.int .i64 p.1.at_.l,.int .i64 p.1.at_.w,.slice qo pn qc]:=by unfold vM;rw [pe]
    obtain⟨cc,hcc⟩:∃ c,c=sibC p.1 y.1:=⟨_,rfl⟩
    have hcn:cc<0:=by rw [hcc,HY1.out];exact hsib
    have hovy:Over W3 y:=Over.own HO3.out
    have HCM:=hid (show ∀ z,Below W3.heap.size W3 z->Calls Tryz.prog 80 #[.agg #[.int .i64 p.1.table,.int .i64 p.1.kind,.string p.1.key,.string p.1.fin,.string p.1.val,.int .i64 p.1.expiry,.int .i64 p.1.at_.p,.int .i64 p.1.at_.l,.int .i64 p.1.at_.w,.slice qo pn qc],.agg #[.int .i64 tb,.int .i64 kd,.string ky,.string fi,.string va,.int .i64 ex,.int .i64 sp,.int .i64 sl,.int .i64 sw,.slice xo n1 xc]] z fun e w'=>e=.returned (.int .i64 cc)/\Below z.heap.size z w' from fun z hz=>by
     have h1:=memcompare_any p y z (hpo.below hz) (hovy.below hz) hpsm.over (by rw [HY1.out];exact HSM.out.over)
     rw [hvp,HVY.out,<-hcc] at h1
     exact h1.mono fun _ _ ⟨a,b⟩=>⟨a,b.below⟩)
    obtain⟨hlp,b0,b1,b2,b3,b4,b5,b6,b7,b8,b9⟩:=hat
    rw [pe] at b9
    have hk0':(0:Int)<=(k':Int):=by omega
    have hk1':(k':Int)<((k'+1:Nat):Int):=by omega
    clear hp hsib hpsm hpo pe hvp hcc hovy hkl hpn
    refine wp_region_calm (by kernel_rfl) (by kernel_rfl) ?_
    repeat (go_big_quiet_step (first | (go_at_call 35;exact calm_same (HWY.out _ _ (HR3.out.below (BW.below _)))) | (go_at_call 80;exact calm (HCM.out _ (BW.below _)))))
    refine wpQuiet_nil ?_
    rintro _ ⟨z1,rfl⟩
    clear b0 b1 b2 b3 b4 b5 b6 b7 b8 b9
    obtain⟨w6,hw6⟩:∃ W,W=z1.at:=⟨_,rfl⟩
    have hz1:=z1.below
    rw [<-hw6] at hz1 ⊢
    have HR6:=hid (HR3.out.below hz1)
    have HO6:=hid (row_below HO3.out hz1)
    have HC6:=hid (HC3.out.below hz1)
    have HG6:=hid (show w.grownBy w6 (some r) from HG3.out.andThen (below_grown (row:=none) hz1) (fun j hj=>by cases hj))
    have hx6:=(hz1.block k5 hk5l).trans HX3.out
    clear hz1 hw6 x0 x1 x2 x3 x4 x5 x6 x7 x8 x9
    go_wp2_with fail
    refine (HWY.out _ w6 HR6.out).mono ?_
    rintro e w7 ⟨rfl,h1⟩
    subst h1
    have x0:w6.cell? ⟨k5,0,none⟩=some (.int .i64 tb):=by rw [cell_of_row w6 k5 0 _ _ (0,0) hx6];rfl
    have x1:w6.cell? ⟨k5,1,none⟩=some (.int .i64 kd):=by rw [cell_of_row w6 k5 1 _ _ (0,0) hx6];rfl
    have x2:w6.cell? ⟨k5,2,none⟩=some (.string ky):=by rw [cell_of_row w6 k5 2 _ _ (0,0) hx6];rfl
    have x3:w6.cell? ⟨k5,3,none⟩=some (.string fi):=by rw [cell_of_row w6 k5 3 _ _ (0,0) hx6];rfl
    have x4:w6.cell? ⟨k5,4,none⟩=some (.string va):=by rw [cell_of_row w6 k5 4 _ _ (0,0) hx6];rfl
    have x5:w6.cell? ⟨k5,5,none⟩=some (.int .i64 ex):=by rw [cell_of_row w6 k5 5 _ _ (0,0) hx6];rfl
    have x6:w6.cell? ⟨k5,6,none⟩=some (.int .i64 sp):=by rw [cell_of_row w6 k5 6 _ _ (0,0) hx6];rfl
    have x7:w6.cell? ⟨k5,7,none⟩=some (.int .i64 sl):=by rw [cell_of_row w6 k5 7 _ _ (0,0) hx6];rfl
    have x8:w6.cell? ⟨k5,8,none⟩=some (.int .i64 sw):=by rw [cell_of_row w6 k5 8 _ _ (0,0) hx6];rfl
    have x9:w6.cell? ⟨k5,9,none⟩=some (.slice xo n1 xc):=by rw [cell_of_row w6 k5 9 _ _ (0,0) hx6];rfl
    have HCR:=hid (show w6.ownsRow w.heap.size 42 10 (.slice (some ⟨pb,poff,none⟩) (k'+1) oc) (k'+1) (R.flatMap enM) from by have h:=HC6.out.row;rw [hrl.out] at h;exact h)
    have HNEW:Hid (∀ j u,(enM y)[j]?=some u->(w6.alloc (.cells #[.int .i64 tb,.int .i64 kd,.string ky,.string fi,.string va,.int .i64 ex,.int .i64 sp,.int .i64 sl,.int .i64 sw,.slice xo n1 xc] 42)).cell? ((⟨w6.heap.size,0,none⟩:Addr).add j)=some u):=hid (by rw [HEY.out];exact new_cells _ _ _)
    have HONE:Hid (∀ u∈enM y,u.oneCell'=true):=hid (by rw [HEY.out];intro u hu;simp at hu;rcases hu with rfl | rfl | rfl | rfl | rfl | rfl | rfl | rfl | rfl | rfl <;> rfl)
    have hgs6:=HG6.out.size
    have HX6:=hid hx6
    clear hx6
    go_wp2_with (at_builtin;refine wpList_append_own _ rfl _ _ 22 rfl w.heap.size 42 i0 zeroM 10 120 Tryz.underlying22 HI.out.1 HI.out.2.1 HI.out.2.2.1 HI.out.2.2.2 rfl (by decide) (.slice (some ⟨pb,poff,none⟩) (k'+1) oc) _ _ rfl (HCR.out.alloc _) ⟨_,0,none⟩ 1 1 (enM y) rfl rfl ?c1 ?c2 ?c3 ?c4 ?c5 ?_;(case c1=>exact HNEW.out);(case c2=>exact HONE.out))
    case c3=>unfold maxLen;omega
    case c4=>omega
    case c5=>simp;omega
    intro v' w8 hown3 hgrow3 _
    obtain⟨Wa,hWa⟩:∃ W,W=w6.alloc (.cells #[.int .i64 tb,.int .i64 kd,.string ky,.string fi,.string va,.int .i64 ex,.int .i64 sp,.int .i64 sl,.int .i64 sw,.slice xo n1 xc] 42):=⟨_,rfl⟩
    have hba:Below w6.heap.size w6 Wa:=by rw [hWa];exact br.alloc lr _
    rw [<-hWa] at hgrow3
    have hrow:=row_below HCR.out hba
    have hov3:∀ z∈R++[y],w8.ownsRow w.heap.size 39 3 z.2 z.1.over.length (z.1.over.flatMap enS):=by
     intro z hz
     have hz1:w6.ownsRow w.heap.size 39 3 z.2 z.1.over.length (z.1.over.flatMap enS):=by
      rcases List.mem_append.1 hz with h | h
      . exact HC6.out.over z h
      . rw [List.mem_singleton.1 h];exact HO6.out
     exact (row_below hz1 hba).kept hgrow3 (rows_apart (row_below hz1 hba) hrow (by decide))
    have hlen:(R++[y]).length=(k'+1)+1:=by rw [la0,hrl.out];rfl
    have HR8:=hid (show Rdr w8 r v B (cu2.length,0) from (HR6.out.below hba).aside hgrow3 (fun j hj=>by have:=(World.ownsRow.lt hrow j hj).1;omega) (fun j hj hb ad n c e=>by have h1:=HR.out.vlow hb ad n c e;have h2:=(World.ownsRow.lt hrow j hj).1;omega))
    have HG8:=hid (show w.grownBy w8 (some r) from (HG6.out.andThen (below_grown (row:=some r) hba) (fun j hj=>Or.inr hj)).andThen hgrow3 (fun j hj=>Or.inl (World.ownsRow.lt hrow j hj).1))
    have x2:w8.cell? ⟨k5,2,none⟩=some (.string ky):=by
     have h1:w8.heap[k5]?=some (.cells #[.int .i64 tb,.int .i64 kd,.string ky,.string fi,.string va,.int .i64 ex,.int .i64 sp,.int .i64 sl,.int .i64 sw,.slice xo n1 xc] 42 (0,0)):=(hgrow3.block k5 (Nat.lt_of_lt_of_le (ag0.1 HX6.out).1 hba.size) HNE5.out).trans ((hba.block k5 (ag0.1 HX6.out).1).trans HX6.out)
     rw [cell_of_row w8 k5 2 _ _ (0,0) h1];rfl
    obtain⟨gg,gc,rfl⟩:=ownsRow_succ hown3
    have HC8:=hid (show Copied w8 (.slice (some ⟨gg,0,none⟩) ((k'+1)+1) gc) (R++[y]) w.heap.size from ⟨by rw [hlen,fa0,List.flatMap_singleton];exact hown3,hov3⟩)
    have HLN:=hid hlen
    have HM8:=hid (show (R++[y]).map (·.1)=l.take ((k'+1)+1) from by rw [List.map_append,List.map_singleton,HY1.out];exact HTK.out)
    clear hown3 hgrow3 hov3 hlen hrow hba hWa x0 x1 x3 x4 x5 x6 x7 x8 x9
    go_wp2_with fail
    go_roundw
    case rel=>exact⟨(k'+1)+1,ky,cu2,R++[y],some ⟨gg,0,none⟩,gc,by omega,by go_num,rfl,rfl,hmks,HWK,HLN,HM8,HCU,HR8,HC8,HG8⟩
    case measure=>simp [intOf];omega
  ·
   obtain rfl:k=n:=by omega
   have HP:=hid (show cur.length=pz from by
    have h1:=hcu.out
    rw [List.drop_of_length_le (by have:=HN.out;omega)] at h1
    exact HPZ.out cur h1)
   have HM9:=hid (show R.map (·.1)=l from by rw [hrm.out];exact List.take_of_length_le (by have:=HN.out;omega))
   rw [HP.out] at hrd
   go_wp2_with fail
   refine (HWY.out _ wr hrd.out).mono ?_
   rintro e w2 ⟨rfl,h1⟩
   subst h1
   go_wp2_with fail
   go_ret
   exact⟨_,R,rfl,HM9.out,hcp.out,hrd.out,hgr.out⟩
end Go.Proofs.YtpeoonnglnchnaaGreatDoor.Tab
namespace Go.Proofs.YtpeoonnglnchnaaGreatDoor.Tab
open Go.Lib (hid)
open RowKit YtpeoonnglnchnaaGreatDoor.Spare Mut Mrk YtpeoonnglnchnaaGreatDoor.Rd
variable [Inhabited Lim]
structure Lf where
 first:ByteArray
 bv:Value
 bytes:List Nat
abbrev enL (x:Lf):List Value:=[.string x.first,x.bv]
structure Tbl (w:World) (t:Nat) (lv wv fv:Value) (rd:Nat) (P:List (List Mu)) (W:List Mu) (F:Nat->Bool) (N:Nat):Prop where
 box:w.heap[t]?=some (.cells #[lv,wv,fv,.int .i64 (rd:Nat)] 69 (0,0))
 leaves:∃ L:List Lf,Lst 2 enL w lv L/\(∀ x∈L,BRow w x.bv x.bytes)/\L.map (fun x=>(x.first,x.bytes))=P.map (fun p=>(firstK p,pageB p))
 wipes:∃ R,MRow w wv R/\R.map (·.1)=W
 filt:∃ g cap,fv=.slice (some ⟨g,0,none⟩) N cap/\BRow w fv (sieveL F N)
theorem Tbl.below {w w':World} {t:Nat} {lv wv fv:Value} {rd:Nat} {P:List (List Mu)} {W:List Mu} {F:Nat->Bool} {N:Nat} (h:Tbl w t lv wv fv rd P W F N) (hb:Below w.heap.size w w'):Tbl w' t lv wv fv rd P W F N:=by
 obtain⟨h0,⟨L,l1,l2,l3⟩,⟨R,r1,r2⟩,g,cap,g1,g2⟩:=h
 exact⟨(hb.block t (ag0.1 h0).1).trans h0,⟨L,Lst.below l1 hb,fun x hx=>Lst.below (l2 x hx) hb,l3⟩,⟨R,r1.below hb,r2⟩,g,cap,g1,Lst.below g2 hb⟩
theorem lst_off {α:Type} {sz:Nat} {en:α->List Value} {w:World} {v:Value} {l:List α} {t:Nat} {ty:TypeId} {C:Array Value} (h:Lst sz en w v l) (ht:w.heap[t]?=some (.cells C ty (0,0))) (hne:∀ (x:α) (off:Nat),∃ j,j<sz/\C[off+j]?≠(en x)[j]?):l≠[]->∀ ad n c,v=.slice (some ad) n c->ad.block≠t:=by
 intro h0 ad n c e e2
 obtain⟨ao,cap,e1,-,-,h3⟩:=h
 rcases h3 with h3 | ⟨b,off,e3,hb,hc⟩
 . exact h0 (List.eq_nil_of_length_eq_zero h3)
 ·
  rw [e] at e1
  injection e1 with e1
  rw [e3] at e1
  injection e1 with e1
  subst e1
  cases l with
  | nil=>exact h0 rfl
  | cons x l=>
   obtain⟨j,hj,hx⟩:=hne x off
   have h4:=hc 0 x rfl j hj
   rw [Nat.zero_mul,Nat.add_zero] at h4
   change b=t at e2
   subst e2
   rw [cell_of_row w b (off+j) _ _ (0,0) ht] at h4
   exact hx h4
theorem tblC_int (a b c:Option Addr) (n1 n2 n3 k1 k2 k3:Nat) (u:Value) (off:Nat) (i:Int) (h:(#[Value.slice a n1 k1,.slice b n2 k2,.slice c n3 k3,u]:Array Value)[off]?=some (.int .i64 i)):off=3:=by
 rcases off with _ | _ | _ | _ | off
 . simp at h
 . simp at h
 . simp at h
 . rfl
 . simp at h
theorem Tbl.turn {w w':World} {t:Nat} {lv wv fv:Value} {rd rd':Nat} {P:List (List Mu)} {W:List Mu} {F:Nat->Bool} {N:Nat} (h:Tbl w t lv wv fv rd P W F N) (hg:w.grownBy w' (some t)) (hx:w'.heap[t]?=some (.cells #[lv,wv,fv,.int .i64 (rd':Nat)] 69 (0,0))):Tbl w' t lv wv fv rd' P W F N:=by
 obtain⟨h0,⟨L,l1,l2,l3⟩,⟨R,r1,r2⟩,g,cap,g1,g2⟩:=h
 obtain⟨lo,lc,e1,-,-⟩:=Lst.form l1
 obtain⟨wo,wc,e2,-,-⟩:=r1.form
 subst e1
 subst e2
 subst g1
 have ci:=tblC_int lo wo (some ⟨g,0,none⟩) L.length R.length N lc wc cap (.int .i64 (rd:Nat))
 have hM:∀ (x:Ro) (off:Nat),∃ j,j<10/\(#[Value.slice lo L.length lc,.slice wo R.length wc,.slice (some ⟨g,0,none⟩) N cap,.int .i64 (rd:Nat)]:Array Value)[off+j]?≠(enM x)[j]?:=fun x off=>by
  by_cases e:off=3
  . exact⟨1,by decide,fun h=>by have:=ci (off+1) _ h;omega⟩
  . exact⟨0,by decide,fun h=>e (ci off _ h)⟩
 have hS:∀ (x:Stp) (off:Nat),∃ j,j<3/\(#[Value.slice lo L.length lc,.slice wo R.length wc,.slice (some ⟨g,0,none⟩) N cap,.int .i64 (rd:Nat)]:Array Value)[off+j]?≠(enS x)[j]?:=fun x off=>by
  by_cases e:off=3
  . exact⟨1,by decide,fun h=>by have:=ci (off+1) _ h;omega⟩
  . exact⟨0,by decide,fun h=>e (ci off _ h)⟩
 have hB:∀ (x:Nat) (off:Nat),∃ j,j<1/\(#[Value.slice lo L.length lc,.slice wo R.length wc,.slice (some ⟨g,0,none⟩) N cap,.int .i64 (rd:Nat)]:Array Value)[off+j]?≠(enB x)[j]?:=fun x off=>⟨0,by decide,fun h=>by
  rcases off with _ | _ | _ | _ | off <;> simp at h⟩
 have hL:∀ (x:Lf) (off:Nat),∃ j,j<2/\(#[Value.slice lo L.length lc,.slice wo R.length wc,.slice (some ⟨g,0,none⟩) N cap,.int .i64 (rd:Nat)]:Array Value)[off+j]?≠(enL x)[j]?:=fun x off=>⟨0,by decide,fun h=>by
  rcases off with _ | _ | _ | _ | off <;> simp at h⟩
 exact⟨hx,⟨L,lst_beside l1 hg (lst_off l1 h0 hL),fun x hx=>lst_beside (l2 x hx) hg (lst_off (l2 x hx) h0 hB),l3⟩,⟨R,⟨lst_beside r1.row hg (lst_off r1.row h0 hM),fun x hx=>⟨lst_beside (r1.over x hx).lst hg (lst_off (r1.over x hx).lst h0 hS),(r1.over x hx).zn⟩⟩,r2⟩,g,cap,rfl,lst_beside g2 hg (lst_off g2 h0 hB)⟩
structure GoodP (P:List (List Mu)):Prop where
 right:∀ p∈P,∀ m∈p,rightF m=true
 rise:∀ p∈P,p.Pairwise (fun a b=>sibC a b<0)
 few:∀ p∈P,p≠[]/\p.length<=8
 many:P.length<=60
theorem textF_byte (s:ByteArray):∀ c∈textF s,c<256:=by
 intro c hc
 unfold textF at hc
 rcases List.mem_append.1 hc with h | h
 . exact Mrk.putF_lt _ c h
 ·
  unfold strL at h
  obtain⟨b,_,rfl⟩:=List.mem_map.1 h
  exact UInt8.toNat_lt _
theorem pageL_lt (l:List Mu):∀ (last:ByteArray),∀ c∈pageL last l,c<256:=by
 induction l with
 | nil=>intro _ c hc;cases hc
 | cons m l ih=>
  intro last c hc
  unfold pageL rowB at hc
  rcases List.mem_append.1 hc with h | h
  ·
   rcases List.mem_append.1 h with h | h
   . exact Mrk.putF_lt _ c h
   rcases List.mem_append.1 h with h | h
   . exact textF_byte _ c h
   . exact bytesM_byte m c (by unfold bytesM;exact List.mem_append_right _ h)
  . exact ih _ c h
theorem pageB_lt (l:List Mu):∀ c∈pageB l,c<256:=by
 intro c hc
 unfold pageB at hc
 rcases List.mem_append.1 hc with h | h
 . exact Mrk.putF_lt _ c h
 . exact pageL_lt l _ c h
def ReadP (t:Nat) (lv wv fv:Value) (rd:Nat) (P:List (List Mu)) (W:List Mu) (F:Nat->Bool) (N:Nat) (p:List Mu) (w:World) (e:Ending) (w':World):Prop:=
 ∃ v' R,e=.returned (.tuple #[v',.int .i64 0])/\R.map (·.1)=p/\Copied w' v' R w.heap.size/\Tbl w' t lv wv fv (rd+1) P W F N/\w.grownBy w' (some t)
theorem read_any (t:Nat) (lv wv fv:Value) (rd:Nat) (P:List (List Mu)) (W:List Mu) (F:Nat->Bool) (N i:Nat) (p:List Mu) (w wb:World) (h:Tbl w t lv wv fv rd P W F N) (hT:Tabs wb) (hbw:Below wb.heap.size wb w) (htb:wb.heap.size<=t) (hP:GoodP P) (hp:P[i]?=some p) (hrd:rd<=1000000) :
  Calls Tryz.prog 54 #[.pointer (some ⟨t,0,none⟩),.int .i64 (i:Nat)] w (ReadP t lv wv fv rd P W F N p w):=by
 have HT0:=hid h
 obtain⟨h0,⟨L,l1,l2,l3⟩,⟨R,r1,r2⟩,g,cap,g1,g2⟩:=h
 obtain⟨lo,lc,e1,-,-⟩:=Lst.form l1
 obtain⟨wo,wc,e2,-,-⟩:=r1.form
 subst e1
 subst e2
 subst g1
 have hlen:L.length=P.length:=by have:=congrArg List.length l3;rwa [lm0,lm0] at this
 have hi:i<L.length:=by rw [hlen];exact (gs0.1 hp).1
 obtain⟨x,hx⟩:∃ x,L[i]?=some x:=⟨_,ge0 hi⟩
 have hxb:x.bytes=pageB p:=by
  have h1:=congrArg (fun l=>l[i]?) l3
  simp only [List.getElem?_map,hx,hp,Option.map_some,Option.some.injEq,Prod.mk.injEq] at h1
  exact h1.2
 have hxm:=mg0 hx
 have hpm:=mg0 hp
 obtain⟨p1,p2⟩:=hP.few p hpm
 have hpl:=pageB_len (hP.right p hpm) (by omega)
 have htw:=(ag0.1 h0).1
 obtain⟨rd1,hrd1⟩:∃ q,q=rd+1:=⟨_,rfl⟩
 obtain⟨w1,hw1⟩:∃ W,W=w.setCell ⟨t,3,none⟩ (.int .i64 ((rd1:Nat):Int)):=⟨_,rfl⟩
 have hg1:w.grownBy w1 (some t):=by rw [hw1];exact grown_cell' w t 3 _
 have hx1:w1.heap[t]?=some (.cells #[.slice lo L.length lc,.slice wo R.length wc,.slice (some ⟨g,0,none⟩) N cap,.int .i64 ((rd1:Nat):Int)] 69 (0,0)):=by rw [hw1];exact heap_setCell_same w t 3 _ _ _ h0
 have ht1:=HT0.out.turn hg1 hx1
 have HT1:=hid ht1
 have HS1:=hid (show w1.heap.size=w.heap.size from by rw [hw1];simp)
 obtain⟨-,⟨L',l1',l2',l3'⟩,-,-⟩:=ht1
 have hl1:Lst 2 enL w1 (.slice lo L.length lc) L:=by
  refine lst_beside l1 hg1 (lst_off l1 h0 (fun x off=>⟨0,by decide,fun h=>by rcases off with _ | _ | _ | _ | off <;> simp at h⟩))
 have hbx1:BRow w1 x.bv x.bytes:=by
  refine lst_beside (l2 x hxm) hg1 (lst_off (l2 x hxm) h0 (fun x off=>⟨0,by decide,fun h=>by rcases off with _ | _ | _ | _ | off <;> simp at h⟩))
 obtain⟨lb,loff,hlo,hlb,hlc⟩:=Lst.get hl1 hi
 subst hlo
 have hxg:L[i]=x:=(gs0.1 hx).2
 have a1:=hlc 1 (by decide)
 rw [hxg] at a1
 change w1.cell? ⟨lb,loff+i*2+1,none⟩=some x.bv at a1
 have HNEW:=hid (new_any x.bv x.bytes w1 hbx1 (by rw [hxb];omega))
 obtain⟨bv,hbv⟩:∃ b,b=x.bv:=⟨_,rfl⟩
 obtain⟨PB,hPB⟩:∃ b,b=pageB p:=⟨_,rfl⟩
 rw [<-hbv,hxb,<-hPB] at HNEW
 rw [<-hbv] at a1
 have HB1:=hid (show Below wb.heap.size wb w1 from hbw.grown hg1 hbw.size (fun j hj=>by cases hj;exact htb))
 have HPG:=hid (show ∀ r v z,Rdr z r v PB (0,0)->wb.heap.size<=r->Below wb.heap.size wb z->Calls Tryz.prog 96 #[pR r] z (ListP r v PB (p,(PB.length,0)) z) from fun r v z hr hrw hbz=>by
  have e:PB=[]++(pageB p++[]):=by rw [hPB];simp
  have h1:=pageget_any r v [] [] p z wb (by rw [<-e];exact hr) (by rw [<-e,hPB];exact pageB_lt p) hT hbz hrw (hP.right p hpm) (hP.rise p hpm) p2
  rw [<-e] at h1
  simp only [List.length_nil,Nat.zero_add] at h1
  rw [<-hPB] at h1
  exact h1)
 have HEN:=hid (fun (r:Nat) (v:Value) (z:World) (h:Rdr z r v PB (PB.length,0))=>end_any r v PB z h)
 obtain⟨n,hn⟩:∃ n,n=L.length:=⟨_,rfl⟩
 rw [<-hn] at HT0 HT1 hi h0 hx1
 have HNL:=hid hn
 have c0:w.cell? ⟨t,0,none⟩=some (.slice (some ⟨lb,loff,none⟩) n lc):=by rw [cell_of_row w t 0 _ _ (0,0) h0];rfl
 have c3:w.cell? ⟨t,3,none⟩=some (.int .i64 (rd:Nat)):=by rw [cell_of_row w t 3 _ _ (0,0) h0];rfl
 have f3:w.frozen? ⟨t,3,none⟩=false:=frozen_of_row w t 3 _ _ h0
 have d0:w1.cell? ⟨t,0,none⟩=some (.slice (some ⟨lb,loff,none⟩) n lc):=by rw [cell_of_row w1 t 0 _ _ (0,0) hx1];rfl
 have HW1:=hid hw1
 have HG1:=hid hg1
 have hrd2:((rd:Nat):Int)+1=((rd1:Nat):Int):=by omega
 have HRD:=hid hrd1
 have j0:(0:Int)<=(i:Int):=by omega
 have j1:(i:Int)<(n:Int):=by omega
 clear hrd1 h0 l1 l2 l3 r1 r2 g2 hlen hx hxb hxm hpm p1 p2 hpl hw1 hg1 hx1 l1' l2' l3' hl1 hbx1 hlb hlc hxg hbv hPB hT hbw hP hp hn
 go_enter Tryz.func54,Tryz.ntmps54
 go_upto_region 2 with fail
 rw [<-HW1.out]
 clear HW1 c0 c3 f3
 go_wp2_with fail
 refine HNEW.out.mono ?_
 rintro e w2 ⟨rfl,hr2,hb2⟩
 obtain⟨r,hr⟩:∃ r,r=w1.heap.size:=⟨_,rfl⟩
 rw [<-hr] at hr2 ⊢
 have HT2:=hid (HT1.out.below hb2)
 have HR2:=hid hr2
 have HB2:=hid (below_then HB1.out lr hb2)
 have HG2:=hid (show w.grownBy w2 (some t) from HG1.out.andThen (below_grown (row:=none) hb2) (fun j hj=>by cases hj))
 have hrb:wb.heap.size<=r:=by rw [hr];exact HB1.out.size
 have hrw:w.heap.size<=r:=by rw [hr,HS1.out];exact Nat.le_refl _
 have HPP:=hid (HPG.out r bv w2 hr2 hrb HB2.out)
 have hw2:=HG2.out.size
 have HB12:=hid (show Below w1.heap.size w1 w2 from hb2)
 have HRE:=hid hr
 clear hb2 hr2 hr d0
 go_wp2_with fail
 refine HPP.out.mono ?_
 rintro e w3 ⟨v3,R3,rfl,hm3,hc3,hr3,hg3⟩
 have HR3:=hid hr3
 have HC3:=hid (show Copied w3 v3 R3 w.heap.size from hc3.base hw2)
 have HT3:=hid (HT1.out.below (HB12.out.grown hg3 HB12.out.size (fun j hj=>by cases hj;rw [HRE.out];exact Nat.le_refl _)))
 have HG3:=hid (show w.grownBy w3 (some t) from HG2.out.andThen hg3 (fun j hj=>by cases hj;exact Or.inl hrw))
 have HM3:=hid hm3
 have HED:=hid (HEN.out r bv w3 hr3)
 clear hm3 hc3 hr3 hg3
 go_wp2_with fail
 refine HED.out.mono ?_
 rintro e w4 ⟨rfl,hb4⟩
 have HC4:=hid (HC3.out.below hb4)
 have HT4:=hid (HT3.out.below hb4)
 have HG4:=hid (show w.grownBy w4 (some t) from HG3.out.andThen (below_grown (row:=none) hb4) (fun j hj=>by cases hj))
 clear hb4
 go_wp2_with fail
 refine bodyPost_ret (v:=.tuple #[v3,.int .i64 0]) (by simp [results,Tryz.f54,go_sem]) rfl ?_
 exact⟨v3,R3,rfl,HM3.out,HC4.out,by rw [<-HRD.out,<-HNL.out];exact HT4.out,HG4.out⟩
