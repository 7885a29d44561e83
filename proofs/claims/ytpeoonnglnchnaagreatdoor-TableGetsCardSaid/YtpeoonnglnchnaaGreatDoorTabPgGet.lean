/- page.Get: a page, at its own bytes (layer 15). PRINTED by wip/gentabpgget.py. -/
import Derived.Test.YtpeoonnglnchnaaGreatDoorPkTabReads
import Derived.Test.YtpeoonnglnchnaaGreatDoorPkTabPage
import Derived.Test.YtpeoonnglnchnaaGreatDoorPkKit
set_option maxHeartbeats 16000000
set_option maxRecDepth 100000
set_option linter.unusedSimpArgs false
set_option linter.unusedVariables false
namespace Go.Proofs.YtpeoonnglnchnaaGreatDoor.Tab
open Go.Lib (hid)
open Go.RowKit Go.Proofs.YtpeoonnglnchnaaGreatDoor.Ord Go.Proofs.YtpeoonnglnchnaaGreatDoor.Spare Go.Proofs.YtpeoonnglnchnaaGreatDoor.Mut Go.Proofs.YtpeoonnglnchnaaGreatDoor.Mrk Go.Proofs.YtpeoonnglnchnaaGreatDoor.Rd
set_option linter.unusedSectionVars false
variable [Inhabited Lim]
theorem pageL_at {l:List Mu} {k:Nat} {m:Mu} (h:l[k]?=some m) (last:ByteArray):pageL last (l.drop k)=rowB last m++pageL m.key (l.drop (k+1)):=by
 obtain⟨hi,he⟩:=List.getElem?_eq_some_iff.1 h
 rw [List.drop_eq_getElem_cons hi,he]
 rfl
theorem pageget_any (r:Nat) (v:Value) (pre post:List Nat) (l:List Mu) (w wb:World) (h:Rdr w r v (pre++(pageB l++post)) (pre.length,0)) (hB:∀ c∈pre++(pageB l++post),c<256) (hT:Tabs wb) (hbw:Below wb.heap.size wb w) (hrb:wb.heap.size≤r)
  (hrt:∀ m∈l,rightF m=true) (hs:l.Pairwise (fun a b=>sibC a b<0)) (h8:l.length≤8) :
  Calls Tryz.prog 96 #[pR r] w (ListP r v (pre++(pageB l++post)) (l,(pre.length+(pageB l).length,0)) w):=by
 obtain⟨B,hBe⟩:∃ B,B=pre++(pageB l++post):=⟨_,rfl⟩
 obtain⟨pz,hpz⟩:∃ p,p=pre.length+(pageB l).length:=⟨_,rfl⟩
 rw [←hBe] at h hB ⊢
 rw [←hpz]
 have HBB:=hid (show ∀ W,w.grownBy W (some r)→Below wb.heap.size wb W from fun W hg=>hbw.grown hg hbw.size (fun j hj=>by cases hj;exact hrb))
 have HWY:=hid (fun (s:S) (w1:World) (h:Rdr w1 r v B s)=>why_any r v B s w1 h)
 have hrw:r<w.heap.size:=h.lt
 obtain⟨i0,hi0,hz0,hz1,hz2⟩:=info_parts info_M
 have HI:=hid (And.intro hi0 (And.intro hz0 (And.intro hz1 hz2)))
 obtain⟨n,hn⟩:∃ n,n=l.length:=⟨_,rfl⟩
 have hn8:n≤8:=by rw [hn];exact h8
 have hb1:B=pre++(putF n++(pageL ByteArray.empty l++post)):=by rw [hBe,hn];unfold pageB;simp [List.append_assoc]
 have hcb:=count_back pre (pageL ByteArray.empty l++post) n 8 (by omega) (by omega)
 rw [←hb1] at hcb
 have HN1:=hid (show ∀ w1,Rdr w1 r v B (pre.length,0)→Calls Tryz.prog 33 #[pR r,.int .i64 8] w1 (RdP r v B ((pre++putF n).length,0) (.int .i64 (n:Nat)) w1) from fun w1 h=>by have h1:=count_any r v B 8 (pre.length,0) w1 h hB;rw [hcb] at h1;rw [List.length_append];exact h1)
 have HC0:=hid (show (pre++putF n)++(pageL ByteArray.empty (l.drop 0)++post)=B from by rw [hb1,List.drop_zero];simp [List.append_assoc])
 have HON:=hid (fun (cur P:List Nat) (last:ByteArray) (m:Mu) (w1:World) (hq:B=cur++(rowB last m++P)) (h:Rdr w1 r v B (cur.length,0)) (hg:w.grownBy w1 (some r)) (hm:rightF m=true) (wl:Well last) (hl:last.size≤24)=>show Calls Tryz.prog 136 #[pR r,.string last] w1 (WithP r v B (m,((cur++rowB last m).length,0)) w1) from by
  have h1:=one_any r v cur P last m w1 wb (by rw [←hq];exact h) (by rw [←hq];exact hB) hT (HBB.out w1 hg) hrb hm wl hl
  rw [←hq] at h1
  rw [List.length_append]
  exact h1)
 have HRT:=hid hrt
 have HS:=hid hs
 have HR:=hid h
 have HN:=hid hn
 have HPZ:=hid (show ∀ cur,cur++post=B→cur.length=pz from fun cur hc=>by
  have h1:=congrArg List.length hc
  rw [hBe] at h1
  rw [List.length_append,List.length_append,List.length_append] at h1
  omega)
 clear hi0 hz0 hz1 hz2 h hB hT hbw hrb hrt hs h8 hcb hb1 hBe hpz hn
 go_enter Tryz.func96,Tryz.ntmps96
 go_wp2_with fail
 refine (HN1.out w HR.out).mono ?_
 rintro e w1 ⟨rfl,hr1,hg1⟩
 have HR1:=hid hr1
 have HG1:=hid hg1
 clear hr1 hg1
 go_wp2_with fail
 go_loopw [3,4,8] (fun ov sv iv wr=>∃ (k:Nat) (last:ByteArray) (cur:List Nat) (R:List Ro) (oo:Option Addr) (oc:Nat),k≤n∧iv=.int .i64 k∧sv=.string last∧ov=.slice oo k oc∧last.size≤24∧Hid (Well last)∧Hid (R.length=k)∧Hid (R.map (·.1)=l.take k)∧Hid (cur++(pageL last (l.drop k)++post)=B)∧Hid (Rdr wr r v B (cur.length,0))∧Hid (Copied wr (.slice oo k oc) R w.heap.size)∧Hid (w.grownBy wr (some r))) (fun _ _ iv _=>n - (intOf iv).toNat)
 case atStart=>exact⟨0,ByteArray.empty,pre++putF n,[],none,0,by omega,rfl,rfl,rfl,by simp,hid well_empty,hid rfl,hid rfl,HC0,HR1,hid ⟨World.ownsRow_nil _ _ _ _,fun x hx=>by cases hx⟩,HG1⟩
 case round=>
  obtain⟨k,last,cur,R,oo,oc,hk,rfl,rfl,rfl,hls,hwl,hrl,hrm,hcu,hrd,hcp,hgr⟩:=hrel
  by_cases hlt:k<n
  ·
   have hkl:k<l.length:=by have:=HN.out;omega
   obtain⟨m,hmk⟩:∃ m,l[k]?=some m:=⟨_,List.getElem?_eq_getElem hkl⟩
   have hmr:=HRT.out m (List.mem_of_getElem? hmk)
   have hq:B=cur++(rowB last m++(pageL m.key (l.drop (k+1))++post)):=by rw [←hcu.out,pageL_at hmk last];simp [List.append_assoc]
   have HCU:=hid (show (cur++rowB last m)++(pageL m.key (l.drop (k+1))++post)=B from by rw [hq];simp [List.append_assoc])
   have HO1:=hid (HON.out cur _ last m wr hq hrd.out hgr.out hmr hwl.out hls)
   have HTK:=hid (show R.map (·.1)++[m]=l.take (k+1) from by rw [hrm.out,List.take_add_one,hmk];rfl)
   have HWK:=hid (keyF_well (right_key hmr))
   have hmks:=(right_sizes hmr).1
   have HSM:=hid (small_right hmr)
   have HPREV:=hid (show ∀ x∈R,sibC x.1 m<0∧Small x.1 from fun x hx=>by
    have h1:x.1∈l.take k:=by rw [←hrm.out];exact List.mem_map.2 ⟨x,hx,rfl⟩
    obtain⟨j,hj1,hj2⟩:=List.mem_iff_getElem.1 h1
    rw [List.length_take] at hj1
    rw [List.getElem_take] at hj2
    obtain⟨hk1,hk2⟩:=List.getElem?_eq_some_iff.1 hmk
    refine⟨?_,small_right (HRT.out _ (List.mem_of_mem_take h1))⟩
    rw [←hj2,←hk2]
    exact List.pairwise_iff_getElem.1 HS.out j k (by omega) hk1 (by omega))
   obtain⟨cu2,hcu2⟩:∃ c,c=cur++rowB last m:=⟨_,rfl⟩
   rw [←hcu2] at HCU HO1
   obtain⟨tb,kd,ky,fi,va,ex,⟨sp,sl,sw⟩,O⟩:=m
   simp only [] at HCU hmks HWK
   clear hmk hmr hq hkl hcu hcu2 hwl hrm
   go_wp2_with fail
   refine HO1.out.mono ?_
   rintro e w2 ⟨xv,rfl,ho2,hr2,hg2⟩
   obtain⟨xo,xc,rfl⟩:=row_form ho2
   simp only [] at ho2 hr2 ⊢
   have hgs:=hgr.out.size
   obtain⟨n1,hn1⟩:∃ m,m=O.length:=⟨_,rfl⟩
   obtain⟨y,hy⟩:∃ y:Ro,y=(⟨tb,kd,ky,fi,va,ex,⟨sp,sl,sw⟩,O⟩,.slice xo n1 xc):=⟨_,rfl⟩
   have HY1:=hid (show y.1=⟨tb,kd,ky,fi,va,ex,⟨sp,sl,sw⟩,O⟩ from by rw [hy])
   have HOY:=hid (show w2.ownsRow w.heap.size 39 3 y.2 y.1.over.length (y.1.over.flatMap enS) from by rw [hy,hn1];exact own_base ho2 hgs)
   rw [←hn1]
   have hey:enM y=[.int .i64 tb,.int .i64 kd,.string ky,.string fi,.string va,.int .i64 ex,.int .i64 sp,.int .i64 sl,.int .i64 sw,.slice xo n1 xc]:=by rw [hy];rfl
   have hvy:vM y=.agg #[.int .i64 tb,.int .i64 kd,.string ky,.string fi,.string va,.int .i64 ex,.int .i64 sp,.int .i64 sl,.int .i64 sw,.slice xo n1 xc]:=by rw [hy];rfl
   have HR2:=hid hr2
   have HGR:=hid (hgr.out.andThen hg2 (fun j hj=>Or.inr hj))
   have HC2:=hid (Copied.read hcp.out hg2 hrw)
   obtain⟨W3,hW3⟩:∃ W,W=w2.alloc (.cells #[.int .i64 tb,.int .i64 kd,.string ky,.string fi,.string va,.int .i64 ex,.int .i64 sp,.int .i64 sl,.int .i64 sw,.slice xo n1 xc] 42):=⟨_,rfl⟩
   obtain⟨k5,hk5⟩:∃ k,k=w2.heap.size:=⟨_,rfl⟩
   have hb3:Below w2.heap.size w2 W3:=by rw [hW3];exact (Below.refl _ _).alloc (Nat.le_refl _) _
   have HX3:=hid (show W3.heap[k5]?=some (.cells #[.int .i64 tb,.int .i64 kd,.string ky,.string fi,.string va,.int .i64 ex,.int .i64 sp,.int .i64 sl,.int .i64 sw,.slice xo n1 xc] 42 (0,0)) from by rw [hW3,hk5];exact heap_alloc_new w2 _)
   have HR3:=hid (HR2.out.below hb3)
   have HO3:=hid (row_below HOY.out hb3)
   have HC3:=hid (HC2.out.below hb3)
   have HG3:=hid (show w.grownBy W3 (some r) from HGR.out.andThen (below_grown (row:=none) hb3) (fun j hj=>by cases hj))
   have HW3:=hid hW3
   have HK5:=hid hk5
   have HNE5:=hid (show some k5≠(Value.slice oo k oc).ownBlock from fun e=>by have:=(World.ownsRow.lt HC2.out.row _ e.symm).2;omega)
   have HEY:=hid hey
   have HVY:=hid hvy
   have hk5l:k5<W3.heap.size:=(Array.getElem?_eq_some_iff.1 HX3.out).1
   clear ho2 hr2 hg2 hy hey hvy hn1 hb3 hW3 hk5 HO1 hrd hcp HR2 HC2 HOY HGR hgr
   unfold vM
   simp only []
   go_upto_region 6 with fail
   rw [←HW3.out,←HK5.out]
   clear HW3 HK5
   have x0:W3.cell? ⟨k5,0,none⟩=some (.int .i64 tb):=by rw [cell_of_row W3 k5 0 _ _ (0,0) HX3.out];rfl
   have x1:W3.cell? ⟨k5,1,none⟩=some (.int .i64 kd):=by rw [cell_of_row W3 k5 1 _ _ (0,0) HX3.out];rfl
   have x2:W3.cell? ⟨k5,2,none⟩=some (.string ky):=by rw [cell_of_row W3 k5 2 _ _ (0,0) HX3.out];rfl
   have x3:W3.cell? ⟨k5,3,none⟩=some (.string fi):=by rw [cell_of_row W3 k5 3 _ _ (0,0) HX3.out];rfl
   have x4:W3.cell? ⟨k5,4,none⟩=some (.string va):=by rw [cell_of_row W3 k5 4 _ _ (0,0) HX3.out];rfl
   have x5:W3.cell? ⟨k5,5,none⟩=some (.int .i64 ex):=by rw [cell_of_row W3 k5 5 _ _ (0,0) HX3.out];rfl
   have x6:W3.cell? ⟨k5,6,none⟩=some (.int .i64 sp):=by rw [cell_of_row W3 k5 6 _ _ (0,0) HX3.out];rfl
   have x7:W3.cell? ⟨k5,7,none⟩=some (.int .i64 sl):=by rw [cell_of_row W3 k5 7 _ _ (0,0) HX3.out];rfl
   have x8:W3.cell? ⟨k5,8,none⟩=some (.int .i64 sw):=by rw [cell_of_row W3 k5 8 _ _ (0,0) HX3.out];rfl
   have x9:W3.cell? ⟨k5,9,none⟩=some (.slice xo n1 xc):=by rw [cell_of_row W3 k5 9 _ _ (0,0) HX3.out];rfl
   by_cases hk0:k=0
   ·
    have hk0i:¬ (0<(k:Int)):=by omega
    have hk0n:¬ (0<k):=by omega
    have HK0:=hid hk0
    clear hk0
    refine wp_region_calm (by kernel_rfl) (by kernel_rfl) ?_
    repeat (go_big_quiet_step ((go_at_call 35;exact calm_same (HWY.out _ _ (HR3.out.below (BW.below _))))))
    refine wpQuiet_nil ?_
    rintro _ ⟨z1,rfl⟩
    obtain⟨w6,hw6⟩:∃ W,W=z1.at:=⟨_,rfl⟩
    have hz1:=z1.below
    rw [←hw6] at hz1 ⊢
    have HR6:=hid (HR3.out.below hz1)
    have HO6:=hid (row_below HO3.out hz1)
    have HC6:=hid (HC3.out.below hz1)
    have HG6:=hid (show w.grownBy w6 (some r) from HG3.out.andThen (below_grown (row:=none) hz1) (fun j hj=>by cases hj))
    have hx6:=(hz1.block k5 hk5l).trans HX3.out
    clear hz1 hw6 x0 x1 x2 x3 x4 x5 x6 x7 x8 x9
    go_wp2_with fail
    refine (HWY.out _ w6 HR6.out).mono ?_
    rintro e w7 ⟨rfl,h1⟩
    subst h1
    have x0:w6.cell? ⟨k5,0,none⟩=some (.int .i64 tb):=by rw [cell_of_row w6 k5 0 _ _ (0,0) hx6];rfl
    have x1:w6.cell? ⟨k5,1,none⟩=some (.int .i64 kd):=by rw [cell_of_row w6 k5 1 _ _ (0,0) hx6];rfl
    have x2:w6.cell? ⟨k5,2,none⟩=some (.string ky):=by rw [cell_of_row w6 k5 2 _ _ (0,0) hx6];rfl
    have x3:w6.cell? ⟨k5,3,none⟩=some (.string fi):=by rw [cell_of_row w6 k5 3 _ _ (0,0) hx6];rfl
    have x4:w6.cell? ⟨k5,4,none⟩=some (.string va):=by rw [cell_of_row w6 k5 4 _ _ (0,0) hx6];rfl
    have x5:w6.cell? ⟨k5,5,none⟩=some (.int .i64 ex):=by rw [cell_of_row w6 k5 5 _ _ (0,0) hx6];rfl
    have x6:w6.cell? ⟨k5,6,none⟩=some (.int .i64 sp):=by rw [cell_of_row w6 k5 6 _ _ (0,0) hx6];rfl
    have x7:w6.cell? ⟨k5,7,none⟩=some (.int .i64 sl):=by rw [cell_of_row w6 k5 7 _ _ (0,0) hx6];rfl
    have x8:w6.cell? ⟨k5,8,none⟩=some (.int .i64 sw):=by rw [cell_of_row w6 k5 8 _ _ (0,0) hx6];rfl
    have x9:w6.cell? ⟨k5,9,none⟩=some (.slice xo n1 xc):=by rw [cell_of_row w6 k5 9 _ _ (0,0) hx6];rfl
    have HCR:=hid (show w6.ownsRow w.heap.size 42 10 (.slice oo k oc) k (R.flatMap enM) from by have h:=HC6.out.row;rw [hrl.out] at h;exact h)
    have HNEW:Hid (∀ j u,(enM y)[j]?=some u→(w6.alloc (.cells #[.int .i64 tb,.int .i64 kd,.string ky,.string fi,.string va,.int .i64 ex,.int .i64 sp,.int .i64 sl,.int .i64 sw,.slice xo n1 xc] 42)).cell? ((⟨w6.heap.size,0,none⟩:Addr).add j)=some u):=hid (by rw [HEY.out];exact new_cells _ _ _)
    have HONE:Hid (∀ u∈enM y,u.oneCell'=true):=hid (by rw [HEY.out];intro u hu;simp at hu;rcases hu with rfl | rfl | rfl | rfl | rfl | rfl | rfl | rfl | rfl | rfl <;> rfl)
    have hgs6:=HG6.out.size
    have HX6:=hid hx6
    clear hx6
    go_wp2_with (at_builtin;refine wpList_append_own _ rfl _ _ 22 rfl w.heap.size 42 i0 zeroM 10 120 Tryz.underlying22 HI.out.1 HI.out.2.1 HI.out.2.2.1 HI.out.2.2.2 rfl (by decide) (.slice oo k oc) _ _ rfl (HCR.out.alloc _) ⟨_,0,none⟩ 1 1 (enM y) rfl rfl ?c1 ?c2 ?c3 ?c4 ?c5 ?_;(case c1=>exact HNEW.out);(case c2=>exact HONE.out))
    case c3=>unfold maxLen;omega
    case c4=>omega
    case c5=>simp;omega
    intro v' w8 hown3 hgrow3 _
    obtain⟨Wa,hWa⟩:∃ W,W=w6.alloc (.cells #[.int .i64 tb,.int .i64 kd,.string ky,.string fi,.string va,.int .i64 ex,.int .i64 sp,.int .i64 sl,.int .i64 sw,.slice xo n1 xc] 42):=⟨_,rfl⟩
    have hba:Below w6.heap.size w6 Wa:=by rw [hWa];exact (Below.refl _ _).alloc (Nat.le_refl _) _
    rw [←hWa] at hgrow3
    have hrow:=row_below HCR.out hba
    have hov3:∀ z∈R++[y],w8.ownsRow w.heap.size 39 3 z.2 z.1.over.length (z.1.over.flatMap enS):=by
     intro z hz
     have hz1:w6.ownsRow w.heap.size 39 3 z.2 z.1.over.length (z.1.over.flatMap enS):=by
      rcases List.mem_append.1 hz with h | h
      · exact HC6.out.over z h
      · rw [List.mem_singleton.1 h];exact HO6.out
     exact (row_below hz1 hba).kept hgrow3 (rows_apart (row_below hz1 hba) hrow (by decide))
    have hlen:(R++[y]).length=k+1:=by rw [List.length_append,hrl.out];rfl
    have HR8:=hid (show Rdr w8 r v B (cu2.length,0) from (HR6.out.below hba).aside hgrow3 (fun j hj=>by have:=(World.ownsRow.lt hrow j hj).1;omega) (fun j hj hb ad n c e=>by have h1:=HR.out.vlow hb ad n c e;have h2:=(World.ownsRow.lt hrow j hj).1;omega))
    have HG8:=hid (show w.grownBy w8 (some r) from (HG6.out.andThen (below_grown (row:=some r) hba) (fun j hj=>Or.inr hj)).andThen hgrow3 (fun j hj=>Or.inl (World.ownsRow.lt hrow j hj).1))
    have x2:w8.cell? ⟨k5,2,none⟩=some (.string ky):=by
     have h1:w8.heap[k5]?=some (.cells #[.int .i64 tb,.int .i64 kd,.string ky,.string fi,.string va,.int .i64 ex,.int .i64 sp,.int .i64 sl,.int .i64 sw,.slice xo n1 xc] 42 (0,0)):=(hgrow3.block k5 (Nat.lt_of_lt_of_le (Array.getElem?_eq_some_iff.1 HX6.out).1 hba.size) HNE5.out).trans ((hba.block k5 (Array.getElem?_eq_some_iff.1 HX6.out).1).trans HX6.out)
     rw [cell_of_row w8 k5 2 _ _ (0,0) h1];rfl
    obtain⟨gg,gc,rfl⟩:=ownsRow_succ hown3
    have HC8:=hid (show Copied w8 (.slice (some ⟨gg,0,none⟩) (k+1) gc) (R++[y]) w.heap.size from ⟨by rw [hlen,List.flatMap_append,List.flatMap_singleton];exact hown3,hov3⟩)
    have HLN:=hid hlen
    have HM8:=hid (show (R++[y]).map (·.1)=l.take (k+1) from by rw [List.map_append,List.map_singleton,HY1.out];exact HTK.out)
    clear hown3 hgrow3 hov3 hlen hrow hba hWa x0 x1 x3 x4 x5 x6 x7 x8 x9
    go_wp2_with fail
    go_roundw
    case rel=>exact⟨k+1,ky,cu2,R++[y],some ⟨gg,0,none⟩,gc,by omega,by go_num,rfl,rfl,hmks,HWK,HLN,HM8,HCU,HR8,HC8,HG8⟩
    case measure=>simp [intOf];omega
   ·
    obtain⟨k',rfl⟩:∃ q,k=q+1:=⟨k - 1,by omega⟩
    have hk0i:(0:Int)<((k'+1:Nat):Int):=by omega
    have hk1:((k'+1:Nat):Int) - 1=(k':Int):=by omega
    have hkl:k'<R.length:=by rw [hrl.out];omega
    obtain⟨p,hp⟩:∃ p,R[k']?=some p:=⟨_,List.getElem?_eq_getElem hkl⟩
    obtain⟨hsib,hpsm⟩:=HPREV.out p (List.mem_of_getElem? hp)
    have hmr3:MRow W3 (.slice oo (k'+1) oc) R:=HC3.out.mrow
    obtain⟨pb,poff,hao,hat⟩:=hmr3.at_ hp
    cases hao
    have hpo:=hmr3.over p (List.mem_of_getElem? hp)
    obtain⟨qo,qc,pe,-,-⟩:=Over.form hpo
    obtain⟨pn,hpn⟩:∃ q,q=p.1.over.length:=⟨_,rfl⟩
    rw [←hpn] at pe
    have hvp:vM p=.agg #[.int .i64 p.1.table,.int .i64 p.1.kind,.string p.1.key,.string p.1.fin,.string p.1.val,.int .i64 p.1.expiry,.int .i64 p.1.at_.p,.int .i64 p.1.at_.l,.int .i64 p.1.at_.w,.slice qo pn qc]:=by unfold vM;rw [pe]
    obtain⟨cc,hcc⟩:∃ c,c=sibC p.1 y.1:=⟨_,rfl⟩
    have hcn:cc<0:=by rw [hcc,HY1.out];exact hsib
    have hovy:Over W3 y:=Over.own HO3.out
    have HCM:=hid (show ∀ z,Below W3.heap.size W3 z→Calls Tryz.prog 80 #[.agg #[.int .i64 p.1.table,.int .i64 p.1.kind,.string p.1.key,.string p.1.fin,.string p.1.val,.int .i64 p.1.expiry,.int .i64 p.1.at_.p,.int .i64 p.1.at_.l,.int .i64 p.1.at_.w,.slice qo pn qc],.agg #[.int .i64 tb,.int .i64 kd,.string ky,.string fi,.string va,.int .i64 ex,.int .i64 sp,.int .i64 sl,.int .i64 sw,.slice xo n1 xc]] z fun e w'=>e=.returned (.int .i64 cc)∧Below z.heap.size z w' from fun z hz=>by
     have h1:=memcompare_any p y z (hpo.below hz) (hovy.below hz) hpsm.over (by rw [HY1.out];exact HSM.out.over)
     rw [hvp,HVY.out,←hcc] at h1
     exact h1.mono fun _ _ ⟨a,b⟩=>⟨a,b.below⟩)
    obtain⟨hlp,b0,b1,b2,b3,b4,b5,b6,b7,b8,b9⟩:=hat
    rw [pe] at b9
    have hk0':(0:Int)≤(k':Int):=by omega
    have hk1':(k':Int)<((k'+1:Nat):Int):=by omega
    clear hp hsib hpsm hpo pe hvp hcc hovy hkl hpn
    refine wp_region_calm (by kernel_rfl) (by kernel_rfl) ?_
    repeat (go_big_quiet_step (first | (go_at_call 35;exact calm_same (HWY.out _ _ (HR3.out.below (BW.below _)))) | (go_at_call 80;exact calm (HCM.out _ (BW.below _)))))
    refine wpQuiet_nil ?_
    rintro _ ⟨z1,rfl⟩
    clear b0 b1 b2 b3 b4 b5 b6 b7 b8 b9
    obtain⟨w6,hw6⟩:∃ W,W=z1.at:=⟨_,rfl⟩
    have hz1:=z1.below
    rw [←hw6] at hz1 ⊢
    have HR6:=hid (HR3.out.below hz1)
    have HO6:=hid (row_below HO3.out hz1)
    have HC6:=hid (HC3.out.below hz1)
    have HG6:=hid (show w.grownBy w6 (some r) from HG3.out.andThen (below_grown (row:=none) hz1) (fun j hj=>by cases hj))
    have hx6:=(hz1.block k5 hk5l).trans HX3.out
    clear hz1 hw6 x0 x1 x2 x3 x4 x5 x6 x7 x8 x9
    go_wp2_with fail
    refine (HWY.out _ w6 HR6.out).mono ?_
    rintro e w7 ⟨rfl,h1⟩
    subst h1
    have x0:w6.cell? ⟨k5,0,none⟩=some (.int .i64 tb):=by rw [cell_of_row w6 k5 0 _ _ (0,0) hx6];rfl
    have x1:w6.cell? ⟨k5,1,none⟩=some (.int .i64 kd):=by rw [cell_of_row w6 k5 1 _ _ (0,0) hx6];rfl
    have x2:w6.cell? ⟨k5,2,none⟩=some (.string ky):=by rw [cell_of_row w6 k5 2 _ _ (0,0) hx6];rfl
    have x3:w6.cell? ⟨k5,3,none⟩=some (.string fi):=by rw [cell_of_row w6 k5 3 _ _ (0,0) hx6];rfl
    have x4:w6.cell? ⟨k5,4,none⟩=some (.string va):=by rw [cell_of_row w6 k5 4 _ _ (0,0) hx6];rfl
    have x5:w6.cell? ⟨k5,5,none⟩=some (.int .i64 ex):=by rw [cell_of_row w6 k5 5 _ _ (0,0) hx6];rfl
    have x6:w6.cell? ⟨k5,6,none⟩=some (.int .i64 sp):=by rw [cell_of_row w6 k5 6 _ _ (0,0) hx6];rfl
    have x7:w6.cell? ⟨k5,7,none⟩=some (.int .i64 sl):=by rw [cell_of_row w6 k5 7 _ _ (0,0) hx6];rfl
    have x8:w6.cell? ⟨k5,8,none⟩=some (.int .i64 sw):=by rw [cell_of_row w6 k5 8 _ _ (0,0) hx6];rfl
    have x9:w6.cell? ⟨k5,9,none⟩=some (.slice xo n1 xc):=by rw [cell_of_row w6 k5 9 _ _ (0,0) hx6];rfl
    have HCR:=hid (show w6.ownsRow w.heap.size 42 10 (.slice (some ⟨pb,poff,none⟩) (k'+1) oc) (k'+1) (R.flatMap enM) from by have h:=HC6.out.row;rw [hrl.out] at h;exact h)
    have HNEW:Hid (∀ j u,(enM y)[j]?=some u→(w6.alloc (.cells #[.int .i64 tb,.int .i64 kd,.string ky,.string fi,.string va,.int .i64 ex,.int .i64 sp,.int .i64 sl,.int .i64 sw,.slice xo n1 xc] 42)).cell? ((⟨w6.heap.size,0,none⟩:Addr).add j)=some u):=hid (by rw [HEY.out];exact new_cells _ _ _)
    have HONE:Hid (∀ u∈enM y,u.oneCell'=true):=hid (by rw [HEY.out];intro u hu;simp at hu;rcases hu with rfl | rfl | rfl | rfl | rfl | rfl | rfl | rfl | rfl | rfl <;> rfl)
    have hgs6:=HG6.out.size
    have HX6:=hid hx6
    clear hx6
    go_wp2_with (at_builtin;refine wpList_append_own _ rfl _ _ 22 rfl w.heap.size 42 i0 zeroM 10 120 Tryz.underlying22 HI.out.1 HI.out.2.1 HI.out.2.2.1 HI.out.2.2.2 rfl (by decide) (.slice (some ⟨pb,poff,none⟩) (k'+1) oc) _ _ rfl (HCR.out.alloc _) ⟨_,0,none⟩ 1 1 (enM y) rfl rfl ?c1 ?c2 ?c3 ?c4 ?c5 ?_;(case c1=>exact HNEW.out);(case c2=>exact HONE.out))
    case c3=>unfold maxLen;omega
    case c4=>omega
    case c5=>simp;omega
    intro v' w8 hown3 hgrow3 _
    obtain⟨Wa,hWa⟩:∃ W,W=w6.alloc (.cells #[.int .i64 tb,.int .i64 kd,.string ky,.string fi,.string va,.int .i64 ex,.int .i64 sp,.int .i64 sl,.int .i64 sw,.slice xo n1 xc] 42):=⟨_,rfl⟩
    have hba:Below w6.heap.size w6 Wa:=by rw [hWa];exact (Below.refl _ _).alloc (Nat.le_refl _) _
    rw [←hWa] at hgrow3
    have hrow:=row_below HCR.out hba
    have hov3:∀ z∈R++[y],w8.ownsRow w.heap.size 39 3 z.2 z.1.over.length (z.1.over.flatMap enS):=by
     intro z hz
     have hz1:w6.ownsRow w.heap.size 39 3 z.2 z.1.over.length (z.1.over.flatMap enS):=by
      rcases List.mem_append.1 hz with h | h
      · exact HC6.out.over z h
      · rw [List.mem_singleton.1 h];exact HO6.out
     exact (row_below hz1 hba).kept hgrow3 (rows_apart (row_below hz1 hba) hrow (by decide))
    have hlen:(R++[y]).length=(k'+1)+1:=by rw [List.length_append,hrl.out];rfl
    have HR8:=hid (show Rdr w8 r v B (cu2.length,0) from (HR6.out.below hba).aside hgrow3 (fun j hj=>by have:=(World.ownsRow.lt hrow j hj).1;omega) (fun j hj hb ad n c e=>by have h1:=HR.out.vlow hb ad n c e;have h2:=(World.ownsRow.lt hrow j hj).1;omega))
    have HG8:=hid (show w.grownBy w8 (some r) from (HG6.out.andThen (below_grown (row:=some r) hba) (fun j hj=>Or.inr hj)).andThen hgrow3 (fun j hj=>Or.inl (World.ownsRow.lt hrow j hj).1))
    have x2:w8.cell? ⟨k5,2,none⟩=some (.string ky):=by
     have h1:w8.heap[k5]?=some (.cells #[.int .i64 tb,.int .i64 kd,.string ky,.string fi,.string va,.int .i64 ex,.int .i64 sp,.int .i64 sl,.int .i64 sw,.slice xo n1 xc] 42 (0,0)):=(hgrow3.block k5 (Nat.lt_of_lt_of_le (Array.getElem?_eq_some_iff.1 HX6.out).1 hba.size) HNE5.out).trans ((hba.block k5 (Array.getElem?_eq_some_iff.1 HX6.out).1).trans HX6.out)
     rw [cell_of_row w8 k5 2 _ _ (0,0) h1];rfl
    obtain⟨gg,gc,rfl⟩:=ownsRow_succ hown3
    have HC8:=hid (show Copied w8 (.slice (some ⟨gg,0,none⟩) ((k'+1)+1) gc) (R++[y]) w.heap.size from ⟨by rw [hlen,List.flatMap_append,List.flatMap_singleton];exact hown3,hov3⟩)
    have HLN:=hid hlen
    have HM8:=hid (show (R++[y]).map (·.1)=l.take ((k'+1)+1) from by rw [List.map_append,List.map_singleton,HY1.out];exact HTK.out)
    clear hown3 hgrow3 hov3 hlen hrow hba hWa x0 x1 x3 x4 x5 x6 x7 x8 x9
    go_wp2_with fail
    go_roundw
    case rel=>exact⟨(k'+1)+1,ky,cu2,R++[y],some ⟨gg,0,none⟩,gc,by omega,by go_num,rfl,rfl,hmks,HWK,HLN,HM8,HCU,HR8,HC8,HG8⟩
    case measure=>simp [intOf];omega
  ·
   obtain rfl:k=n:=by omega
   have HP:=hid (show cur.length=pz from by
    have h1:=hcu.out
    rw [List.drop_of_length_le (by have:=HN.out;omega)] at h1
    exact HPZ.out cur h1)
   have HM9:=hid (show R.map (·.1)=l from by rw [hrm.out];exact List.take_of_length_le (by have:=HN.out;omega))
   rw [HP.out] at hrd
   go_wp2_with fail
   refine (HWY.out _ wr hrd.out).mono ?_
   rintro e w2 ⟨rfl,h1⟩
   subst h1
   go_wp2_with fail
   go_ret
   exact⟨_,R,rfl,HM9.out,hcp.out,hrd.out,hgr.out⟩
end Go.Proofs.YtpeoonnglnchnaaGreatDoor.Tab
