/- page.Put: a page behind no bytes (layer 15). PRINTED by wip/gentabput.py. · How many bytes two keys share: cenotaphref15.shared (layer 15). PRINTED by wip/gentabrefshared.py. · The document's page: cenotaphref15.Put (layer 15). PRINTED by wip/gentabrefput.py. · The document's rows of a table: cenotaphref16.Rows (layer 16). · The document's Keys of rows: each key once (layer 16). -/
import Derived.Test.YtpeoonnglnchnaaGreatDoorPkTabPage
import Derived.Test.YtpeoonnglnchnaaGreatDoorPkTabKeys
import Derived.Test.YtpeoonnglnchnaaGreatDoorTabShared
import Derived.Test.YtpeoonnglnchnaaGreatDoorPkSpareAny
import Derived.Test.YtpeoonnglnchnaaGreatDoorTabRefSort
import Derived.Test.YtpeoonnglnchnaaGreatDoorRefState
import Derived.Test.YtpeoonnglnchnaaGreatDoorPkRegSp2
set_option maxHeartbeats 16000000
set_option maxRecDepth 100000
set_option linter.unusedSimpArgs false
set_option linter.unusedVariables false
namespace Go.Proofs.YtpeoonnglnchnaaGreatDoor.Tab
open Go.Lib (hid)
open Go.RowKit Go.Proofs.YtpeoonnglnchnaaGreatDoor.Spare Go.Proofs.YtpeoonnglnchnaaGreatDoor.RegInv Go.Proofs.YtpeoonnglnchnaaGreatDoor.Mut Go.Proofs.YtpeoonnglnchnaaGreatDoor.Mrk
set_option linter.unusedSectionVars false
variable [Inhabited Lim]
theorem pageL_drop {R:List Ro} {k:Nat} {x:Ro} (h:R[k]?=some x) (last:ByteArray):pageL last ((R.drop k).map (·.1))=rowB last x.1++pageL x.1.key ((R.drop (k+1)).map (·.1)):=by
 obtain⟨hi,he⟩:=List.getElem?_eq_some_iff.1 h
 rw [List.drop_eq_getElem_cons hi,he]
 rfl
theorem pageput_any (rv:Value) (R:List Ro) (w:World) (hr:MRow w rv R) (hnum:∀ x∈R,NumM x.1) (hwell:∀ x∈R,Well x.1.key) (hn:R.length≤500) (hsmall:(pageB (R.map (·.1))).length≤500000) :
  Calls Tryz.prog 45 #[.slice none 0 0,rv] w fun e w'=>∃ v',e=.returned v'∧OwnB w' w.heap.size v' (pageB (R.map (·.1)))∧Below w.heap.size w w':=by
 obtain⟨ro,cap,rfl,-,-⟩:=hr.form
 obtain⟨n,hnr⟩:∃ k,k=R.length:=⟨_,rfl⟩
 rw [←hnr] at hr hn ⊢
 have HR:=hid hr
 have HN:=hid hnr
 have HNU:=hid hnum
 have HWE:=hid hwell
 have HPU:=hid (Rd.put_nil w n (by omega))
 obtain⟨T,hT⟩:∃ T,T=pageB (R.map (·.1)):=⟨_,rfl⟩
 rw [←hT] at hsmall ⊢
 have HT:=hid (show putF n++pageL ByteArray.empty ((R.drop 0).map (·.1))=T from by rw [hT,hnr];unfold pageB;rw [List.length_map];rfl)
 obtain⟨B,hB⟩:∃ B,B=w.heap.size:=⟨_,rfl⟩
 have HB:=hid hB
 clear hr hnr hnum hwell hT
 go_enter Tryz.func45,Tryz.ntmps45
 go_wp2_with fail
 refine HPU.out.mono ?_
 rintro e w1 ⟨v1,rfl,ho1,hb1⟩
 have HO1:=hid (show OwnB w1 B v1 (putF n) from by rw [hB];exact ho1)
 have HB1:=hid hb1
 clear ho1 hb1 HPU
 go_wp2_with fail
 go_loopw [0,5,15] (fun ov sv iv wr=>∃ (k:Nat) (last:ByteArray) (cur:List Nat),k≤n∧iv=.int .i64 k∧sv=.string last∧last.size≤1000∧cur.length≤500000∧Hid (Well last)∧Hid (cur++pageL last ((R.drop k).map (·.1))=T)∧Hid (OwnB wr B ov cur)∧Hid (Below w.heap.size w wr)) (fun _ _ iv _=>n - (intOf iv).toNat)
 case atStart=>exact⟨0,ByteArray.empty,putF n,by omega,rfl,rfl,by simp,by have:=congrArg List.length HT.out;rw [List.length_append] at this;omega,hid well_empty,HT,HO1,HB1⟩
 case round=>
  obtain⟨k,last,cur,hk,rfl,rfl,hls,hcl,hwl,hcur,ho,hb⟩:=hrel
  by_cases hlt:k<n
  ·
   have hkr:k<R.length:=by have:=HN.out;omega
   obtain⟨x,hx⟩:∃ x,R[k]?=some x:=⟨_,List.getElem?_eq_getElem hkr⟩
   have hmr:MRow wr (.slice ro n cap) R:=HR.out.below hb.out
   obtain⟨xb,xoff,hao,hat⟩:=hmr.at_ hx
   cases hao
   have hxm:=List.mem_of_getElem? hx
   have hov0:=HR.out.over x hxm
   obtain⟨xo,xc,xe,-,-⟩:=Over.form hov0
   have HOV:=hid hov0
   have HNX:=hid (HNU.out x hxm)
   have hwx:=HWE.out x hxm
   have hksz:=HNX.out.key
   obtain⟨nn,hnn⟩:∃ m,m=sharedF last x.1.key:=⟨_,rfl⟩
   have hnk:nn≤x.1.key.size:=by rw [hnn];exact sharedF_le2 last hwx
   have hstep:=hcur.out
   rw [pageL_drop hx last] at hstep
   unfold rowB at hstep
   rw [←hnn] at hstep
   obtain⟨l1,e1⟩:∃ l,l=cur++putF nn:=⟨_,rfl⟩
   obtain⟨l2,e2⟩:∃ l,l=l1++textF (x.1.key.extract nn x.1.key.size):=⟨_,rfl⟩
   obtain⟨l3,e3⟩:∃ l,l=l2++restM x.1:=⟨_,rfl⟩
   have hnext:l3++pageL x.1.key ((R.drop (k+1)).map (·.1))=T:=by rw [e3,e2,e1,←hstep];simp [List.append_assoc]
   have y3:l3.length≤500000:=by have:=congrArg List.length hnext;rw [List.length_append] at this;omega
   have y2:l2.length≤500000:=by rw [e3,List.length_append] at y3;omega
   have y1:l1.length≤500000:=by rw [e2,List.length_append] at y2;omega
   have hesz:(x.1.key.extract nn x.1.key.size).size≤1000:=by rw [ByteArray.size_extract];omega
   have HVM:=hid (show vM x=.agg #[.int .i64 x.1.table,.int .i64 x.1.kind,.string x.1.key,.string x.1.fin,.string x.1.val,.int .i64 x.1.expiry,.int .i64 x.1.at_.p,.int .i64 x.1.at_.l,.int .i64 x.1.at_.w,.slice xo x.1.over.length xc] from by unfold vM;rw [xe])
   obtain⟨hbl0,a0,a1,a2,a3,a4,a5,a6,a7,a8,a9⟩:=hat
   rw [xe] at a9
   have hsh:=fun z=>shared_any last x.1.key z (by omega) (by omega) hwl.out hwx
   rw [←hnn] at hsh
   obtain⟨ky,hky⟩:∃ ky,ky=x.1.key:=⟨_,rfl⟩
   obtain⟨xn,hxn⟩:∃ m,m=x.1.over.length:=⟨_,rfl⟩
   rw [←hky] at a2 hnk hksz hsh e2 hesz HVM hnext hwx
   rw [←hxn] at a9 HVM
   have HSH:=hid hsh
   have E1:=hid e1
   have E2:=hid e2
   have E3:=hid e3
   have HNEXT:=hid hnext
   have HWX:=hid hwx
   have j0:(0:Int)≤(k:Int):=by omega
   have j1:(k:Int)<(n:Int):=by omega
   have hnn62:nn<9223372036854775808:=by omega
   clear hmr hx hxm hov0 xe hkr hstep hsh e1 e2 e3 hnn hnext hwx hky hxn
   obtain⟨W2,hW2⟩:∃ W,W=wr.alloc (.cells #[.int .i64 x.1.table,.int .i64 x.1.kind,.string ky,.string x.1.fin,.string x.1.val,.int .i64 x.1.expiry,.int .i64 x.1.at_.p,.int .i64 x.1.at_.l,.int .i64 x.1.at_.w,.slice xo xn xc] 42):=⟨_,rfl⟩
   obtain⟨k3,hk3⟩:∃ k,k=wr.heap.size:=⟨_,rfl⟩
   have hb2:Below wr.heap.size wr W2:=by rw [hW2];exact (Below.refl _ wr).alloc (Nat.le_refl _) _
   have hbx:W2.heap[k3]?=some (.cells #[.int .i64 x.1.table,.int .i64 x.1.kind,.string ky,.string x.1.fin,.string x.1.val,.int .i64 x.1.expiry,.int .i64 x.1.at_.p,.int .i64 x.1.at_.l,.int .i64 x.1.at_.w,.slice xo xn xc] 42 (0,0)):=by rw [hW2,hk3];exact heap_alloc_new wr _
   have HO2:=hid (ho.out.below hb2)
   have HB2:=hid (below_then hb.out (Nat.le_refl _) hb2)
   have HBX2:=hid hbx
   have HW2:=hid hW2
   have HK3:=hid hk3
   clear hb2 hbx hW2 hk3 ho hb hcur
   go_upto_region 6 with fail
   rw [←HW2.out,←HK3.out]
   have m2:W2.cell? ⟨k3,2,none⟩=some (.string ky):=by rw [cell_of_row W2 k3 2 _ _ (0,0) HBX2.out];rfl
   clear a0 a1 a2 a3 a4 a5 a6 a7 a8 a9 hbl0 HW2 HK3
   go_wp2_with fail
   refine (HSH.out _).mono ?_
   rintro e W3 ⟨rfl,hb3⟩
   obtain⟨vo,vc,hvv⟩:=HO2.out.form
   subst hvv
   obtain⟨kb,hkb⟩:∃ q,q=cur.length:=⟨_,rfl⟩
   rw [←hkb] at HO2 ⊢
   have HTY:=hid (show 42≠5 from by decide)
   have HBX:=hid (show BoxG W3 (Value.slice vo kb vc).ownBlock k3 #[.int .i64 x.1.table,.int .i64 x.1.kind,.string ky,.string x.1.fin,.string x.1.val,.int .i64 x.1.expiry,.int .i64 x.1.at_.p,.int .i64 x.1.at_.l,.int .i64 x.1.at_.w,.slice xo xn xc] 42 W3.drew from ⟨World.grownBy.andThen (World.grownBy.refl _ _) (Mrk.grown_below (row:=none) (Below.refl _ _).drew) (fun j hj=>by cases hj),(hb3.block k3 (Array.getElem?_eq_some_iff.1 HBX2.out).1).trans HBX2.out⟩)
   have HRW:=hid (show RowG W3 B (.slice vo kb vc) cur (.slice vo kb vc) W3.drew from ⟨(HO2.out.below hb3).below (Below.refl _ _).drew,fun g hg=>Or.inl hg⟩)
   have HB3:=hid (below_then HB2.out (Nat.le_refl _) hb3)
   have HBS:=hid (show B≤W3.heap.size from by rw [HB.out];exact HB3.out.size)
   have hcm:∀ a b,BoxG W3 (Value.slice vo kb vc).ownBlock k3 #[.int .i64 x.1.table,.int .i64 x.1.kind,.string ky,.string x.1.fin,.string x.1.val,.int .i64 x.1.expiry,.int .i64 x.1.at_.p,.int .i64 x.1.at_.l,.int .i64 x.1.at_.w,.slice xo xn xc] 42 a→Below a.heap.size a b→BoxG W3 (Value.slice vo kb vc).ownBlock k3 #[.int .i64 x.1.table,.int .i64 x.1.kind,.string ky,.string x.1.fin,.string x.1.val,.int .i64 x.1.expiry,.int .i64 x.1.at_.p,.int .i64 x.1.at_.l,.int .i64 x.1.at_.w,.slice xo xn xc] 42 b:=fun a b h hb=>h.later hb
   have hpr:∀ (c:Nat) (z:Value) (lz:List Nat) (j:Nat) (a b:World),(j=c→(fun W=>RowG W3 B (.slice vo kb vc) lz z W) a)→Below a.heap.size a b→(j=c→(fun W=>RowG W3 B (.slice vo kb vc) lz z W) b):=fun c z lz j a b h hb e=>(h e).below hb
   have HOW:=hid (show ∀ W,BoxG W3 (Value.slice vo kb vc).ownBlock k3 #[.int .i64 x.1.table,.int .i64 x.1.kind,.string ky,.string x.1.fin,.string x.1.val,.int .i64 x.1.expiry,.int .i64 x.1.at_.p,.int .i64 x.1.at_.l,.int .i64 x.1.at_.w,.slice xo xn xc] 42 W→Below w.heap.size w W from fun W hW=>HB3.out.grown hW.grown HB3.out.size (fun q hq=>by
    have:=(World.ownsRow.lt HRW.out.1 q hq).1
    have:=HB.out
    omega))
   have HKB:=hid hkb
   clear hb3 m2 hkb
   go_upto_region 7 with fail
   refine RegLin.wp_region_lin (RegLin.useL [(2,7),(7,9)]) (fun W=>BoxG W3 (Value.slice vo kb vc).ownBlock k3 #[.int .i64 x.1.table,.int .i64 x.1.kind,.string ky,.string x.1.fin,.string x.1.val,.int .i64 x.1.expiry,.int .i64 x.1.at_.p,.int .i64 x.1.at_.l,.int .i64 x.1.at_.w,.slice xo xn xc] 42 W) (fun j W=>j=2→(fun W=>RowG W3 B (.slice vo kb vc) cur (.slice vo kb vc) W) W) 10 [false,false,false,false,false,false,false,false,false,false,false,false,false,false,false,false,false,false,false,false,false,false,false,true,true,true,true,true,true,true,true,true,true,false,false,false,false]
    [sLit (.slice vo kb vc),
  sLit (.int .i64 (nn:Nat)),
  sRow W3 B (.slice vo kb vc) (l1),
  sLit (.pointer (some ⟨k3,2,none⟩)),
  sLit (.string ky),
  sLit (.int .i64 (nn:Nat)),
  sLit (.string (ky.extract nn ky.size)),
  sRow W3 B (.slice vo kb vc) (l2),
  sLit (.agg #[.int .i64 x.1.table,.int .i64 x.1.kind,.string ky,.string x.1.fin,.string x.1.val,.int .i64 x.1.expiry,.int .i64 x.1.at_.p,.int .i64 x.1.at_.l,.int .i64 x.1.at_.w,.slice xo xn xc]),
  sRow W3 B (.slice vo kb vc) (l3)] (HBX.out) (fun j _ _=>HRW.out) (by kernel_rfl) (by kernel_rfl) (by kernel_rfl) (by kernel_rfl) (fun F hF=>?_)
   simp only [over,overL,Nat.reduceAdd] at hF
   obtain rfl:=funext hF
   clear hF
   refine⟨⟨?_,?_,?_,?_,?_,?_,?_,?_,?_,?_,trivial⟩,?_⟩
   ·
    intro V W hc hp hd K hK _
    clear hd
    go_wp2_with fail
    exact hK _ _ rfl (RegLin.keeps_below hcm (hpr 2 _ _) hc (Below.refl _ _)) rfl
   ·
    intro V W hc hp hd K hK _
    clear hd
    go_wp2_with fail
    exact hK _ _ rfl (RegLin.keeps_below hcm (hpr 2 _ _) hc (Below.refl _ _)) rfl
   ·
    intro V W hc hp hd K hK _
    have h0:(V 23)=.slice vo kb vc:=hd 0 (by decide) (by kernel_rfl) (RegLin.useL_ok (by kernel_rfl))
    have h1:(V 24)=.int .i64 (nn:Nat):=hd 1 (by decide) (by kernel_rfl) (RegLin.useL_ok (by kernel_rfl))
    clear hd
    skip
    have hr:RowG W3 B (.slice vo kb vc) _ _ W:=(hp rfl)
    have hbw:B≤W.heap.size:=Nat.le_trans HBS.out hc.grown.size
    have HR:=hid hr
    have HC:=hid hc
    clear hr hp hc
    go_wp2_with fail
    refine ((by have h:=put_onto nn B _ cur W hnn62 HR.out.1 hbw (by omega);rw [←E1.out] at h;exact h:Calls _ _ _ W (OnPost B _ l1 W))).mono ?_
    rintro e w1 ⟨v1,rfl,g1,g2,g3⟩
    have hN:=rowG_next HC.out HTY.out HR.out g1 g2 g3
    go_wp2_with fail
    refine hK _ _ ?_ ?_ ?_
    · rfl
    ·
     refine RegLin.keeps_by hN.1 (by kernel_rfl) (fun j hj hne hl h=>?_)
     iterate 10 (rcases j with _ | j;first | exact h | exact absurd rfl hne | exact Bool.noConfusion (hl.symm.trans (show RegLin.liveB _ _ _ _ _=false from by kernel_rfl)))
     exact absurd hj (by omega)
    · exact hN.2
   ·
    intro V W hc hp hd K hK _
    clear hd
    go_wp2_with fail
    exact hK _ _ rfl (RegLin.keeps_below hcm (hpr 2 _ _) hc (Below.refl _ _)) rfl
   ·
    intro V W hc hp hd K hK _
    have h3:(V 26)=.pointer (some ⟨k3,2,none⟩):=hd 3 (by decide) (by kernel_rfl) (RegLin.useL_ok (by kernel_rfl))
    clear hd
    obtain⟨m0,m1,m2,m3,m4,m5,m6,m7,m8,m9⟩:=(And.intro (hc.cell 0) (And.intro (hc.cell 1) (And.intro (hc.cell 2) (And.intro (hc.cell 3) (And.intro (hc.cell 4) (And.intro (hc.cell 5) (And.intro (hc.cell 6) (And.intro (hc.cell 7) (And.intro (hc.cell 8) (hc.cell 9))))))))))
    go_wp2_with fail
    exact hK _ _ rfl (RegLin.keeps_below hcm (hpr 2 _ _) hc (Below.refl _ _)) rfl
   ·
    intro V W hc hp hd K hK _
    clear hd
    go_wp2_with fail
    exact hK _ _ rfl (RegLin.keeps_below hcm (hpr 2 _ _) hc (Below.refl _ _)) rfl
   ·
    intro V W hc hp hd K hK _
    have h4:(V 27)=.string ky:=hd 4 (by decide) (by kernel_rfl) (RegLin.useL_ok (by kernel_rfl))
    have h5:(V 28)=.int .i64 (nn:Nat):=hd 5 (by decide) (by kernel_rfl) (RegLin.useL_ok (by kernel_rfl))
    clear hd
    go_wp2_with fail
    exact hK _ _ rfl (RegLin.keeps_below hcm (hpr 2 _ _) hc (Below.refl _ _)) rfl
   ·
    intro V W hc hp hd K hK _
    have h2:RowG W3 B (.slice vo kb vc) (l1) (V 25) W:=hd 2 (by decide) (by kernel_rfl) (RegLin.useL_ok (by kernel_rfl))
    have h6:(V 29)=.string (ky.extract nn ky.size):=hd 6 (by decide) (by kernel_rfl) (RegLin.useL_ok (by kernel_rfl))
    clear hd
    skip
    have hr:RowG W3 B (.slice vo kb vc) _ _ W:=h2
    have hbw:B≤W.heap.size:=Nat.le_trans HBS.out hc.grown.size
    have HR:=hid hr
    have HC:=hid hc
    clear hr hp hc h2
    go_wp2_with fail
    refine ((by have h:=text_onto (ky.extract nn ky.size) B _ l1 W (by omega) HR.out.1 hbw (by omega);rw [←E2.out] at h;exact h:Calls _ _ _ W (OnPost B _ l2 W))).mono ?_
    rintro e w1 ⟨v1,rfl,g1,g2,g3⟩
    have hN:=rowG_next HC.out HTY.out HR.out g1 g2 g3
    go_wp2_with fail
    refine hK _ _ ?_ ?_ ?_
    · rfl
    ·
     refine RegLin.keeps_by hN.1 (by kernel_rfl) (fun j hj hne hl h=>?_)
     iterate 10 (rcases j with _ | j;first | exact h | exact absurd rfl hne | exact Bool.noConfusion (hl.symm.trans (show RegLin.liveB _ _ _ _ _=false from by kernel_rfl)))
     exact absurd hj (by omega)
    · exact hN.2
   ·
    intro V W hc hp hd K hK _
    clear hd
    obtain⟨m0,m1,m2,m3,m4,m5,m6,m7,m8,m9⟩:=(And.intro (hc.cell 0) (And.intro (hc.cell 1) (And.intro (hc.cell 2) (And.intro (hc.cell 3) (And.intro (hc.cell 4) (And.intro (hc.cell 5) (And.intro (hc.cell 6) (And.intro (hc.cell 7) (And.intro (hc.cell 8) (hc.cell 9))))))))))
    go_wp2_with fail
    exact hK _ _ rfl (RegLin.keeps_below hcm (hpr 2 _ _) hc (Below.refl _ _)) rfl
   ·
    intro V W hc hp hd K hK _
    have h7:RowG W3 B (.slice vo kb vc) (l2) (V 30) W:=hd 7 (by decide) (by kernel_rfl) (RegLin.useL_ok (by kernel_rfl))
    have h8:(V 31)=.agg #[.int .i64 x.1.table,.int .i64 x.1.kind,.string ky,.string x.1.fin,.string x.1.val,.int .i64 x.1.expiry,.int .i64 x.1.at_.p,.int .i64 x.1.at_.l,.int .i64 x.1.at_.w,.slice xo xn xc]:=hd 8 (by decide) (by kernel_rfl) (RegLin.useL_ok (by kernel_rfl))
    clear hd
    skip
    have hr:RowG W3 B (.slice vo kb vc) _ _ W:=h7
    have hbw:B≤W.heap.size:=Nat.le_trans HBS.out hc.grown.size
    have HR:=hid hr
    have HC:=hid hc
    clear hr hp hc h7
    go_wp2_with fail
    refine ((by have h:=rest_ro x w W _ l2 HOV.out HNX.out (HOW.out W HC.out) (by rw [←HB.out];exact HR.out.1) (by omega);rw [←E3.out,HVM.out,←HB.out] at h;exact h:Calls _ _ _ W (OnPost B _ l3 W))).mono ?_
    rintro e w1 ⟨v1,rfl,g1,g2,g3⟩
    have hN:=rowG_next HC.out HTY.out HR.out g1 g2 g3
    go_wp2_with fail
    refine hK _ _ ?_ ?_ ?_
    · rfl
    ·
     refine RegLin.keeps_by hN.1 (by kernel_rfl) (fun j hj hne hl h=>?_)
     iterate 10 (rcases j with _ | j;first | exact h | exact absurd rfl hne | exact Bool.noConfusion (hl.symm.trans (show RegLin.liveB _ _ _ _ _=false from by kernel_rfl)))
     exact absurd hj (by omega)
    · exact hN.2
   ·
    intro V W hc hd
    have h9:RowG W3 B (.slice vo kb vc) (l3) (V 32) W:=hd 9 (by decide) rfl
    clear hd
    simp only [List.drop_succ_cons,List.drop_zero]
    have H9:=hid h9.1
    have HC:=hid hc
    have HBW:=hid (HOW.out W hc)
    have m2:W.cell? ⟨k3,2,none⟩=some (.string ky):=by rw [hc.cell 2];rfl
    clear h9 hc
    go_wp2_with fail
    go_roundw
    case rel=>exact⟨k+1,ky,l3,by omega,by go_num,rfl,hksz,y3,HWX,HNEXT,H9,HBW⟩
    case measure=>simp [intOf];omega
  ·
   obtain rfl:k=n:=by omega
   have HO9:=hid (show OwnB wr B _ T from by
    have h:=hcur.out
    rw [List.drop_of_length_le (by have:=HN.out;omega)] at h
    rw [←h]
    have e:pageL last (([]:List Ro).map (·.1))=[]:=rfl
    rw [e,List.append_nil]
    exact ho.out)
   go_wp2_with fail
   go_ret
   exact⟨_,rfl,by rw [←HB.out];exact HO9.out,hb.out⟩
end Go.Proofs.YtpeoonnglnchnaaGreatDoor.Tab

namespace Go.Proofs.YtpeoonnglnchnaaGreatDoor.Tab
open Go.RowKit Go.Lib Go.Proofs.YtpeoonnglnchnaaGreatDoor.RegInv
end Go.Proofs.YtpeoonnglnchnaaGreatDoor.Tab

namespace Go.Proofs.YtpeoonnglnchnaaGreatDoor.Tab
open Go.RowKit Go.Proofs.YtpeoonnglnchnaaGreatDoor.Spare Go.Proofs.YtpeoonnglnchnaaGreatDoor.RegInv Go.Proofs.YtpeoonnglnchnaaGreatDoor.Mut Go.Proofs.YtpeoonnglnchnaaGreatDoor.Mrk
set_option linter.unusedSectionVars false
variable [Inhabited Lim]
end Go.Proofs.YtpeoonnglnchnaaGreatDoor.Tab

namespace Go.Proofs.YtpeoonnglnchnaaGreatDoor.Mut
open Go.Lib (hid)
open Go.RowKit Go.Sort Go.Proofs.YtpeoonnglnchnaaGreatDoor.Ord Go.Proofs.YtpeoonnglnchnaaGreatDoor.RegInv
set_option linter.unusedSectionVars false
variable [Inhabited Lim]
theorem own_empty (w:World) (base:Nat) (hb:base≤w.heap.size):(w.alloc (.cells #[] 42)).ownsRow base 42 10 (.slice (some ⟨w.heap.size,0,none⟩) 0 0) 0 []:=
 ⟨rfl,Or.inr ⟨w.heap.size,0,#[],rfl,hb,heap_alloc_new w _,Nat.le_refl _,Nat.zero_le _,rfl,rfl⟩⟩
def OwnM (B:Nat) (l:List Ro) (v:Value) (W:World):Prop:=W.ownsRow B 42 10 v l.length (l.flatMap enM)
def sOwnM (B:Nat) (l:List Ro):RSpec:=sOne (OwnM B l) (fun _ _ _ h hb=>row_below h hb)
theorem refrows16_any (a b d:Value) (c:Con) (n:Nat) (w:World) (hc:Lies w a b d c) (hsm:∀ m∈c.cells++c.sibs,m.over.length≤1000000) (hd:(c.cells++c.sibs).Nodup) (hlen:(c.cells++c.sibs).length≤100000) :
  Calls Tryz.prog 11 #[.agg #[a,b,d]] w (RowsP w (c.cells++c.sibs)):=by
 obtain⟨ao,na,ac,rfl⟩:=hc.cells.slice
 obtain⟨bo,nb,bc,rfl⟩:=hc.wipes.slice
 obtain⟨dd,nd,dc,rfl⟩:=hc.sibs.slice
 obtain⟨A,eA,hA⟩:=hc.cells
 obtain⟨D,eD,hD⟩:=hc.sibs
 have eall:(A++D).map (·.1)=c.cells++c.sibs:=by rw [List.map_append,eA,eD]
 obtain⟨_,_,e1,-,-⟩:=hA.form
 obtain⟨rfl⟩:na=A.length:=by injection e1
 obtain⟨_,_,e2,-,-⟩:=hD.form
 obtain⟨rfl⟩:nd=D.length:=by injection e2
 have hl:A.length+D.length≤100000:=by rw [←eall,List.length_map,List.length_append] at hlen;exact hlen
 rw [←eall] at hd hsm ⊢
 have HSRT:=hid (fun (v:Value) (z:World) (hz:Below w.heap.size w z) (hv:MRow z v (A++D))=>refsort_any v (A++D) z hv hd (fun x hx=>hsm x.1 (List.mem_map.2 ⟨x,hx,rfl⟩)) (by rw [List.length_append];exact hl))
 have HR:=hid (And.intro hA hD)
 clear hA hD eA eD e1 e2 hc hd hsm hlen eall
 obtain⟨p,hp⟩:∃ p,p=A.length:=⟨_,rfl⟩
 obtain⟨q,hq⟩:∃ p,p=D.length:=⟨_,rfl⟩
 rw [←hp,←hq] at HR hl ⊢
 have HPQ:=hid (And.intro hp hq)
 clear hp hq
 obtain⟨W1,hW1⟩:∃ W,W=w.alloc (.cells #[.slice ao p ac,.slice bo nb bc,.slice dd q dc] 25):=⟨_,rfl⟩
 obtain⟨k,hk⟩:∃ k,k=w.heap.size:=⟨_,rfl⟩
 have hc3:C3 W1 k (.slice ao p ac) (.slice bo nb bc) (.slice dd q dc):=by rw [hW1,hk];exact C3.newR _ _ _ _
 have hb1:Below w.heap.size w W1:=by rw [hW1];exact (Below.refl _ _).alloc (Nat.le_refl _) _
 have hs1:W1.heap.size=w.heap.size+1:=by rw [hW1];simp
 have HW1:=hid hW1
 have HB1:=hid hb1
 have HK:=hid hk
 have HS1:=hid hs1
 clear hW1 hb1 hk hs1
 obtain⟨hk0,c0,c1,c2,-⟩:=hc3
 go_enter Tryz.func11,Tryz.ntmps11
 go_upto_region 1 with fail
 rw [←HW1.out,←HK.out]
 obtain⟨B,hB⟩:∃ B,B=W1.heap.size:=⟨_,rfl⟩
 have HBS:=hid (show ∀ W,Below B W1 W→B≤W.heap.size from fun W hW=>by rw [hB];exact hW.size)
 have hcm:∀ a b,Below B W1 a→Below a.heap.size a b→Below B W1 b:=fun a b h hb=>below_then h (by rw [hB];exact Nat.le_refl _) hb
 have hpr:∀ (j:Nat) (a b:World),(j=0→(fun _=>True) a)→Below a.heap.size a b→(j=0→(fun _=>True) b):=fun _ _ _ _ _ _=>trivial
 have HWW:=hid (show ∀ W,Below B W1 W→Below w.heap.size w W from fun W hW=>below_then HB1.out (Nat.le_refl _) (by rw [hB] at hW;exact hW))
 have HC3:=hid (show ∀ W,Below B W1 W→W.cell? ⟨k,0,none⟩=some (.slice ao p ac)∧W.cell? ⟨k,2,none⟩=some (.slice dd q dc) from fun W hW=>by
  rw [hB] at hW
  exact⟨(hW.cell (p:=⟨k,0,none⟩) hk0).trans c0,(hW.cell (p:=⟨k,2,none⟩) hk0).trans c2⟩)
 clear c0 c1 c2 HW1 hB
 refine RegLin.wp_region_lin (RegLin.useL [(0,3),(3,6)]) (fun W=>Below B W1 W) (fun j W=>j=0→(fun _=>True) W) 7 [false,false,false,true,true,true,true,true,true,true,false]
  [sOwnM B ([]),
  sLit (.pointer (some ⟨k,0,none⟩)),
  sLit (.slice ao p ac),
  sOwnM B (A),
  sLit (.pointer (some ⟨k,2,none⟩)),
  sLit (.slice dd q dc),
  sOwnM B (A++D)] ((Below.refl _ _).drew) (fun j _ _=>trivial) (by kernel_rfl) (by kernel_rfl) (by kernel_rfl) (by kernel_rfl) (fun F hF=>?_)
 simp only [over,overL,Nat.reduceAdd] at hF
 obtain rfl:=funext hF
 clear hF
 refine⟨⟨?_,?_,?_,?_,?_,?_,?_,trivial⟩,?_⟩
 ·
  intro V W hc hp hd K hK _
  clear hd
  have hbw:B≤W.heap.size:=HBS.out W hc
  have HC:=hid hc
  clear hc hp
  go_wp2_with fail
  refine hK _ _ ?_ ?_ ?_
  · rfl
  · exact RegLin.keeps_below hcm hpr HC.out ((Below.refl _ _).alloc (Nat.le_refl _) _)
  · exact own_empty W B hbw
 ·
  intro V W hc hp hd K hK _
  clear hd
  go_wp2_with fail
  exact hK _ _ rfl (RegLin.keeps_below hcm hpr hc (Below.refl _ _)) rfl
 ·
  intro V W hc hp hd K hK _
  have h1:(V 4)=.pointer (some ⟨k,0,none⟩):=hd 1 (by decide) (by kernel_rfl) (RegLin.useL_ok (by kernel_rfl))
  clear hd
  obtain⟨c0,c2⟩:=HC3.out W hc
  go_wp2_with fail
  exact hK _ _ rfl (RegLin.keeps_below hcm hpr hc (Below.refl _ _)) rfl
 ·
  intro V W hc hp hd K hK _
  have h0:OwnM B ([]) (V 3) W:=hd 0 (by decide) (by kernel_rfl) (RegLin.useL_ok (by kernel_rfl))
  have h2:(V 5)=.slice ao p ac:=hd 2 (by decide) (by kernel_rfl) (RegLin.useL_ok (by kernel_rfl))
  clear hd
  have hbw:B≤W.heap.size:=HBS.out W hc
  have HA:=hid h0
  have e2:=h2
  have HC:=hid hc
  have HSRC:=hid (HR.out.1.below (HWW.out W hc))
  clear hc hp h0 h2
  go_wp2_with (at_builtin;refine wpList_append_rows rfl (.tmp 3) (.tmp 5) rfl B (V 3) 0 ((([]:List Ro)).flatMap enM) rfl HA.out _ _ _ A (by first | exact e2 | rfl) HSRC.out (by omega) hbw ?_)
  intro v1 w1 g1 g2
  have G1:=hid (show OwnM B (A) v1 w1 from (by unfold OwnM;rw [←HPQ.out.1];simpa using g1))
  have G2:=hid (show Below B W1 w1 from HC.out.grown g2 hbw (fun k hk=>(World.ownsRow.lt HA.out k hk).1))
  clear g1 g2
  go_wp2_with fail
  refine hK _ _ ?_ ?_ ?_
  · rfl
  ·
   refine RegLin.keeps_by G2.out (by kernel_rfl) (fun j hj hne hl h=>?_)
   iterate 7 (rcases j with _ | j;first | exact h | exact absurd rfl hne | exact Bool.noConfusion (hl.symm.trans (show RegLin.liveB _ _ _ _ _=false from by kernel_rfl)))
   exact absurd hj (by omega)
  · exact G1.out
 ·
  intro V W hc hp hd K hK _
  clear hd
  go_wp2_with fail
  exact hK _ _ rfl (RegLin.keeps_below hcm hpr hc (Below.refl _ _)) rfl
 ·
  intro V W hc hp hd K hK _
  have h4:(V 7)=.pointer (some ⟨k,2,none⟩):=hd 4 (by decide) (by kernel_rfl) (RegLin.useL_ok (by kernel_rfl))
  clear hd
  obtain⟨c0,c2⟩:=HC3.out W hc
  go_wp2_with fail
  exact hK _ _ rfl (RegLin.keeps_below hcm hpr hc (Below.refl _ _)) rfl
 ·
  intro V W hc hp hd K hK _
  have h3:OwnM B (A) (V 6) W:=hd 3 (by decide) (by kernel_rfl) (RegLin.useL_ok (by kernel_rfl))
  have h5:(V 8)=.slice dd q dc:=hd 5 (by decide) (by kernel_rfl) (RegLin.useL_ok (by kernel_rfl))
  clear hd
  have hbw:B≤W.heap.size:=HBS.out W hc
  have HA:=hid (show W.ownsRow B 42 10 (V 6) p (A.flatMap enM) from by rw [HPQ.out.1];exact h3)
  have e2:=h5
  have HC:=hid hc
  have HSRC:=hid (HR.out.2.below (HWW.out W hc))
  clear hc hp h3 h5
  go_wp2_with (at_builtin;refine wpList_append_rows rfl (.tmp 6) (.tmp 8) rfl B (V 6) p ((A).flatMap enM) rfl HA.out _ _ _ D (by first | exact e2 | rfl) HSRC.out (by omega) hbw ?_)
  intro v1 w1 g1 g2
  have G1:=hid (show OwnM B (A++D) v1 w1 from (by unfold OwnM;rw [List.length_append,←HPQ.out.1,←HPQ.out.2,List.flatMap_append];exact g1))
  have G2:=hid (show Below B W1 w1 from HC.out.grown g2 hbw (fun k hk=>(World.ownsRow.lt HA.out k hk).1))
  clear g1 g2
  go_wp2_with fail
  refine hK _ _ ?_ ?_ ?_
  · rfl
  ·
   refine RegLin.keeps_by G2.out (by kernel_rfl) (fun j hj hne hl h=>?_)
   iterate 7 (rcases j with _ | j;first | exact h | exact absurd rfl hne | exact Bool.noConfusion (hl.symm.trans (show RegLin.liveB _ _ _ _ _=false from by kernel_rfl)))
   exact absurd hj (by omega)
  · exact G1.out
 ·
  intro V W hc hd
  have h6:OwnM B (A++D) (V 9) W:=hd 6 (by decide) rfl
  clear hd
  simp only [List.drop_succ_cons,List.drop_zero]
  have H9:=hid h6
  have HBW:=hid (HWW.out W hc)
  have hm:MRow W (V 9) (A++D):=own_mrow h6 (fun x hx=>by
   rcases List.mem_append.1 hx with h | h
   · exact (HR.out.1.below HBW.out).over x h
   · exact (HR.out.2.below HBW.out).over x h)
  have HM:=hid hm
  clear h6 hm hc hpr hcm
  go_wp2_with fail
  refine (HSRT.out (V 9) W HBW.out HM.out).mono ?_
  rintro e w5 ⟨v5,R',rfl,g1,g2,g3,g4⟩
  have HB5:=hid (below_then HBW.out (Nat.le_refl _) g4)
  have HF:=hid (And.intro g1 (And.intro g2 g3))
  clear g1 g2 g3 g4
  go_wp2_with fail
  go_ret
  refine⟨v5,R',rfl,HF.out.1,own_mrow (own_base HF.out.2.1 HBW.out.size) (fun x hx=>?_),HB5.out⟩
  rcases List.mem_append.1 (HF.out.2.2 x hx) with h | h
  · exact (HR.out.1.below HB5.out).over x h
  · exact (HR.out.2.below HB5.out).over x h
end Go.Proofs.YtpeoonnglnchnaaGreatDoor.Mut

namespace Go.Proofs.YtpeoonnglnchnaaGreatDoor.Mut
open Go.Lib (hid)
open Go.RowKit Go.Sort Go.Shelf Go.Proofs.YtpeoonnglnchnaaGreatDoor.Ord Go.Proofs.YtpeoonnglnchnaaGreatDoor.Spare
set_option linter.unusedSectionVars false
variable [Inhabited Lim]
theorem refkeys_any (v:Value) (R:List Ro) (w:World) (hr:MRow w v R) (hn:R.length≤100000) :
  Calls Tryz.prog 57 #[v] w fun e w'=>∃ v',e=.returned v'∧OwnT w' w.heap.size v' (dupF (R.map (·.1.key)))∧Below w.heap.size w w':=by
 obtain⟨ro,cap,rfl,-,-⟩:=hr.form
 obtain⟨n,hnr⟩:∃ k,k=R.length:=⟨_,rfl⟩
 rw [←hnr] at hr hn ⊢
 have HI:=hid info_parts_T
 obtain⟨i0,hI⟩:=HI.out
 have HI:=hid hI
 obtain⟨K,hK⟩:∃ K,K=R.map (·.1.key):=⟨_,rfl⟩
 rw [←hK]
 have HR:=hid hr
 have HN:=hid (show n=K.length from by rw [hK,List.length_map];exact hnr)
 have HK:=hid (fun (z:World) (hb:Below w.heap.size w z) (k:Nat) (hk:k<n)=>show ∃ b off ky,ro=some ⟨b,off,none⟩∧b<z.heap.size∧K[k]?=some ky∧z.cell? ⟨b,off+k*10+2,none⟩=some (.string ky) from by
  obtain⟨x,hx⟩:∃ x,R[k]?=some x:=⟨_,List.getElem?_eq_getElem (by omega)⟩
  obtain⟨xb,xoff,hao,hat⟩:=(hr.below hb).at_ hx
  obtain⟨hbl0,a0,a1,a2,a3,a4,a5,a6,a7,a8,a9⟩:=hat
  exact⟨xb,xoff,x.1.key,hao,hbl0,by rw [hK,List.getElem?_map,hx];rfl,a2⟩)
 clear hI hr hnr hK
 go_enter Tryz.func57,Tryz.ntmps57
 go_wp2_with fail
 go_loopw [3,4] (fun ov iv wr=>∃ (k m:Nat) (oo:Option Addr) (oc:Nat),k≤n∧m≤k∧iv=.int .i64 k∧ov=.slice oo m oc∧Hid (m=(dupTo K k).length)∧Hid (wr.ownsRow w.heap.size 9 1 (.slice oo m oc) m ((dupTo K k).flatMap enTx))∧Hid (Below w.heap.size w wr)) (fun _ iv _=>n - (intOf iv).toNat)
 case atStart=>exact⟨0,0,none,0,by omega,by omega,rfl,rfl,hid rfl,hid (World.ownsRow_nil _ _ _ _),hid (Below.refl _ _)⟩
 case round=>
  obtain⟨k,m,oo,oc,hk,hmk,rfl,rfl,hm,ho,hb⟩:=hrel
  by_cases hlt:k<n
  ·
   obtain⟨xb,xoff,x,hao,hbl0,hx,a2⟩:=HK.out wr hb.out k hlt
   cases hao
   have HX:=hid hx
   clear hx
   have ho_below:∀ z,Below wr.heap.size wr z→z.ownsRow w.heap.size 9 1 (.slice oo m oc) m ((dupTo K k).flatMap enTx):=fun z hz=>World.ownsRow.kept ho.out (Mrk.grown_below (row:=none) hz) (by cases (Value.slice oo m oc).ownBlock <;> simp)
   have HOB:=hid ho_below
   clear ho_below
   rcases Nat.eq_zero_or_pos k with h0 | hpos
   ·
    subst h0
    have HD:=hid (show dupTo K 1=dupTo K 0++[x] from dupTo_first K x HX.out)
    obtain rfl:m=0:=by omega
    go_upto_region 5 with fail
    refine wp_region_calm (by kernel_rfl) (by kernel_rfl) ?_
    repeat (go_big_quiet_step (fail))
    refine wpQuiet_nil ?_
    rintro _ ⟨z,rfl⟩
    obtain⟨w1,hw1⟩:∃ w1,w1=z.at:=⟨_,rfl⟩
    have hz:=z.below
    rw [←hw1] at hz ⊢
    have a3:w1.cell? ⟨xb,xoff+2,none⟩=some (.string x):=by
     have h:=(hz.cell (p:=⟨xb,xoff+2,none⟩) hbl0).trans (by simpa using a2)
     exact h
    have hsz:=hz.size
    have HB1:=hid (below_then hb.out (Nat.le_refl _) hz)
    have HO1:=hid (HOB.out w1 hz)
    clear hw1 z hz a2
    go_wp2_with (at_builtin;refine wpList_append_own_loc rfl _ _ 85 rfl w.heap.size 9 i0 (.string ByteArray.empty) [.string ByteArray.empty] 16 Tryz.underlying85 HI.out.1 HI.out.2.1 rfl HI.out.2.2.1 HI.out.2.2.2 (by decide) (.slice oo 0 oc) 0 ((dupTo K 0).flatMap enTx) rfl (HO1.out.alloc _) ⟨_,0,none⟩ 1 1 [.string x] rfl (by decide) rfl (news_one (new_cell _ _ _)) (by intro u hu;simp at hu;subst hu;rfl) (by unfold maxLen;omega) (by omega) (by have:=HB1.out.size;simp;omega) ?_)
    intro v1 w2 g1 g2 g3
    obtain⟨o1,c1,rfl⟩:∃ o1 c1,v1=.slice o1 (0+1) c1:=by
     rcases g1.2 with ⟨h1,h0⟩ | ⟨g,cap,cur,h1,_⟩
     · omega
     · exact⟨_,_,h1⟩
    have HB3:=hid (show Below w.heap.size w w2 from (HB1.out.alloc HB1.out.size _).grown g2 (by have:=HB1.out.size;simp;omega) (fun q hq=>(World.ownsRow.lt HO1.out q hq).1))
    have HO3:=hid (show w2.ownsRow w.heap.size 9 1 (.slice o1 1 c1) 1 ((dupTo K 1).flatMap enTx) from by rw [HD.out];exact g1)
    clear g1 g2 g3
    go_wp2_with fail
    go_roundw
    case rel=>exact⟨1,1,o1,c1,by omega,by omega,by go_num,rfl,hid (by rw [HD.out];rfl),HO3,HB3⟩
    case measure=>simp [intOf];omega
   ·
    obtain⟨p,rfl⟩:∃ p,k=p+1:=⟨k - 1,by omega⟩
    obtain⟨yb,yoff,y,hao,-,hy,b2⟩:=HK.out wr hb.out p (by omega)
    cases hao
    have hd:=dupTo_next K p x y hy HX.out
    have e1:((p+1:Nat):Int)=(p:Int)+1:=by omega
    have e0:(((p:Int)+1) == 0)=false:=by simp;omega
    have j0:(0:Int)≤(p:Int):=by omega
    have j1:(p:Int)+1<(n:Int):=by omega
    have j2:(p:Int)<(n:Int):=by omega
    clear hy HX
    cases hq:(!x.toList == y.toList)
    ·
     have hxy:x=y:=bytes_ext (by simpa using hq)
     have HD:=hid (show dupTo K (p+1+1)=dupTo K (p+1) from by rw [hd,if_pos hxy,List.append_nil])
     clear hd hxy
     go_upto_region 5 with fail
     refine wp_region_calm (by kernel_rfl) (by kernel_rfl) ?_
     repeat (go_big_quiet_step (fail))
     refine wpQuiet_nil ?_
     rintro _ ⟨z,rfl⟩
     obtain⟨w1,hw1⟩:∃ w1,w1=z.at:=⟨_,rfl⟩
     have hz:=z.below
     rw [←hw1] at hz ⊢
     have HB1:=hid (below_then hb.out (Nat.le_refl _) hz)
     have HO1:=hid (HOB.out w1 hz)
     clear hw1 z hz a2 b2
     go_wp2_with fail
     go_roundw
     case rel=>exact⟨p+1+1,m,oo,oc,by omega,by omega,by go_num,rfl,hid (by rw [HD.out];exact hm.out),hid (by rw [HD.out];exact HO1.out),HB1⟩
     case measure=>simp [intOf];omega
    ·
     have hxy:¬ x=y:=fun e=>by subst e;simp at hq
     have HD:=hid (show dupTo K (p+1+1)=dupTo K (p+1)++[x] from by rw [hd,if_neg hxy])
     clear hd hxy
     go_upto_region 5 with fail
     refine wp_region_calm (by kernel_rfl) (by kernel_rfl) ?_
     repeat (go_big_quiet_step (fail))
     refine wpQuiet_nil ?_
     rintro _ ⟨z,rfl⟩
     obtain⟨w1,hw1⟩:∃ w1,w1=z.at:=⟨_,rfl⟩
     have hz:=z.below
     rw [←hw1] at hz ⊢
     have a3:w1.cell? ⟨xb,xoff+(p+1)*10+2,none⟩=some (.string x):=(hz.cell (p:=⟨xb,xoff+(p+1)*10+2,none⟩) hbl0).trans a2
     have hsz:=hz.size
     have HB1:=hid (below_then hb.out (Nat.le_refl _) hz)
     have HO1:=hid (HOB.out w1 hz)
     clear hw1 z hz a2 b2
     go_wp2_with (at_builtin;refine wpList_append_own_loc rfl _ _ 85 rfl w.heap.size 9 i0 (.string ByteArray.empty) [.string ByteArray.empty] 16 Tryz.underlying85 HI.out.1 HI.out.2.1 rfl HI.out.2.2.1 HI.out.2.2.2 (by decide) (.slice oo m oc) m ((dupTo K (p+1)).flatMap enTx) rfl (HO1.out.alloc _) ⟨_,0,none⟩ 1 1 [.string x] rfl (by decide) rfl (news_one (new_cell _ _ _)) (by intro u hu;simp at hu;subst hu;rfl) (by unfold maxLen;omega) (by omega) (by have:=HB1.out.size;simp;omega) ?_)
     intro v1 w2 g1 g2 g3
     obtain⟨o1,c1,rfl⟩:∃ o1 c1,v1=.slice o1 (m+1) c1:=by
      rcases g1.2 with ⟨h1,h0⟩ | ⟨g,cap,cur,h1,_⟩
      · omega
      · exact⟨_,_,h1⟩
     have HB3:=hid (show Below w.heap.size w w2 from (HB1.out.alloc HB1.out.size _).grown g2 (by have:=HB1.out.size;simp;omega) (fun q hq=>(World.ownsRow.lt HO1.out q hq).1))
     have HO3:=hid (show w2.ownsRow w.heap.size 9 1 (.slice o1 (m+1) c1) (m+1) ((dupTo K (p+1+1)).flatMap enTx) from by rw [HD.out,List.flatMap_append];exact g1)
     clear g1 g2 g3
     go_wp2_with fail
     go_roundw
     case rel=>exact⟨p+1+1,m+1,o1,c1,by omega,by omega,by go_num,rfl,hid (by rw [HD.out,List.length_append,←hm.out];rfl),HO3,HB3⟩
     case measure=>simp [intOf];omega
  ·
   obtain rfl:k=n:=by omega
   go_wp2_with fail
   go_ret
   refine⟨_,rfl,?_,hb.out⟩
   unfold OwnT dupF
   rw [←HN.out,←hm.out];exact ho.out
end Go.Proofs.YtpeoonnglnchnaaGreatDoor.Mut
