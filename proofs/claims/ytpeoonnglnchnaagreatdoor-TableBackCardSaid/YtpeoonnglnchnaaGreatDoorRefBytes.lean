/- RefBytes. -/
import Derived.Test.YtpeoonnglnchnaaGreatDoorMutRest
set_option linter.unusedSectionVars false
set_option linter.unusedSimpArgs false
set_option linter.unusedVariables false
set_option maxHeartbeats 16000000
set_option maxRecDepth 100000
namespace Go.Proofs.YtpeoonnglnchnaaGreatDoor.Mrk
open Go.Lib (hid)
open RowKit YtpeoonnglnchnaaGreatDoor.Spare RegInv
def sOwn (b0:Nat) (l:List Nat):RSpec:=sOne (fun v W=>OwnB W b0 v l) (fun _ _ _ h hb=>h.below hb)
theorem OwnB.src {W:World} {b:Nat} {v:Value} {l:List Nat} (h:OwnB W b v l) (hne:l≠[]):∃ g gc,v=.slice (some ⟨g,0,none⟩) l.length gc/\∀ j u,(l.flatMap enB)[j]?=some u->W.cell? ((⟨g,0,none⟩:Addr).add j)=some u:=by
 rcases h.2 with ⟨rfl,h0⟩ | ⟨g,cap,cur,rfl,_⟩
 . exact absurd (List.eq_nil_of_length_eq_zero h0) hne
 . exact⟨g,cap,rfl,World.ownsRow.cells h rfl⟩
theorem flat_enB_len (l:List Nat):(l.flatMap enB).length=l.length*([.int .u8 0]:List Value).length:=by
 rw [flat_enB,lm0]
 simp
theorem enB_one (l:List Nat):∀ u∈l.flatMap enB,u.oneCell'=true:=by
 intro u hu
 rw [flat_enB] at hu
 obtain⟨c,_,rfl⟩:=List.mem_map.1 hu
 rfl
theorem putF_ne (n:Nat):putF n≠[]:=by unfold putF;simp
theorem textF_ne (s:ByteArray):textF s≠[]:=by unfold textF;simp [putF_ne]
theorem reftext_any (s:ByteArray) (w:World) (hs:s.size<=1000000):Calls Tryz.prog 61 #[.string s] w (BPost w (textF s)):=by
 obtain⟨i0,hi,hz0,hz1,hz2⟩:=info_parts_B
 have HI:=hid (And.intro hi (And.intro hz0 (And.intro hz1 hz2)))
 clear hi hz0 hz1 hz2
 have HP:=hid (refput_any s.size w (by omega))
 have hten:=putF_ten (n:=s.size) (by omega)
 obtain⟨L,hL⟩:∃ l,l=putF s.size:=⟨_,rfl⟩
 have HL:=hid (show textF s=L++strL s from by rw [hL];rfl)
 rw [<-hL] at HP hten
 clear hL
 go_enter Tryz.func61,Tryz.ntmps61
 go_wp2_with fail
 refine HP.out.mono ?_
 rintro e w1 ⟨v1,rfl,g1,g2⟩
 have G1:=hid g1
 have G2:=hid g2
 have hb1:w.heap.size<=w1.heap.size:=g2.size
 clear g1 g2
 go_wp2_with (at_builtin;refine wpList_append_string_loc rfl _ _ 31 9 rfl w.heap.size 5 i0 Tryz.underlying31 Tryz.underlying9 HI.out.1 HI.out.2.1 HI.out.2.2.1 HI.out.2.2.2 v1 L.length (L.flatMap enB) rfl G1.out s rfl (by unfold maxLen;omega) (by omega) hb1 ?_)
 intro v2 w2 h1 h2 h3
 have H1:=hid (show OwnB w2 w.heap.size v2 (L++strL s) from by unfold OwnB;rw [la0,strL_len,fa0,strL_cells];exact h1)
 have H2:=hid (show Below w.heap.size w w2 from G2.out.grown h2 hb1 (fun k hk=>(World.ownsRow.lt G1.out k hk).1))
 clear h1 h2 h3
 go_wp2_with fail
 go_ret
 exact⟨_,rfl,by rw [HL.out];exact H1.out,H2.out⟩
theorem refstamp_any (p l h:Nat) (w:World) (n1:p<9223372036854775808) (n2:l<9223372036854775808) (n3:h<9223372036854775808) :
  Calls Tryz.prog 137 #[.agg #[.int .i64 p,.int .i64 l,.int .i64 h]] w (BPost w ((putF p++putF l)++putF h)):=by
 obtain⟨i0,hi,hz0,hz1,hz2⟩:=info_parts_B
 have HI:=hid (And.intro hi (And.intro hz0 (And.intro hz1 hz2)))
 clear hi hz0 hz1 hz2
 obtain⟨w0,hw0⟩:∃ W,W=w.alloc (.cells #[.int .i64 p,.int .i64 l,.int .i64 h] 39):=⟨_,rfl⟩
 obtain⟨k1,hk1⟩:∃ k,k=w.heap.size:=⟨_,rfl⟩
 obtain⟨b0,hb0⟩:∃ b,b=w0.heap.size:=⟨_,rfl⟩
 have hkb:k1<b0:=by rw [hb0,hw0,hk1];simp
 have HBX:=hid (show ∀ W,Below b0 w0 W->W.cell? ⟨k1,0,none⟩=some (.int .i64 p)/\W.cell? ⟨k1,1,none⟩=some (.int .i64 l)/\W.cell? ⟨k1,2,none⟩=some (.int .i64 h) from fun W hW=>by
  have h0:w0.heap[k1]?=some (.cells #[.int .i64 p,.int .i64 l,.int .i64 h] 39):=by rw [hw0,hk1];exact heap_alloc_new w _
  have h1:=(hW.block k1 hkb).trans h0
  exact⟨cell_of_row W k1 0 _ _ _ h1,cell_of_row W k1 1 _ _ _ h1,cell_of_row W k1 2 _ _ _ h1⟩)
 have HBS:=hid (show ∀ W,Below b0 w0 W->b0<=W.heap.size from fun W hW=>by rw [hb0];exact hW.size)
 have HWW:=hid (show ∀ W,Below b0 w0 W->Below w.heap.size w W from fun W hW=>by
  have h1:Below w.heap.size w w0:=by rw [hw0];exact br.alloc lr _
  exact h1.trans (hW.mono (by rw [hb0];exact h1.size)))
 have HBW:=hid (show w.heap.size<=b0 from by rw [hb0,hw0];simp)
 have HW0:=hid hw0
 have HK1:=hid hk1
 have hbb:b0<=w0.heap.size:=by omega
 have hcm:∀ a b,Below b0 w0 a->Below a.heap.size a b->Below b0 w0 b:=fun a b h hb=>below_then h hbb hb
 clear hw0 hk1 hb0 hkb
 have x1:=putF_ten (n:=p) (by omega)
 have x2:=putF_ten (n:=l) (by omega)
 have x3:=putF_ten (n:=h) (by omega)
 obtain⟨a1,e1⟩:∃ x,x=putF p:=⟨_,rfl⟩
 obtain⟨a2,e2⟩:∃ x,x=putF l:=⟨_,rfl⟩
 obtain⟨a3,e3⟩:∃ x,x=putF h:=⟨_,rfl⟩
 have HP1:=hid (fun W=>refput_any p W n1)
 have HP2:=hid (fun W=>refput_any l W n2)
 have HP3:=hid (fun W=>refput_any h W n3)
 rw [<-e1] at HP1 x1 ⊢
 rw [<-e2] at HP2 x2 ⊢
 rw [<-e3] at HP3 x3 ⊢
 obtain⟨c1,e4⟩:∃ x,x=a1++a2:=⟨_,rfl⟩
 obtain⟨c2,e5⟩:∃ x,x=c1++a3:=⟨_,rfl⟩
 have y1:c1.length<=20:=by rw [e4,la0];omega
 rw [<-e4,<-e5]
 have E4:=hid e4
 have E5:=hid e5
 have HN2:=hid (show a2≠[] from by rw [e2];exact putF_ne _)
 have HN3:=hid (show a3≠[] from by rw [e3];exact putF_ne _)
 clear e1 e2 e3 e4 e5
 have hpr:∀ (j:Nat) (a b:World),(j=2->(fun _=>True) a)->Below a.heap.size a b->(j=2->(fun _=>True) b):=fun _ _ _ _ _ _=>trivial
 go_enter Tryz.func137,Tryz.ntmps137
 go_upto_region 1 with fail
 rw [<-HW0.out,<-HK1.out]
 clear HW0 HK1
 refine RegLin.wp_region_lin (RegLin.useL [(2,6),(5,6),(6,10),(9,10)]) (fun W=>Below b0 w0 W) (fun j W=>j=2->(fun _=>True) W) 11 [false,false,false,true,true,true,true,true,true,true,true,true,true,true]
  [sLit (.pointer (some ⟨k1,0,none⟩)),
  sLit (.int .i64 p),
  sOwn b0 (a1),
  sLit (.pointer (some ⟨k1,1,none⟩)),
  sLit (.int .i64 l),
  sOwn b0 (a2),
  sOwn b0 (c1),
  sLit (.pointer (some ⟨k1,2,none⟩)),
  sLit (.int .i64 h),
  sOwn b0 (a3),
  sOwn b0 (c2)] (br.drew) (fun j _ _=>trivial) (by kernel_rfl) (by kernel_rfl) (by kernel_rfl) (by kernel_rfl) (fun F hF=>?_)
 simp only [over,overL,Nat.reduceAdd] at hF
 obtain rfl:=funext hF
 clear hF
 refine⟨⟨?_,?_,?_,?_,?_,?_,?_,?_,?_,?_,?_,trivial⟩,?_⟩
 ·
  intro V W hc hp hd K hK _
  clear hd
  go_wp2_with fail
  exact hK _ _ rfl (RegLin.keeps_below hcm hpr hc br) rfl
 ·
  intro V W hc hp hd K hK _
  have h0:(V 3)=.pointer (some ⟨k1,0,none⟩):=(RegLin.ask hd 0:)
  clear hd
  obtain⟨m0,m1,m2⟩:=(HBX.out W hc)
  go_wp2_with fail
  exact hK _ _ rfl (RegLin.keeps_below hcm hpr hc br) rfl
 ·
  intro V W hc hp hd K hK _
  have h1:(V 4)=.int .i64 p:=(RegLin.ask hd 1:)
  clear hd
  have hbw:b0<=W.heap.size:=HBS.out W hc
  have HC:=hid hc
  clear hc hp
  go_wp2_with fail
  refine (HP1.out W).mono ?_
  rintro e w1 ⟨v1,rfl,g1,g2⟩
  have G1:=hid (show OwnB w1 b0 v1 (a1) from own_base g1 hbw)
  have G2:=hid g2
  clear g1 g2
  go_wp2_with fail
  refine hK _ _ ?_ ?_ ?_
  . rfl
  . exact RegLin.keeps_below hcm hpr HC.out G2.out
  . exact G1.out
 ·
  intro V W hc hp hd K hK _
  clear hd
  go_wp2_with fail
  exact hK _ _ rfl (RegLin.keeps_below hcm hpr hc br) rfl
 ·
  intro V W hc hp hd K hK _
  have h3:(V 6)=.pointer (some ⟨k1,1,none⟩):=(RegLin.ask hd 3:)
  clear hd
  obtain⟨m0,m1,m2⟩:=(HBX.out W hc)
  go_wp2_with fail
  exact hK _ _ rfl (RegLin.keeps_below hcm hpr hc br) rfl
 ·
  intro V W hc hp hd K hK _
  have h4:(V 7)=.int .i64 l:=(RegLin.ask hd 4:)
  clear hd
  have hbw:b0<=W.heap.size:=HBS.out W hc
  have HC:=hid hc
  clear hc hp
  go_wp2_with fail
  refine (HP2.out W).mono ?_
  rintro e w1 ⟨v1,rfl,g1,g2⟩
  have G1:=hid (show OwnB w1 b0 v1 (a2) from own_base g1 hbw)
  have G2:=hid g2
  clear g1 g2
  go_wp2_with fail
  refine hK _ _ ?_ ?_ ?_
  . rfl
  . exact RegLin.keeps_below hcm hpr HC.out G2.out
  . exact G1.out
 ·
  intro V W hc hp hd K hK _
  have h2:OwnB W b0 (V 5) (a1):=(RegLin.ask hd 2:)
  have h5:OwnB W b0 (V 8) (a2):=(RegLin.ask hd 5:)
  clear hd
  have hbw:b0<=W.heap.size:=HBS.out W hc
  have HA:=hid (show OwnB W b0 (V 5) (a1) from h2)
  have hne:(a2)≠[]:=HN2.out
  obtain⟨g,gc,e5,hcells⟩:=OwnB.src h5 hne
  have HC:=hid hc
  clear hc hp h5 h2
  go_wp2_with (at_builtin;refine wpList_append_own_loc rfl (.tmp 5) (.tmp 8) 31 rfl b0 5 i0 (.int .u8 0) [.int .u8 0] 1 Tryz.underlying31 HI.out.1 HI.out.2.1 rfl HI.out.2.2.1 HI.out.2.2.2 (by decide) (V 5) (a1).length ((a1).flatMap enB) (by first | rfl | exact ea) HA.out ⟨g,0,none⟩ (a2).length gc ((a2).flatMap enB) (by first | exact e5 | rfl) (List.length_pos_iff.2 hne) (flat_enB_len _) hcells (enB_one _) (by unfold maxLen;omega) (by omega) hbw ?_)
  intro v1 w1 g1 g2 g3
  have G1:=hid (show OwnB w1 b0 v1 (c1) from by unfold OwnB;rw [E4.out,la0,fa0];exact g1)
  have G2:=hid (show Below b0 w0 w1 from HC.out.grown g2 hbw (fun k hk=>(World.ownsRow.lt HA.out k hk).1))
  clear g1 g2 g3 e5 hcells
  go_wp2_with fail
  refine hK _ _ ?_ ?_ ?_
  . rfl
  ·
   refine RegLin.keeps_by G2.out (by kernel_rfl) (fun j hj hne hl h=>?_)
   iterate 11 (rcases j with _ | j;first | exact h | exact absurd rfl hne | exact RegLin.dead hl)
   exact absurd hj (by omega)
  . exact G1.out
 ·
  intro V W hc hp hd K hK _
  clear hd
  go_wp2_with fail
  exact hK _ _ rfl (RegLin.keeps_below hcm hpr hc br) rfl
 ·
  intro V W hc hp hd K hK _
  have h7:(V 10)=.pointer (some ⟨k1,2,none⟩):=(RegLin.ask hd 7:)
  clear hd
  obtain⟨m0,m1,m2⟩:=(HBX.out W hc)
  go_wp2_with fail
  exact hK _ _ rfl (RegLin.keeps_below hcm hpr hc br) rfl
 ·
  intro V W hc hp hd K hK _
  have h8:(V 11)=.int .i64 h:=(RegLin.ask hd 8:)
  clear hd
  have hbw:b0<=W.heap.size:=HBS.out W hc
  have HC:=hid hc
  clear hc hp
  go_wp2_with fail
  refine (HP3.out W).mono ?_
  rintro e w1 ⟨v1,rfl,g1,g2⟩
  have G1:=hid (show OwnB w1 b0 v1 (a3) from own_base g1 hbw)
  have G2:=hid g2
  clear g1 g2
  go_wp2_with fail
  refine hK _ _ ?_ ?_ ?_
  . rfl
  . exact RegLin.keeps_below hcm hpr HC.out G2.out
  . exact G1.out
 ·
  intro V W hc hp hd K hK _
  have h6:OwnB W b0 (V 9) (c1):=(RegLin.ask hd 6:)
  have h9:OwnB W b0 (V 12) (a3):=(RegLin.ask hd 9:)
  clear hd
  have hbw:b0<=W.heap.size:=HBS.out W hc
  have HA:=hid (show OwnB W b0 (V 9) (c1) from h6)
  have hne:(a3)≠[]:=HN3.out
  obtain⟨g,gc,e5,hcells⟩:=OwnB.src h9 hne
  have HC:=hid hc
  clear hc hp h9 h6
  go_wp2_with (at_builtin;refine wpList_append_own_loc rfl (.tmp 9) (.tmp 12) 31 rfl b0 5 i0 (.int .u8 0) [.int .u8 0] 1 Tryz.underlying31 HI.out.1 HI.out.2.1 rfl HI.out.2.2.1 HI.out.2.2.2 (by decide) (V 9) (c1).length ((c1).flatMap enB) (by first | rfl | exact ea) HA.out ⟨g,0,none⟩ (a3).length gc ((a3).flatMap enB) (by first | exact e5 | rfl) (List.length_pos_iff.2 hne) (flat_enB_len _) hcells (enB_one _) (by unfold maxLen;omega) (by omega) hbw ?_)
  intro v1 w1 g1 g2 g3
  have G1:=hid (show OwnB w1 b0 v1 (c2) from by unfold OwnB;rw [E5.out,la0,fa0];exact g1)
  have G2:=hid (show Below b0 w0 w1 from HC.out.grown g2 hbw (fun k hk=>(World.ownsRow.lt HA.out k hk).1))
  clear g1 g2 g3 e5 hcells
  go_wp2_with fail
  refine hK _ _ ?_ ?_ ?_
  . rfl
  ·
   refine RegLin.keeps_by G2.out (by kernel_rfl) (fun j hj hne hl h=>?_)
   iterate 11 (rcases j with _ | j;first | exact h | exact absurd rfl hne | exact RegLin.dead hl)
   exact absurd hj (by omega)
  . exact G1.out
 ·
  intro V W hc hd
  have h10:OwnB W b0 (V 13) (c2):=hd 10 (by decide) rfl
  clear hd
  simp only [List.drop_succ_cons,List.drop_zero]
  have H9:=hid h10
  have HC:=hid hc
  clear h10 hc
  go_wp2_with fail
  go_ret
  exact⟨_,rfl,own_base H9.out HBW.out,HWW.out _ HC.out⟩
theorem refrest_any (tb kd ex p l h:Nat) (key fin val:ByteArray) (O:List Mut.Stp) (ov:Value) (w:World) (n1:tb<9223372036854775808) (n2:kd<9223372036854775808) (n3:ex<9223372036854775808) (n4:p<9223372036854775808) (n5:l<9223372036854775808) (n6:h<9223372036854775808)
  (hf:fin.size<=1000) (hvl:val.size<=1000) (hO:O.length<=1000) (hOn:∀ s∈O,NumS s) (hov:Lst 3 Mut.enS w ov O) :
  Calls Tryz.prog 99 #[.agg #[.int .i64 tb,.int .i64 kd,.string key,.string fin,.string val,.int .i64 ex,.int .i64 p,.int .i64 l,.int .i64 h,ov]] w (BPost w (restL tb kd ex p l h fin val O)):=by
 obtain⟨i0,hi,hz0,hz1,hz2⟩:=info_parts_B
 have HI:=hid (And.intro hi (And.intro hz0 (And.intro hz1 hz2)))
 clear hi hz0 hz1 hz2
 obtain⟨oo,oc,rfl,-,-⟩:=Lst.form hov
 obtain⟨no,hno⟩:∃ n,n=O.length:=⟨_,rfl⟩
 rw [<-hno] at hov hO ⊢
 have HNO:=hid hno
 have HON:=hid hOn
 clear hno hOn
 obtain⟨w0,hw0⟩:∃ W,W=w.alloc (.cells #[.int .i64 tb,.int .i64 kd,.string key,.string fin,.string val,.int .i64 ex,.int .i64 p,.int .i64 l,.int .i64 h,.slice oo no oc] 42):=⟨_,rfl⟩
 obtain⟨k1,hk1⟩:∃ k,k=w.heap.size:=⟨_,rfl⟩
 obtain⟨b0,hb0⟩:∃ b,b=w0.heap.size:=⟨_,rfl⟩
 have hkb:k1<b0:=by rw [hb0,hw0,hk1];simp
 have HBX:=hid (show ∀ W,Below b0 w0 W->W.cell? ⟨k1,0,none⟩=some (.int .i64 tb)/\W.cell? ⟨k1,1,none⟩=some (.int .i64 kd)/\W.cell? ⟨k1,2,none⟩=some (.string key)/\W.cell? ⟨k1,3,none⟩=some (.string fin)/\W.cell? ⟨k1,4,none⟩=some (.string val)/\W.cell? ⟨k1,5,none⟩=some (.int .i64 ex)/\W.cell? ⟨k1,6,none⟩=some (.int .i64 p)/\W.cell? ⟨k1,7,none⟩=some (.int .i64 l)/\W.cell? ⟨k1,8,none⟩=some (.int .i64 h)/\W.cell? ⟨k1,9,none⟩=some (.slice oo no oc) from fun W hW=>by
  have h0:w0.heap[k1]?=some (.cells #[.int .i64 tb,.int .i64 kd,.string key,.string fin,.string val,.int .i64 ex,.int .i64 p,.int .i64 l,.int .i64 h,.slice oo no oc] 42):=by rw [hw0,hk1];exact heap_alloc_new w _
  have h1:=(hW.block k1 hkb).trans h0
  exact⟨cell_of_row W k1 0 _ _ _ h1,cell_of_row W k1 1 _ _ _ h1,cell_of_row W k1 2 _ _ _ h1,cell_of_row W k1 3 _ _ _ h1,cell_of_row W k1 4 _ _ _ h1,cell_of_row W k1 5 _ _ _ h1,cell_of_row W k1 6 _ _ _ h1,cell_of_row W k1 7 _ _ _ h1,cell_of_row W k1 8 _ _ _ h1,cell_of_row W k1 9 _ _ _ h1⟩)
 have HBS:=hid (show ∀ W,Below b0 w0 W->b0<=W.heap.size from fun W hW=>by rw [hb0];exact hW.size)
 have HWW:=hid (show ∀ W,Below b0 w0 W->Below w.heap.size w W from fun W hW=>by
  have h1:Below w.heap.size w w0:=by rw [hw0];exact br.alloc lr _
  exact h1.trans (hW.mono (by rw [hb0];exact h1.size)))
 have HOV:=hid (show ∀ W,Below b0 w0 W->Lst 3 Mut.enS W (.slice oo no oc) O from fun W hW=>Lst.below hov (HWW.out W hW))
 have HBW:=hid (show w.heap.size<=b0 from by rw [hb0,hw0];simp)
 have HW0:=hid hw0
 have HK1:=hid hk1
 have hbb:b0<=w0.heap.size:=by omega
 have hcm:∀ a b,Below b0 w0 a->Below a.heap.size a b->Below b0 w0 b:=fun a b h hb=>below_then h hbb hb
 clear hw0 hk1 hb0 hkb hov
 have x1:=putF_ten (n:=tb) (by omega)
 have x2:=putF_ten (n:=kd) (by omega)
 have x3:=textF_len fin (by omega)
 have x4:=textF_len val (by omega)
 have x5:=putF_ten (n:=ex) (by omega)
 have x6:=putF_ten (n:=p) (by omega)
 have x7:=putF_ten (n:=l) (by omega)
 have x8:=putF_ten (n:=h) (by omega)
 have x9:=putF_ten (n:=no) (by omega)
 obtain⟨a1,e1⟩:∃ x,x=putF tb:=⟨_,rfl⟩
 obtain⟨a2,e2⟩:∃ x,x=putF kd:=⟨_,rfl⟩
 obtain⟨a3,e3⟩:∃ x,x=textF fin:=⟨_,rfl⟩
 obtain⟨a4,e4⟩:∃ x,x=textF val:=⟨_,rfl⟩
 obtain⟨a5,e5⟩:∃ x,x=putF ex:=⟨_,rfl⟩
 obtain⟨a6,e6⟩:∃ x,x=(putF p++putF l)++putF h:=⟨_,rfl⟩
 obtain⟨a7,e7⟩:∃ x,x=putF no:=⟨_,rfl⟩
 have z6:a6.length<=30:=by rw [e6,la0,la0];omega
 have HP1:=hid (fun W=>refput_any tb W n1)
 have HP2:=hid (fun W=>refput_any kd W n2)
 have HP3:=hid (fun W=>reftext_any fin W (by omega))
 have HP4:=hid (fun W=>reftext_any val W (by omega))
 have HP5:=hid (fun W=>refput_any ex W n3)
 have HP6:=hid (fun W=>refstamp_any p l h W n4 n5 n6)
 have HP7:=hid (fun W=>refput_any no W (by omega))
 rw [<-e1] at HP1 x1
 rw [<-e2] at HP2 x2
 rw [<-e3] at HP3 x3
 rw [<-e4] at HP4 x4
 rw [<-e5] at HP5 x5
 rw [<-e6] at HP6
 rw [<-e7] at HP7 x9
 have HNE:=hid (show a2≠[]/\a3≠[]/\a4≠[]/\a5≠[]/\a6≠[]/\a7≠[] from by rw [e2,e3,e4,e5,e6,e7];exact⟨putF_ne _,textF_ne _,textF_ne _,putF_ne _,by simp [putF_ne],putF_ne _⟩)
 obtain⟨c2,d2⟩:∃ x,x=a1++a2:=⟨_,rfl⟩
 obtain⟨c3,d3⟩:∃ x,x=c2++a3:=⟨_,rfl⟩
 obtain⟨c4,d4⟩:∃ x,x=c3++a4:=⟨_,rfl⟩
 obtain⟨c5,d5⟩:∃ x,x=c4++a5:=⟨_,rfl⟩
 obtain⟨c6,d6⟩:∃ x,x=c5++a6:=⟨_,rfl⟩
 obtain⟨c7,d7⟩:∃ x,x=c6++a7:=⟨_,rfl⟩
 have y2:c2.length<=20:=by rw [d2,la0];omega
 have y3:c3.length<=1100:=by rw [d3,la0];omega
 have y4:c4.length<=2200:=by rw [d4,la0];omega
 have y5:c5.length<=2300:=by rw [d5,la0];omega
 have y6:c6.length<=2400:=by rw [d6,la0];omega
 have y7:c7.length<=2500:=by rw [d7,la0];omega
 have HL:=hid (show restL tb kd ex p l h fin val O=c7++O.flatMap stF from by
  rw [d7,d6,d5,d4,d3,d2,e1,e2,e3,e4,e5,e6,e7,HNO.out]
  unfold restL
  simp only [List.append_assoc])
 rw [HL.out]
 have D2:=hid d2
 have D3:=hid d3
 have D4:=hid d4
 have D5:=hid d5
 have D6:=hid d6
 have D7:=hid d7
 clear e1 e2 e3 e4 e5 e6 e7 d2 d3 d4 d5 d6 d7 x6 x7 x8 HL
 have hpr:∀ (c:Nat) (X:World->Prop) (hX:∀ a b,X a->Below a.heap.size a b->X b) (j:Nat) (a b:World),(j=c->X a)->Below a.heap.size a b->(j=c->X b):=fun c X hX j a b h hb e=>hX _ _ (h e) hb
 go_enter Tryz.func99,Tryz.ntmps99
 go_upto_region 1 with fail
 rw [<-HW0.out,<-HK1.out]
 clear HW0 HK1
 refine RegLin.wp_region_lin (RegLin.useL [(2,6),(5,6)]) (fun W=>Below b0 w0 W) (fun j W=>j=2->(fun _=>True) W) 7 [false,false,false,false,false,true,true,true,true,true,true,true,false,false,false,false,false,false,false,false,false,false,false,false,false,false,false,false,false,false,false,false,false,false,false,false,false,false,false,false,false,false,false,false,false,false,false,false,false,false,false,false]
  [sLit (.pointer (some ⟨k1,0,none⟩)),
  sLit (.int .i64 tb),
  sOwn b0 (a1),
  sLit (.pointer (some ⟨k1,1,none⟩)),
  sLit (.int .i64 kd),
  sOwn b0 (a2),
  sOwn b0 (c2)] (br.drew) (fun j _ _=>trivial) (by kernel_rfl) (by kernel_rfl) (by kernel_rfl) (by kernel_rfl) (fun F hF=>?_)
 simp only [over,overL,Nat.reduceAdd] at hF
 obtain rfl:=funext hF
 clear hF
 refine⟨⟨?_,?_,?_,?_,?_,?_,?_,trivial⟩,?_⟩
 ·
  intro V W hc hp hd K hK _
  clear hd
  go_wp2_with fail
  exact hK _ _ rfl (RegLin.keeps_below hcm (hpr 2 _ (fun _ _ _ _=>trivial)) hc br) rfl
 ·
  intro V W hc hp hd K hK _
  have h0:(V 5)=.pointer (some ⟨k1,0,none⟩):=(RegLin.ask hd 0:)
  clear hd
  obtain⟨m0,m1,m2,m3,m4,m5,m6,m7,m8,m9⟩:=(HBX.out W hc)
  go_wp2_with fail
  exact hK _ _ rfl (RegLin.keeps_below hcm (hpr 2 _ (fun _ _ _ _=>trivial)) hc br) rfl
 ·
  intro V W hc hp hd K hK _
  have h1:(V 6)=.int .i64 tb:=(RegLin.ask hd 1:)
  clear hd
  have hbw:b0<=W.heap.size:=HBS.out W hc
  have HC:=hid hc
  clear hc hp
  go_wp2_with fail
  refine (HP1.out W).mono ?_
  rintro e w1 ⟨v1,rfl,g1,g2⟩
  have G1:=hid (show OwnB w1 b0 v1 (a1) from own_base g1 hbw)
  have G2:=hid g2
  clear g1 g2
  go_wp2_with fail
  refine hK _ _ ?_ ?_ ?_
  . rfl
  . exact RegLin.keeps_below hcm (hpr 2 _ (fun _ _ _ _=>trivial)) HC.out G2.out
  . exact G1.out
 ·
  intro V W hc hp hd K hK _
  clear hd
  go_wp2_with fail
  exact hK _ _ rfl (RegLin.keeps_below hcm (hpr 2 _ (fun _ _ _ _=>trivial)) hc br) rfl
 ·
  intro V W hc hp hd K hK _
  have h3:(V 8)=.pointer (some ⟨k1,1,none⟩):=(RegLin.ask hd 3:)
  clear hd
  obtain⟨m0,m1,m2,m3,m4,m5,m6,m7,m8,m9⟩:=(HBX.out W hc)
  go_wp2_with fail
  exact hK _ _ rfl (RegLin.keeps_below hcm (hpr 2 _ (fun _ _ _ _=>trivial)) hc br) rfl
 ·
  intro V W hc hp hd K hK _
  have h4:(V 9)=.int .i64 kd:=(RegLin.ask hd 4:)
  clear hd
  have hbw:b0<=W.heap.size:=HBS.out W hc
  have HC:=hid hc
  clear hc hp
  go_wp2_with fail
  refine (HP2.out W).mono ?_
  rintro e w1 ⟨v1,rfl,g1,g2⟩
  have G1:=hid (show OwnB w1 b0 v1 (a2) from own_base g1 hbw)
  have G2:=hid g2
  clear g1 g2
  go_wp2_with fail
  refine hK _ _ ?_ ?_ ?_
  . rfl
  . exact RegLin.keeps_below hcm (hpr 2 _ (fun _ _ _ _=>trivial)) HC.out G2.out
  . exact G1.out
 ·
  intro V W hc hp hd K hK _
  have h2:OwnB W b0 (V 7) (a1):=(RegLin.ask hd 2:)
  have h5:OwnB W b0 (V 10) (a2):=(RegLin.ask hd 5:)
  clear hd
  have hbw:b0<=W.heap.size:=HBS.out W hc
  have HA:=hid (show OwnB W b0 (V 7) (a1) from h2)
  have hne:(a2)≠[]:=HNE.out.1
  obtain⟨g,gc,e5,hcells⟩:=OwnB.src h5 hne
  have HC:=hid hc
  clear hc hp h5 h2
  go_wp2_with (at_builtin;refine wpList_append_own_loc rfl (.tmp 7) (.tmp 10) 31 rfl b0 5 i0 (.int .u8 0) [.int .u8 0] 1 Tryz.underlying31 HI.out.1 HI.out.2.1 rfl HI.out.2.2.1 HI.out.2.2.2 (by decide) (V 7) (a1).length ((a1).flatMap enB) (by first | rfl | exact ea) HA.out ⟨g,0,none⟩ (a2).length gc ((a2).flatMap enB) (by first | exact e5 | rfl) (List.length_pos_iff.2 hne) (flat_enB_len _) hcells (enB_one _) (by unfold maxLen;omega) (by omega) hbw ?_)
  intro v1 w1 g1 g2 g3
  have G1:=hid (show OwnB w1 b0 v1 (c2) from by unfold OwnB;rw [D2.out,la0,fa0];exact g1)
  have G2:=hid (show Below b0 w0 w1 from HC.out.grown g2 hbw (fun k hk=>(World.ownsRow.lt HA.out k hk).1))
  clear g1 g2 g3 e5 hcells
  go_wp2_with fail
  refine hK _ _ ?_ ?_ ?_
  . rfl
  ·
   refine RegLin.keeps_by G2.out (by kernel_rfl) (fun j hj hne hl h=>?_)
   iterate 7 (rcases j with _ | j;first | exact h | exact absurd rfl hne | exact RegLin.dead hl)
   exact absurd hj (by omega)
  . exact G1.out
 ·
  intro V W hc hd
  have h6:OwnB W b0 (V 11) (c2):=hd 6 (by decide) rfl
  clear hd
  simp only [List.drop_succ_cons,List.drop_zero]
  have HRn:=hid h6
  have HCn:=hid hc
  clear h6 hc
  go_upto_region 2 with fail
  generalize V 11=z1 at HRn ⊢
  obtain⟨W1,hWq⟩:∃ W',W'=W:=⟨_,rfl⟩
  subst hWq
  have HR1:=hid (HRn.out.below br.drew)
  have HC1:=hid (hcm _ _ HCn.out br.drew)
  clear HRn HCn
  refine RegLin.wp_region_lin (RegLin.useL [(3,4),(4,8),(7,8)]) (fun W=>Below b0 w0 W) (fun j W=>j=4->(fun W=>OwnB W b0 z1 (c2)) W) 9 [false,false,false,false,false,false,false,false,false,false,false,false,true,true,true,true,true,true,true,true,true,false,false,false,false,false,false,false,false,false,false,false,false,false,false,false,false,false,false,false,false,false,false,false,false,false,false,false,false,false,false,false]
   [sLit (z1),
  sLit (.pointer (some ⟨k1,3,none⟩)),
  sLit (.string fin),
  sOwn b0 (a3),
  sOwn b0 (c3),
  sLit (.pointer (some ⟨k1,4,none⟩)),
  sLit (.string val),
  sOwn b0 (a4),
  sOwn b0 (c4)] (HC1.out) (fun j _ _=>HR1.out) (by kernel_rfl) (by kernel_rfl) (by kernel_rfl) (by kernel_rfl) (fun F hF=>?_)
  simp only [over,overL,Nat.reduceAdd] at hF
  obtain rfl:=funext hF
  clear hF
  refine⟨⟨?_,?_,?_,?_,?_,?_,?_,?_,?_,trivial⟩,?_⟩
  ·
   intro V W hc hp hd K hK _
   clear hd
   go_wp2_with fail
   exact hK _ _ rfl (RegLin.keeps_below hcm (hpr 4 _ (fun a b h hb=>OwnB.below h hb)) hc br) rfl
  ·
   intro V W hc hp hd K hK _
   clear hd
   go_wp2_with fail
   exact hK _ _ rfl (RegLin.keeps_below hcm (hpr 4 _ (fun a b h hb=>OwnB.below h hb)) hc br) rfl
  ·
   intro V W hc hp hd K hK _
   have h1:(V 13)=.pointer (some ⟨k1,3,none⟩):=(RegLin.ask hd 1:)
   clear hd
   obtain⟨m0,m1,m2,m3,m4,m5,m6,m7,m8,m9⟩:=(HBX.out W hc)
   go_wp2_with fail
   exact hK _ _ rfl (RegLin.keeps_below hcm (hpr 4 _ (fun a b h hb=>OwnB.below h hb)) hc br) rfl
  ·
   intro V W hc hp hd K hK _
   have h2:(V 14)=.string fin:=(RegLin.ask hd 2:)
   clear hd
   have hbw:b0<=W.heap.size:=HBS.out W hc
   have HC:=hid hc
   clear hc hp
   go_wp2_with fail
   refine (HP3.out W).mono ?_
   rintro e w1 ⟨v1,rfl,g1,g2⟩
   have G1:=hid (show OwnB w1 b0 v1 (a3) from own_base g1 hbw)
   have G2:=hid g2
   clear g1 g2
   go_wp2_with fail
   refine hK _ _ ?_ ?_ ?_
   . rfl
   . exact RegLin.keeps_below hcm (hpr 4 _ (fun a b h hb=>OwnB.below h hb)) HC.out G2.out
   . exact G1.out
  ·
   intro V W hc hp hd K hK _
   have h0:(V 12)=z1:=(RegLin.ask hd 0:)
   have h3:OwnB W b0 (V 15) (a3):=(RegLin.ask hd 3:)
   clear hd
   have hbw:b0<=W.heap.size:=HBS.out W hc
   have HA:=hid (show OwnB W b0 z1 (c2) from hp rfl)
   have ea:=h0
   have hne:(a3)≠[]:=HNE.out.2.1
   obtain⟨g,gc,e5,hcells⟩:=OwnB.src h3 hne
   have HC:=hid hc
   clear hc hp h3
   go_wp2_with (at_builtin;refine wpList_append_own_loc rfl (.tmp 12) (.tmp 15) 31 rfl b0 5 i0 (.int .u8 0) [.int .u8 0] 1 Tryz.underlying31 HI.out.1 HI.out.2.1 rfl HI.out.2.2.1 HI.out.2.2.2 (by decide) z1 (c2).length ((c2).flatMap enB) (by first | rfl | exact ea) HA.out ⟨g,0,none⟩ (a3).length gc ((a3).flatMap enB) (by first | exact e5 | rfl) (List.length_pos_iff.2 hne) (flat_enB_len _) hcells (enB_one _) (by unfold maxLen;omega) (by omega) hbw ?_)
   intro v1 w1 g1 g2 g3
   have G1:=hid (show OwnB w1 b0 v1 (c3) from by unfold OwnB;rw [D3.out,la0,fa0];exact g1)
   have G2:=hid (show Below b0 w0 w1 from HC.out.grown g2 hbw (fun k hk=>(World.ownsRow.lt HA.out k hk).1))
   clear g1 g2 g3 e5 hcells
   go_wp2_with fail
   refine hK _ _ ?_ ?_ ?_
   . rfl
   ·
    refine RegLin.keeps_by G2.out (by kernel_rfl) (fun j hj hne hl h=>?_)
    iterate 9 (rcases j with _ | j;first | exact h | exact absurd rfl hne | exact RegLin.dead hl)
    exact absurd hj (by omega)
   . exact G1.out
  ·
   intro V W hc hp hd K hK _
   clear hd
   go_wp2_with fail
   exact hK _ _ rfl (RegLin.keeps_below hcm (hpr 4 _ (fun a b h hb=>OwnB.below h hb)) hc br) rfl
  ·
   intro V W hc hp hd K hK _
   have h5:(V 17)=.pointer (some ⟨k1,4,none⟩):=(RegLin.ask hd 5:)
   clear hd
   obtain⟨m0,m1,m2,m3,m4,m5,m6,m7,m8,m9⟩:=(HBX.out W hc)
   go_wp2_with fail
   exact hK _ _ rfl (RegLin.keeps_below hcm (hpr 4 _ (fun a b h hb=>OwnB.below h hb)) hc br) rfl
  ·
   intro V W hc hp hd K hK _
   have h6:(V 18)=.string val:=(RegLin.ask hd 6:)
   clear hd
   have hbw:b0<=W.heap.size:=HBS.out W hc
   have HC:=hid hc
   clear hc hp
   go_wp2_with fail
   refine (HP4.out W).mono ?_
   rintro e w1 ⟨v1,rfl,g1,g2⟩
   have G1:=hid (show OwnB w1 b0 v1 (a4) from own_base g1 hbw)
   have G2:=hid g2
   clear g1 g2
   go_wp2_with fail
   refine hK _ _ ?_ ?_ ?_
   . rfl
   . exact RegLin.keeps_below hcm (hpr 4 _ (fun a b h hb=>OwnB.below h hb)) HC.out G2.out
   . exact G1.out
  ·
   intro V W hc hp hd K hK _
   have h4:OwnB W b0 (V 16) (c3):=(RegLin.ask hd 4:)
   have h7:OwnB W b0 (V 19) (a4):=(RegLin.ask hd 7:)
   clear hd
   have hbw:b0<=W.heap.size:=HBS.out W hc
   have HA:=hid (show OwnB W b0 (V 16) (c3) from h4)
   have hne:(a4)≠[]:=HNE.out.2.2.1
   obtain⟨g,gc,e5,hcells⟩:=OwnB.src h7 hne
   have HC:=hid hc
   clear hc hp h7 h4
   go_wp2_with (at_builtin;refine wpList_append_own_loc rfl (.tmp 16) (.tmp 19) 31 rfl b0 5 i0 (.int .u8 0) [.int .u8 0] 1 Tryz.underlying31 HI.out.1 HI.out.2.1 rfl HI.out.2.2.1 HI.out.2.2.2 (by decide) (V 16) (c3).length ((c3).flatMap enB) (by first | rfl | exact ea) HA.out ⟨g,0,none⟩ (a4).length gc ((a4).flatMap enB) (by first | exact e5 | rfl) (List.length_pos_iff.2 hne) (flat_enB_len _) hcells (enB_one _) (by unfold maxLen;omega) (by omega) hbw ?_)
   intro v1 w1 g1 g2 g3
   have G1:=hid (show OwnB w1 b0 v1 (c4) from by unfold OwnB;rw [D4.out,la0,fa0];exact g1)
   have G2:=hid (show Below b0 w0 w1 from HC.out.grown g2 hbw (fun k hk=>(World.ownsRow.lt HA.out k hk).1))
   clear g1 g2 g3 e5 hcells
   go_wp2_with fail
   refine hK _ _ ?_ ?_ ?_
   . rfl
   ·
    refine RegLin.keeps_by G2.out (by kernel_rfl) (fun j hj hne hl h=>?_)
    iterate 9 (rcases j with _ | j;first | exact h | exact absurd rfl hne | exact RegLin.dead hl)
    exact absurd hj (by omega)
   . exact G1.out
  ·
   intro V W hc hd
   have h8:OwnB W b0 (V 20) (c4):=hd 8 (by decide) rfl
   clear hd
   simp only [List.drop_succ_cons,List.drop_zero]
   have HRn:=hid h8
   have HCn:=hid hc
   clear h8 hc
   go_upto_region 3 with fail
   generalize V 20=z2 at HRn ⊢
   obtain⟨W2,hWq⟩:∃ W',W'=W:=⟨_,rfl⟩
   subst hWq
   have HR2:=hid (HRn.out.below br.drew)
   have HC2:=hid (hcm _ _ HCn.out br.drew)
   clear HRn HCn
   refine RegLin.wp_region_lin (RegLin.useL [(3,4),(4,8),(7,8)]) (fun W=>Below b0 w0 W) (fun j W=>j=4->(fun W=>OwnB W b0 z2 (c4)) W) 9 [false,false,false,false,false,false,false,false,false,false,false,false,false,false,false,false,false,false,false,false,false,true,true,true,true,true,true,true,true,true,false,false,false,false,false,false,false,false,false,false,false,false,false,false,false,false,false,false,false,false,false,false]
    [sLit (z2),
  sLit (.pointer (some ⟨k1,5,none⟩)),
  sLit (.int .i64 ex),
  sOwn b0 (a5),
  sOwn b0 (c5),
  sLit (.pointer (some ⟨k1,6,none⟩)),
  sLit (.agg #[.int .i64 p,.int .i64 l,.int .i64 h]),
  sOwn b0 (a6),
  sOwn b0 (c6)] (HC2.out) (fun j _ _=>HR2.out) (by kernel_rfl) (by kernel_rfl) (by kernel_rfl) (by kernel_rfl) (fun F hF=>?_)
   simp only [over,overL,Nat.reduceAdd] at hF
   obtain rfl:=funext hF
   clear hF
   refine⟨⟨?_,?_,?_,?_,?_,?_,?_,?_,?_,trivial⟩,?_⟩
   ·
    intro V W hc hp hd K hK _
    clear hd
    go_wp2_with fail
    exact hK _ _ rfl (RegLin.keeps_below hcm (hpr 4 _ (fun a b h hb=>OwnB.below h hb)) hc br) rfl
   ·
    intro V W hc hp hd K hK _
    clear hd
    go_wp2_with fail
    exact hK _ _ rfl (RegLin.keeps_below hcm (hpr 4 _ (fun a b h hb=>OwnB.below h hb)) hc br) rfl
   ·
    intro V W hc hp hd K hK _
    have h1:(V 22)=.pointer (some ⟨k1,5,none⟩):=(RegLin.ask hd 1:)
    clear hd
    obtain⟨m0,m1,m2,m3,m4,m5,m6,m7,m8,m9⟩:=(HBX.out W hc)
    go_wp2_with fail
    exact hK _ _ rfl (RegLin.keeps_below hcm (hpr 4 _ (fun a b h hb=>OwnB.below h hb)) hc br) rfl
   ·
    intro V W hc hp hd K hK _
    have h2:(V 23)=.int .i64 ex:=(RegLin.ask hd 2:)
    clear hd
    have hbw:b0<=W.heap.size:=HBS.out W hc
    have HC:=hid hc
    clear hc hp
    go_wp2_with fail
    refine (HP5.out W).mono ?_
    rintro e w1 ⟨v1,rfl,g1,g2⟩
    have G1:=hid (show OwnB w1 b0 v1 (a5) from own_base g1 hbw)
    have G2:=hid g2
    clear g1 g2
    go_wp2_with fail
    refine hK _ _ ?_ ?_ ?_
    . rfl
    . exact RegLin.keeps_below hcm (hpr 4 _ (fun a b h hb=>OwnB.below h hb)) HC.out G2.out
    . exact G1.out
   ·
    intro V W hc hp hd K hK _
    have h0:(V 21)=z2:=(RegLin.ask hd 0:)
    have h3:OwnB W b0 (V 24) (a5):=(RegLin.ask hd 3:)
    clear hd
    have hbw:b0<=W.heap.size:=HBS.out W hc
    have HA:=hid (show OwnB W b0 z2 (c4) from hp rfl)
    have ea:=h0
    have hne:(a5)≠[]:=HNE.out.2.2.2.1
    obtain⟨g,gc,e5,hcells⟩:=OwnB.src h3 hne
    have HC:=hid hc
    clear hc hp h3
    go_wp2_with (at_builtin;refine wpList_append_own_loc rfl (.tmp 21) (.tmp 24) 31 rfl b0 5 i0 (.int .u8 0) [.int .u8 0] 1 Tryz.underlying31 HI.out.1 HI.out.2.1 rfl HI.out.2.2.1 HI.out.2.2.2 (by decide) z2 (c4).length ((c4).flatMap enB) (by first | rfl | exact ea) HA.out ⟨g,0,none⟩ (a5).length gc ((a5).flatMap enB) (by first | exact e5 | rfl) (List.length_pos_iff.2 hne) (flat_enB_len _) hcells (enB_one _) (by unfold maxLen;omega) (by omega) hbw ?_)
    intro v1 w1 g1 g2 g3
    have G1:=hid (show OwnB w1 b0 v1 (c5) from by unfold OwnB;rw [D5.out,la0,fa0];exact g1)
    have G2:=hid (show Below b0 w0 w1 from HC.out.grown g2 hbw (fun k hk=>(World.ownsRow.lt HA.out k hk).1))
    clear g1 g2 g3 e5 hcells
    go_wp2_with fail
    refine hK _ _ ?_ ?_ ?_
    . rfl
    ·
     refine RegLin.keeps_by G2.out (by kernel_rfl) (fun j hj hne hl h=>?_)
     iterate 9 (rcases j with _ | j;first | exact h | exact absurd rfl hne | exact RegLin.dead hl)
     exact absurd hj (by omega)
    . exact G1.out
   ·
    intro V W hc hp hd K hK _
    clear hd
    go_wp2_with fail
    exact hK _ _ rfl (RegLin.keeps_below hcm (hpr 4 _ (fun a b h hb=>OwnB.below h hb)) hc br) rfl
   ·
    intro V W hc hp hd K hK _
    have h5:(V 26)=.pointer (some ⟨k1,6,none⟩):=(RegLin.ask hd 5:)
    clear hd
    obtain⟨m0,m1,m2,m3,m4,m5,m6,m7,m8,m9⟩:=(HBX.out W hc)
    go_wp2_with fail
    exact hK _ _ rfl (RegLin.keeps_below hcm (hpr 4 _ (fun a b h hb=>OwnB.below h hb)) hc br) rfl
   ·
    intro V W hc hp hd K hK _
    have h6:(V 27)=.agg #[.int .i64 p,.int .i64 l,.int .i64 h]:=(RegLin.ask hd 6:)
    clear hd
    have hbw:b0<=W.heap.size:=HBS.out W hc
    have HC:=hid hc
    clear hc hp
    go_wp2_with fail
    refine (HP6.out W).mono ?_
    rintro e w1 ⟨v1,rfl,g1,g2⟩
    have G1:=hid (show OwnB w1 b0 v1 (a6) from own_base g1 hbw)
    have G2:=hid g2
    clear g1 g2
    go_wp2_with fail
    refine hK _ _ ?_ ?_ ?_
    . rfl
    . exact RegLin.keeps_below hcm (hpr 4 _ (fun a b h hb=>OwnB.below h hb)) HC.out G2.out
    . exact G1.out
   ·
    intro V W hc hp hd K hK _
    have h4:OwnB W b0 (V 25) (c5):=(RegLin.ask hd 4:)
    have h7:OwnB W b0 (V 28) (a6):=(RegLin.ask hd 7:)
    clear hd
    have hbw:b0<=W.heap.size:=HBS.out W hc
    have HA:=hid (show OwnB W b0 (V 25) (c5) from h4)
    have hne:(a6)≠[]:=HNE.out.2.2.2.2.1
    obtain⟨g,gc,e5,hcells⟩:=OwnB.src h7 hne
    have HC:=hid hc
    clear hc hp h7 h4
    go_wp2_with (at_builtin;refine wpList_append_own_loc rfl (.tmp 25) (.tmp 28) 31 rfl b0 5 i0 (.int .u8 0) [.int .u8 0] 1 Tryz.underlying31 HI.out.1 HI.out.2.1 rfl HI.out.2.2.1 HI.out.2.2.2 (by decide) (V 25) (c5).length ((c5).flatMap enB) (by first | rfl | exact ea) HA.out ⟨g,0,none⟩ (a6).length gc ((a6).flatMap enB) (by first | exact e5 | rfl) (List.length_pos_iff.2 hne) (flat_enB_len _) hcells (enB_one _) (by unfold maxLen;omega) (by omega) hbw ?_)
    intro v1 w1 g1 g2 g3
    have G1:=hid (show OwnB w1 b0 v1 (c6) from by unfold OwnB;rw [D6.out,la0,fa0];exact g1)
    have G2:=hid (show Below b0 w0 w1 from HC.out.grown g2 hbw (fun k hk=>(World.ownsRow.lt HA.out k hk).1))
    clear g1 g2 g3 e5 hcells
    go_wp2_with fail
    refine hK _ _ ?_ ?_ ?_
    . rfl
    ·
     refine RegLin.keeps_by G2.out (by kernel_rfl) (fun j hj hne hl h=>?_)
     iterate 9 (rcases j with _ | j;first | exact h | exact absurd rfl hne | exact RegLin.dead hl)
     exact absurd hj (by omega)
    . exact G1.out
   ·
    intro V W hc hd
    have h8:OwnB W b0 (V 29) (c6):=hd 8 (by decide) rfl
    clear hd
    simp only [List.drop_succ_cons,List.drop_zero]
    have HR3:=hid h8
    have HC3:=hid hc
    clear h8 hc
    generalize V 29=z3 at HR3 ⊢
    obtain⟨W3,hWq⟩:∃ W',W'=W:=⟨_,rfl⟩
    subst hWq
    obtain⟨-,-,-,-,-,-,-,-,-,m9⟩:=HBX.out W3 HC3.out
    go_wp2_with fail
    refine (HP7.out W3).mono ?_
    rintro e w4 ⟨v4,rfl,g1,g2⟩
    have G1:=hid (show OwnB w4 b0 v4 a7 from own_base g1 (HBS.out _ HC3.out))
    have HC4:=hid (hcm _ _ HC3.out g2)
    have HR4:=hid (HR3.out.below g2)
    clear g1 g2 m9 HC3 HR3
    have hne:a7≠[]:=HNE.out.2.2.2.2.2
    obtain⟨g,gc,e5,hcells⟩:=OwnB.src G1.out hne
    subst e5
    have hbw:b0<=w4.heap.size:=HBS.out _ HC4.out
    have ea:True:=trivial
    go_wp2_with (at_builtin;refine wpList_append_own_loc rfl (.tmp 30) (.tmp 34) 31 rfl b0 5 i0 (.int .u8 0) [.int .u8 0] 1 Tryz.underlying31 HI.out.1 HI.out.2.1 rfl HI.out.2.2.1 HI.out.2.2.2 (by decide) z3 (c6).length ((c6).flatMap enB) (by first | rfl | exact ea) HR4.out ⟨g,0,none⟩ (a7).length gc ((a7).flatMap enB) (by first | exact e5 | rfl) (List.length_pos_iff.2 hne) (flat_enB_len _) hcells (enB_one _) (by unfold maxLen;omega) (by omega) hbw ?_)
    intro v5 w5 g1 g2 g3
    have HR5:=hid (show OwnB w5 b0 v5 c7 from by unfold OwnB;rw [D7.out,la0,fa0];exact g1)
    have HC5:=hid (show Below b0 w0 w5 from HC4.out.grown g2 hbw (fun k hk=>(World.ownsRow.lt HR4.out k hk).1))
    clear g1 g2 g3 hcells G1 HC4 HR4 hne ea hbw
    go_wp2_with fail
    go_loopw [3,4] (fun bv iv wr=>∃ k:Nat,k<=no/\iv=.int .i64 k/\Hid (OwnB wr b0 bv (c7++(O.take k).flatMap stF))/\Hid (Below b0 w0 wr)) (fun _ iv _=>no - (intOf iv).toNat)
    case atStart=>exact⟨0,by omega,rfl,hid (by simpa using HR5.out),HC5⟩
    case round=>
     obtain⟨k,hk,rfl,hr,hc⟩:=hrel
     obtain⟨-,-,-,-,-,-,-,-,-,m9⟩:=HBX.out wr hc.out
     by_cases hlt:k<no
     ·
      have hkl:k<O.length:=by rw [<-HNO.out];exact hlt
      obtain⟨s,hs⟩:∃ s,O[k]?=some s:=⟨_,ge0 hkl⟩
      have hse:O[k]=s:=(gs0.1 hs).2
      have hnum:=HON.out s (mg0 hs)
      obtain⟨sb,soff,rfl,hsb,hsc⟩:=Lst.get (HOV.out wr hc.out) hkl
      rw [hse] at hsc
      obtain⟨sp,sl,sw⟩:=s
      obtain⟨p0,l0,w0',p1,l1',w1⟩:=hnum
      simp only [] at p0 l0 w0' p1 l1' w1
      obtain⟨sp,rfl⟩:=Int.eq_ofNat_of_zero_le p0
      obtain⟨sl,rfl⟩:=Int.eq_ofNat_of_zero_le l0
      obtain⟨sw,rfl⟩:=Int.eq_ofNat_of_zero_le w0'
      have a0:wr.cell? ⟨sb,soff+k*3,none⟩=some (.int .i64 sp):=hsc 0 (by decide)
      have a1:wr.cell? ⟨sb,soff+k*3+1,none⟩=some (.int .i64 sl):=hsc 1 (by decide)
      have a2:wr.cell? ⟨sb,soff+k*3+2,none⟩=some (.int .i64 sw):=hsc 2 (by decide)
      obtain⟨lk,hlk⟩:∃ x,x=c7++(O.take k).flatMap stF:=⟨_,rfl⟩
      have hlk2:lk.length<=200000:=by
       rw [hlk,la0]
       have h1:=flat_len (O:=O.take k) (fun x hx=>HON.out x (List.mem_of_mem_take hx))
       have h2:=List.length_take_le k O
       omega
      obtain⟨q,hq⟩:∃ x,x=(putF sp++putF sl)++putF sw:=⟨_,rfl⟩
      have q30:q.length<=30:=by
       have h1:=putF_ten (n:=sp) (by omega)
       have h2:=putF_ten (n:=sl) (by omega)
       have h3:=putF_ten (n:=sw) (by omega)
       rw [hq,la0,la0];omega
      have HQN:=hid (show q≠[] from by rw [hq];simp [putF_ne])
      have HPQ:=hid (fun W=>refstamp_any sp sl sw W (by omega) (by omega) (by omega))
      rw [<-hq] at HPQ
      have HLK:=hid (show c7++(O.take (k+1)).flatMap stF=lk++q from by
       rw [hlk,hq,List.take_add_one,hs]
       simp [stF,List.append_assoc])
      rw [<-hlk] at hr
      have i0':(0:Int)<=(k:Int):=by omega
      have i1:(k:Int)<(no:Int):=by omega
      have HRk:=hr
      have HCk:=hc
      clear hr hc hsc hse hs hlk hq
      go_wp2_with fail
      refine (HPQ.out wr).mono ?_
      rintro e w4 ⟨v4,rfl,g1,g2⟩
      have G1:=hid (show OwnB w4 b0 v4 q from own_base g1 (HBS.out _ HCk.out))
      have HC4:=hid (hcm _ _ HCk.out g2)
      have HR4:=hid (HRk.out.below g2)
      clear g1 g2 m9 HCk HRk a0 a1 a2
      obtain⟨g,gc,e5,hcells⟩:=OwnB.src G1.out HQN.out
      subst e5
      have hne:=HQN.out
      have hbw:b0<=w4.heap.size:=HBS.out _ HC4.out
      have ea:True:=trivial
      go_wp2_with (at_builtin;refine wpList_append_own_loc rfl (.tmp 43) (.tmp 49) 31 rfl b0 5 i0 (.int .u8 0) [.int .u8 0] 1 Tryz.underlying31 HI.out.1 HI.out.2.1 rfl HI.out.2.2.1 HI.out.2.2.2 (by decide) u3 (lk).length ((lk).flatMap enB) (by first | rfl | exact ea) HR4.out ⟨g,0,none⟩ (q).length gc ((q).flatMap enB) (by first | exact e5 | rfl) (List.length_pos_iff.2 hne) (flat_enB_len _) hcells (enB_one _) (by unfold maxLen;omega) (by omega) hbw ?_)
      intro v5 w5 g1 g2 g3
      have HR5:=hid (show OwnB w5 b0 v5 (c7++(O.take (k+1)).flatMap stF) from by unfold OwnB;rw [HLK.out,la0,fa0];exact g1)
      have HC5:=hid (show Below b0 w0 w5 from HC4.out.grown g2 hbw (fun k hk=>(World.ownsRow.lt HR4.out k hk).1))
      clear g1 g2 g3 hcells G1 HC4 HR4 hne ea hbw
      go_wp2_with fail
      go_roundw
      case rel=>exact⟨k+1,by omega,by go_num,HR5,HC5⟩
      case measure=>simp [intOf];omega
     ·
      obtain rfl:k=no:=by omega
      have HR9:=hid (show OwnB wr b0 u3 (c7++O.flatMap stF) from by have h:=hr.out;rw [List.take_of_length_le (by rw [<-HNO.out];exact Nat.le_refl _)] at h;exact h)
      have HC9:=hc
      clear hr hc
      go_wp2_with fail
      go_ret
      exact⟨_,rfl,own_base HR9.out HBW.out,HWW.out _ HC9.out⟩
theorem refmutput_any (tb kd ex p l h:Nat) (key fin val:ByteArray) (O:List Mut.Stp) (ov:Value) (w:World) (n1:tb<9223372036854775808) (n2:kd<9223372036854775808) (n3:ex<9223372036854775808) (n4:p<9223372036854775808) (n5:l<9223372036854775808) (n6:h<9223372036854775808)
  (hky:key.size<=1000) (hf:fin.size<=1000) (hvl:val.size<=1000) (hO:O.length<=1000) (hOn:∀ s∈O,NumS s) (hov:Lst 3 Mut.enS w ov O) :
  Calls Tryz.prog 138 #[.agg #[.int .i64 tb,.int .i64 kd,.string key,.string fin,.string val,.int .i64 ex,.int .i64 p,.int .i64 l,.int .i64 h,ov]] w (BPost w (textF key++restL tb kd ex p l h fin val O)):=by
 obtain⟨i0,hi,hz0,hz1,hz2⟩:=info_parts_B
 have HI:=hid (And.intro hi (And.intro hz0 (And.intro hz1 hz2)))
 clear hi hz0 hz1 hz2
 obtain⟨w0,hw0⟩:∃ W,W=w.alloc (.cells #[.int .i64 tb,.int .i64 kd,.string key,.string fin,.string val,.int .i64 ex,.int .i64 p,.int .i64 l,.int .i64 h,ov] 42):=⟨_,rfl⟩
 obtain⟨k1,hk1⟩:∃ k,k=w.heap.size:=⟨_,rfl⟩
 obtain⟨b0,hb0⟩:∃ b,b=w0.heap.size:=⟨_,rfl⟩
 have hkb:k1<b0:=by rw [hb0,hw0,hk1];simp
 have HBX:=hid (show ∀ W,Below b0 w0 W->W.cell? ⟨k1,0,none⟩=some (.int .i64 tb)/\W.cell? ⟨k1,1,none⟩=some (.int .i64 kd)/\W.cell? ⟨k1,2,none⟩=some (.string key)/\W.cell? ⟨k1,3,none⟩=some (.string fin)/\W.cell? ⟨k1,4,none⟩=some (.string val)/\W.cell? ⟨k1,5,none⟩=some (.int .i64 ex)/\W.cell? ⟨k1,6,none⟩=some (.int .i64 p)/\W.cell? ⟨k1,7,none⟩=some (.int .i64 l)/\W.cell? ⟨k1,8,none⟩=some (.int .i64 h)/\W.cell? ⟨k1,9,none⟩=some ov from fun W hW=>by
  have h0:w0.heap[k1]?=some (.cells #[.int .i64 tb,.int .i64 kd,.string key,.string fin,.string val,.int .i64 ex,.int .i64 p,.int .i64 l,.int .i64 h,ov] 42):=by rw [hw0,hk1];exact heap_alloc_new w _
  have h1:=(hW.block k1 hkb).trans h0
  exact⟨cell_of_row W k1 0 _ _ _ h1,cell_of_row W k1 1 _ _ _ h1,cell_of_row W k1 2 _ _ _ h1,cell_of_row W k1 3 _ _ _ h1,cell_of_row W k1 4 _ _ _ h1,cell_of_row W k1 5 _ _ _ h1,cell_of_row W k1 6 _ _ _ h1,cell_of_row W k1 7 _ _ _ h1,cell_of_row W k1 8 _ _ _ h1,cell_of_row W k1 9 _ _ _ h1⟩)
 have HBS:=hid (show ∀ W,Below b0 w0 W->b0<=W.heap.size from fun W hW=>by rw [hb0];exact hW.size)
 have HWW:=hid (show ∀ W,Below b0 w0 W->Below w.heap.size w W from fun W hW=>by
  have h1:Below w.heap.size w w0:=by rw [hw0];exact br.alloc lr _
  exact h1.trans (hW.mono (by rw [hb0];exact h1.size)))
 have HP2:=hid (fun W (hW:Below b0 w0 W)=>refrest_any tb kd ex p l h key fin val O ov W n1 n2 n3 n4 n5 n6 hf hvl hO hOn (Lst.below hov (HWW.out W hW)))
 have HBW:=hid (show w.heap.size<=b0 from by rw [hb0,hw0];simp)
 have HW0:=hid hw0
 have HK1:=hid hk1
 have hbb:b0<=w0.heap.size:=by omega
 have hcm:∀ a b,Below b0 w0 a->Below a.heap.size a b->Below b0 w0 b:=fun a b h hb=>below_then h hbb hb
 have x1:=textF_len key (by omega)
 have x2:(restL tb kd ex p l h fin val O).length<=100000:=by
  have y1:=putF_ten (n:=tb) (by omega)
  have y2:=putF_ten (n:=kd) (by omega)
  have y3:=textF_len fin (by omega)
  have y4:=textF_len val (by omega)
  have y5:=putF_ten (n:=ex) (by omega)
  have y6:=putF_ten (n:=p) (by omega)
  have y7:=putF_ten (n:=l) (by omega)
  have y8:=putF_ten (n:=h) (by omega)
  have y9:=putF_ten (n:=O.length) (by omega)
  have z1:=flat_len hOn
  unfold restL
  simp only [la0]
  omega
 clear hw0 hk1 hb0 hkb hov hOn
 obtain⟨a1,e1⟩:∃ x,x=textF key:=⟨_,rfl⟩
 obtain⟨a2,e2⟩:∃ x,x=restL tb kd ex p l h fin val O:=⟨_,rfl⟩
 have HP1:=hid (fun W=>reftext_any key W (by omega))
 rw [<-e1] at HP1 x1 ⊢
 rw [<-e2] at HP2 x2 ⊢
 have HNE:=hid (show a2≠[] from by rw [e2];unfold restL;simp [putF_ne])
 obtain⟨c2,d2⟩:∃ x,x=a1++a2:=⟨_,rfl⟩
 rw [<-d2]
 have D2:=hid d2
 clear e1 e2 d2
 have hpr:∀ (j:Nat) (a b:World),(j=2->(fun _=>True) a)->Below a.heap.size a b->(j=2->(fun _=>True) b):=fun _ _ _ _ _ _=>trivial
 go_enter Tryz.func138,Tryz.ntmps138
 go_upto_region 1 with fail
 rw [<-HW0.out,<-HK1.out]
 clear HW0 HK1
 refine RegLin.wp_region_lin (RegLin.useL [(2,5),(4,5)]) (fun W=>Below b0 w0 W) (fun j W=>j=2->(fun _=>True) W) 6 [false,false,false,true,true,true,true,true,true]
  [sLit (.pointer (some ⟨k1,2,none⟩)),
  sLit (.string key),
  sOwn b0 (a1),
  sLit (.agg #[.int .i64 tb,.int .i64 kd,.string key,.string fin,.string val,.int .i64 ex,.int .i64 p,.int .i64 l,.int .i64 h,ov]),
  sOwn b0 (a2),
  sOwn b0 (c2)] (br.drew) (fun j _ _=>trivial) (by kernel_rfl) (by kernel_rfl) (by kernel_rfl) (by kernel_rfl) (fun F hF=>?_)
 simp only [over,overL,Nat.reduceAdd] at hF
 obtain rfl:=funext hF
 clear hF
 refine⟨⟨?_,?_,?_,?_,?_,?_,trivial⟩,?_⟩
 ·
  intro V W hc hp hd K hK _
  clear hd
  go_wp2_with fail
  exact hK _ _ rfl (RegLin.keeps_below hcm hpr hc br) rfl
 ·
  intro V W hc hp hd K hK _
  have h0:(V 3)=.pointer (some ⟨k1,2,none⟩):=(RegLin.ask hd 0:)
  clear hd
  obtain⟨m0,m1,m2,m3,m4,m5,m6,m7,m8,m9⟩:=(HBX.out W hc)
  go_wp2_with fail
  exact hK _ _ rfl (RegLin.keeps_below hcm hpr hc br) rfl
 ·
  intro V W hc hp hd K hK _
  have h1:(V 4)=.string key:=(RegLin.ask hd 1:)
  clear hd
  have hbw:b0<=W.heap.size:=HBS.out W hc
  have HC:=hid hc
  clear hc hp
  go_wp2_with fail
  refine (HP1.out W).mono ?_
  rintro e w1 ⟨v1,rfl,g1,g2⟩
  have G1:=hid (show OwnB w1 b0 v1 (a1) from own_base g1 hbw)
  have G2:=hid g2
  clear g1 g2
  go_wp2_with fail
  refine hK _ _ ?_ ?_ ?_
  . rfl
  . exact RegLin.keeps_below hcm hpr HC.out G2.out
  . exact G1.out
 ·
  intro V W hc hp hd K hK _
  clear hd
  obtain⟨m0,m1,m2,m3,m4,m5,m6,m7,m8,m9⟩:=(HBX.out W hc)
  go_wp2_with fail
  exact hK _ _ rfl (RegLin.keeps_below hcm hpr hc br) rfl
 ·
  intro V W hc hp hd K hK _
  have h3:(V 6)=.agg #[.int .i64 tb,.int .i64 kd,.string key,.string fin,.string val,.int .i64 ex,.int .i64 p,.int .i64 l,.int .i64 h,ov]:=(RegLin.ask hd 3:)
  clear hd
  have hbw:b0<=W.heap.size:=HBS.out W hc
  have HC:=hid hc
  clear hc hp
  go_wp2_with fail
  refine (HP2.out W HC.out).mono ?_
  rintro e w1 ⟨v1,rfl,g1,g2⟩
  have G1:=hid (show OwnB w1 b0 v1 (a2) from own_base g1 hbw)
  have G2:=hid g2
  clear g1 g2
  go_wp2_with fail
  refine hK _ _ ?_ ?_ ?_
  . rfl
  . exact RegLin.keeps_below hcm hpr HC.out G2.out
  . exact G1.out
 ·
  intro V W hc hp hd K hK _
  have h2:OwnB W b0 (V 5) (a1):=(RegLin.ask hd 2:)
  have h4:OwnB W b0 (V 7) (a2):=(RegLin.ask hd 4:)
  clear hd
  have hbw:b0<=W.heap.size:=HBS.out W hc
  have HA:=hid (show OwnB W b0 (V 5) (a1) from h2)
  have hne:(a2)≠[]:=HNE.out
  obtain⟨g,gc,e5,hcells⟩:=OwnB.src h4 hne
  have HC:=hid hc
  clear hc hp h4 h2
  go_wp2_with (at_builtin;refine wpList_append_own_loc rfl (.tmp 5) (.tmp 7) 31 rfl b0 5 i0 (.int .u8 0) [.int .u8 0] 1 Tryz.underlying31 HI.out.1 HI.out.2.1 rfl HI.out.2.2.1 HI.out.2.2.2 (by decide) (V 5) (a1).length ((a1).flatMap enB) (by first | rfl | exact ea) HA.out ⟨g,0,none⟩ (a2).length gc ((a2).flatMap enB) (by first | exact e5 | rfl) (List.length_pos_iff.2 hne) (flat_enB_len _) hcells (enB_one _) (by unfold maxLen;omega) (by omega) hbw ?_)
  intro v1 w1 g1 g2 g3
  have G1:=hid (show OwnB w1 b0 v1 (c2) from by unfold OwnB;rw [D2.out,la0,fa0];exact g1)
  have G2:=hid (show Below b0 w0 w1 from HC.out.grown g2 hbw (fun k hk=>(World.ownsRow.lt HA.out k hk).1))
  clear g1 g2 g3 e5 hcells
  go_wp2_with fail
  refine hK _ _ ?_ ?_ ?_
  . rfl
  ·
   refine RegLin.keeps_by G2.out (by kernel_rfl) (fun j hj hne hl h=>?_)
   iterate 6 (rcases j with _ | j;first | exact h | exact absurd rfl hne | exact RegLin.dead hl)
   exact absurd hj (by omega)
  . exact G1.out
 ·
  intro V W hc hd
  have h5:OwnB W b0 (V 8) (c2):=hd 5 (by decide) rfl
  clear hd
  simp only [List.drop_succ_cons,List.drop_zero]
  have H9:=hid h5
  have HC:=hid hc
  clear h5 hc
  go_wp2_with fail
  go_ret
  exact⟨_,rfl,own_base H9.out HBW.out,HWW.out _ HC.out⟩
