/- The bytes of a text, of a stamp, of a mutation, behind the bytes of a row of the call's own (layers 3, 7). PRINTED by wip/genmutput.py. · A reader of bytes, in plain Lean: numbers, texts, counts (layer 3). -/
import Derived.Test.YtpeoonnglnchnaaGreatDoorPkAppendLoc
import Derived.Test.YtpeoonnglnchnaaGreatDoorPkRegSp2
import Derived.Test.YtpeoonnglnchnaaGreatDoorMutRows
import Derived.Test.YtpeoonnglnchnaaGreatDoorPkConArg
import Derived.Laws.BitsAllLaws
import Derived.Test.YtpeoonnglnchnaaGreatDoorPkKit
set_option maxHeartbeats 16000000
set_option maxRecDepth 100000
set_option linter.unusedSimpArgs false
set_option linter.unusedVariables false
namespace Go.Proofs.YtpeoonnglnchnaaGreatDoor.Mrk
open Go.Lib (hid)
open Go.RowKit Go.Proofs.YtpeoonnglnchnaaGreatDoor.Spare Go.Proofs.YtpeoonnglnchnaaGreatDoor.RegInv
set_option linter.unusedSectionVars false
def strL (s:ByteArray):List Nat:=s.data.toList.map UInt8.toNat
theorem strL_len (s:ByteArray):(strL s).length=s.size:=by
 unfold strL
 rw [List.length_map,Array.length_toList]
 rfl
theorem strL_cells (s:ByteArray):(strL s).flatMap enB=Lib.strCells s:=by
 unfold strL Lib.strCells
 rw [flat_enB,List.map_map]
 rfl
def textF (s:ByteArray):List Nat:=putF s.size++strL s
def stF (s:Mut.Stp):List Nat:=putF s.p.toNat++(putF s.l.toNat++putF s.w.toNat)
structure BoxG (w0:World) (row:Option Nat) (k:Nat) (o:Array Value) (ty:TypeId) (W:World):Prop where
 grown:w0.grownBy W row
 box:W.heap[k]?=some (.cells o ty (0,0))
theorem BoxG.later {w0 W w1:World} {row:Option Nat} {k:Nat} {o:Array Value} {ty:TypeId} (h:BoxG w0 row k o ty W) (hb:Below W.heap.size W w1):BoxG w0 row k o ty w1:=
 ⟨h.grown.andThen (grown_below (row:=none) hb) (fun j hj=>by cases hj),(hb.block k (Array.getElem?_eq_some_iff.1 h.box).1).trans h.box⟩
theorem BoxG.cell {w0 W:World} {row:Option Nat} {k:Nat} {o:Array Value} {ty:TypeId} (h:BoxG w0 row k o ty W) (i:Nat):W.cell? ⟨k,i,none⟩=o[i]?:=cell_of_row W k i o ty (0,0) h.box
def RowG (w0:World) (base:Nat) (v0:Value) (l:List Nat) (v:Value) (W:World):Prop:=OwnB W base v l∧SpareLoc w0 v0 v
theorem OwnB.below {w w':World} {base:Nat} {v:Value} {l:List Nat} (h:OwnB w base v l) (hb:Below w.heap.size w w'):OwnB w' base v l:=
 World.ownsRow.kept h (grown_below (row:=none) hb) (by cases v.ownBlock <;> simp)
theorem RowG.below {w0 W W':World} {base:Nat} {v0 v:Value} {l:List Nat} (h:RowG w0 base v0 l v W) (hb:Below W.heap.size W W'):RowG w0 base v0 l v W':=⟨h.1.below hb,h.2⟩
def sRow (w0:World) (base:Nat) (v0:Value) (l:List Nat):RSpec:=sOne (RowG w0 base v0 l) (fun _ _ _ h hb=>h.below hb)
theorem rowG_next {w0 W w1:World} {base k:Nat} {o:Array Value} {ty:TypeId} {v0 v v':Value} {l l':List Nat} (hc:BoxG w0 v0.ownBlock k o ty W) (hty:ty≠5) (hr:RowG w0 base v0 l v W)
  (h1:OwnB w1 base v' l') (h2:W.grownBy w1 v.ownBlock) (h3:SpareLoc W v v'):BoxG w0 v0.ownBlock k o ty w1∧RowG w0 base v0 l' v' w1:=by
 have hne:some k≠v.ownBlock:=fun e=>by
  rcases hr.1.2 with ⟨rfl,_⟩ | ⟨g,cap,cur,rfl,_,hg,_⟩
  · cases e
  ·
   have e2:k=g:=by simpa [Value.ownBlock] using e
   subst e2
   rw [hc.box] at hg
   simp at hg
   exact hty hg.2
 refine⟨⟨hc.grown.andThen h2 (fun j hj=>(hr.2 j hj).symm),(h2.block k (Array.getElem?_eq_some_iff.1 hc.box).1 hne).trans hc.box⟩,h1,fun g hg=>?_⟩
 rcases h3 g hg with h | h
 · exact hr.2 g h
 · exact Or.inr (Nat.le_trans hc.grown.size h)
theorem text_onto (s:ByteArray) (base:Nat) (v:Value) (bs:List Nat) (w:World) (hs:s.size≤1000000) (hv:OwnB w base v bs) (hbase:base≤w.heap.size) (hbs:bs.length≤1000000) :
  Calls Tryz.prog 44 #[v,.string s] w (OnPost base v (bs++textF s) w):=by
 obtain⟨i0,hi,hz0,hz1,hz2⟩:=info_parts_B
 have HI:=hid (And.intro hi (And.intro hz0 (And.intro hz1 hz2)))
 clear hi hz0 hz1 hz2
 have HP:=hid (put_onto s.size base v bs w (by omega) hv hbase hbs)
 have hten:=putF_ten (n:=s.size) (by omega)
 obtain⟨L,hL⟩:∃ l,l=bs++putF s.size:=⟨_,rfl⟩
 have hLl:L.length≤2000000:=by rw [hL,List.length_append];omega
 have HL:=hid (show bs++textF s=L++strL s from by rw [hL];unfold textF;rw [List.append_assoc])
 rw [←hL] at HP
 clear hL
 have HV:=hid (show ∀ k,v.ownBlock=some k→base≤k∧k<w.heap.size from fun k hk=>World.ownsRow.lt hv k hk)
 clear hv
 go_enter Tryz.func44,Tryz.ntmps44
 go_wp2_with fail
 refine HP.out.mono ?_
 rintro e w1 ⟨v1,rfl,g1,g2,g3⟩
 have G1:=hid g1
 have G2:=hid g2
 have G3:=hid g3
 have hb1:base≤w1.heap.size:=Nat.le_trans hbase g2.size
 clear g1 g2 g3
 go_wp2_with (at_builtin;refine wpList_append_string_loc rfl _ _ 31 9 rfl base 5 i0 Tryz.underlying31 Tryz.underlying9 HI.out.1 HI.out.2.1 HI.out.2.2.1 HI.out.2.2.2 v1 L.length (L.flatMap enB) rfl G1.out s rfl (by unfold maxLen;omega) (by omega) hb1 ?_)
 intro v2 w2 h1 h2 h3
 have H1:=hid (show OwnB w2 base v2 (L++strL s) from by unfold OwnB;rw [List.length_append,strL_len,List.flatMap_append,strL_cells];exact h1)
 have H2:=hid h2
 have H3:=hid h3
 clear h1 h2 h3
 go_wp2_with fail
 go_ret
 refine⟨_,rfl,by rw [HL.out];exact H1.out,G2.out.andThen H2.out (fun j hj=>(G3.out j hj).symm),fun g hg=>?_⟩
 rcases H3.out g hg with h | h
 · exact G3.out g h
 · exact Or.inr (Nat.le_trans G2.out.size h)
theorem stamp_onto (p l h base:Nat) (v:Value) (bs:List Nat) (w:World) (hp1:p<9223372036854775808) (hl1:l<9223372036854775808) (hh1:h<9223372036854775808) (hv:OwnB w base v bs) (hbase:base≤w.heap.size) (hbs:bs.length≤900000) :
  Calls Tryz.prog 114 #[v,.agg #[.int .i64 p,.int .i64 l,.int .i64 h]] w (OnPost base v (((bs++putF p)++putF l)++putF h) w):=by
 obtain⟨vo,vc,rfl⟩:=hv.form
 obtain⟨w0,hw0⟩:∃ W,W=w.alloc (.cells #[.int .i64 p,.int .i64 l,.int .i64 h] 39):=⟨_,rfl⟩
 obtain⟨k3,hk3⟩:∃ k,k=w.heap.size:=⟨_,rfl⟩
 obtain⟨kb,hkb⟩:∃ k,k=bs.length:=⟨_,rfl⟩
 rw [←hkb] at hv ⊢
 have HBX:=hid (show BoxG w0 (Value.slice vo kb vc).ownBlock k3 #[.int .i64 p,.int .i64 l,.int .i64 h] 39 w0.drew from ⟨World.grownBy.andThen (World.grownBy.refl _ _) (grown_below (row:=none) (Below.refl _ _).drew) (fun j hj=>by cases hj),by rw [hw0,hk3];exact heap_alloc_new w _⟩)
 have HRW:=hid (show RowG w0 base (.slice vo kb vc) bs (.slice vo kb vc) w0.drew from by
  refine⟨?_,fun g hg=>Or.inl hg⟩
  rw [hw0]
  exact (hv.below ((Below.refl _ _).alloc (Nat.le_refl _) _)).below (Below.refl _ _).drew)
 have HBS:=hid (show base≤w0.heap.size from by rw [hw0];simp;omega)
 have HTY:=hid (show 39≠5 from by decide)
 have HW0:=hid hw0
 have HK3:=hid hk3
 have HOUT:=hid (show ∀ W v1 l1,BoxG w0 (Value.slice vo kb vc).ownBlock k3 #[.int .i64 p,.int .i64 l,.int .i64 h] 39 W→RowG w0 base (.slice vo kb vc) l1 v1 W→OnPost base (.slice vo kb vc) l1 w (.returned v1) W from fun W v1 l1 h1 h2=>by
  refine⟨v1,rfl,h2.1,World.grownBy.andThen (by rw [hw0];exact World.grownBy_alloc w _ _) h1.grown (fun j hj=>Or.inr hj),fun g hg=>?_⟩
  rcases h2.2 g hg with h | h
  · exact Or.inl h
  · refine Or.inr (Nat.le_trans ?_ h);rw [hw0];simp)
 have hcm:∀ a b,BoxG w0 (Value.slice vo kb vc).ownBlock k3 #[.int .i64 p,.int .i64 l,.int .i64 h] 39 a→Below a.heap.size a b→BoxG w0 (Value.slice vo kb vc).ownBlock k3 #[.int .i64 p,.int .i64 l,.int .i64 h] 39 b:=fun a b h hb=>h.later hb
 clear hw0 hk3 hv hkb
 have t1:=putF_ten (n:=p) (by omega)
 have t2:=putF_ten (n:=l) (by omega)
 obtain⟨l1,hl1'⟩:∃ x,x=bs++putF p:=⟨_,rfl⟩
 obtain⟨l2,hl2⟩:∃ x,x=l1++putF l:=⟨_,rfl⟩
 obtain⟨l3,hl3⟩:∃ x,x=l2++putF h:=⟨_,rfl⟩
 have n1:l1.length≤900010:=by rw [hl1',List.length_append];omega
 have n2:l2.length≤900020:=by rw [hl2,List.length_append];omega
 rw [←hl1',←hl2,←hl3]
 have HL1:=hid hl1'
 have HL2:=hid hl2
 have HL3:=hid hl3
 have hpr:∀ (j:Nat) (a b:World),(j=3→(fun W=>RowG w0 base (.slice vo kb vc) bs (.slice vo kb vc) W) a)→Below a.heap.size a b→(j=3→(fun W=>RowG w0 base (.slice vo kb vc) bs (.slice vo kb vc) W) b):=fun j a b h hb e=>(h e).below hb
 clear hl1' hl2 hl3 t1 t2
 go_enter Tryz.func114,Tryz.ntmps114
 go_upto_region 1 with fail
 rw [←HW0.out,←HK3.out]
 clear HW0 HK3
 refine RegLin.wp_region_lin (RegLin.useL [(3,6),(6,9)]) (fun W=>BoxG w0 (Value.slice vo kb vc).ownBlock k3 #[.int .i64 p,.int .i64 l,.int .i64 h] 39 W) (fun j W=>j=3→(fun W=>RowG w0 base (.slice vo kb vc) bs (.slice vo kb vc) W) W) 10 [false,false,false,false,false,true,true,true,true,true,true,true,true,true,true]
  [sLit (.slice vo kb vc),
  sLit (.pointer (some ⟨k3,0,none⟩)),
  sLit (.int .i64 p),
  sRow w0 base (.slice vo kb vc) (l1),
  sLit (.pointer (some ⟨k3,1,none⟩)),
  sLit (.int .i64 l),
  sRow w0 base (.slice vo kb vc) (l2),
  sLit (.pointer (some ⟨k3,2,none⟩)),
  sLit (.int .i64 h),
  sRow w0 base (.slice vo kb vc) (l3)] (HBX.out) (fun j _ _=>HRW.out) (by kernel_rfl) (by kernel_rfl) (by kernel_rfl) (by kernel_rfl) (fun F hF=>?_)
 simp only [over,overL,Nat.reduceAdd] at hF
 obtain rfl:=funext hF
 clear hF
 refine⟨⟨?_,?_,?_,?_,?_,?_,?_,?_,?_,?_,trivial⟩,?_⟩
 ·
  intro V W hc hp hd K hK _
  clear hd
  go_wp2_with fail
  exact hK _ _ rfl (RegLin.keeps_below hcm hpr hc (Below.refl _ _)) rfl
 ·
  intro V W hc hp hd K hK _
  clear hd
  go_wp2_with fail
  exact hK _ _ rfl (RegLin.keeps_below hcm hpr hc (Below.refl _ _)) rfl
 ·
  intro V W hc hp hd K hK _
  have h1:(V 6)=.pointer (some ⟨k3,0,none⟩):=hd 1 (by decide) (by kernel_rfl) (RegLin.useL_ok (by kernel_rfl))
  clear hd
  obtain⟨m0,m1,m2⟩:=(And.intro (hc.cell 0) (And.intro (hc.cell 1) (hc.cell 2)))
  go_wp2_with fail
  exact hK _ _ rfl (RegLin.keeps_below hcm hpr hc (Below.refl _ _)) rfl
 ·
  intro V W hc hp hd K hK _
  have h0:(V 5)=.slice vo kb vc:=hd 0 (by decide) (by kernel_rfl) (RegLin.useL_ok (by kernel_rfl))
  have h2:(V 7)=.int .i64 p:=hd 2 (by decide) (by kernel_rfl) (RegLin.useL_ok (by kernel_rfl))
  clear hd
  skip
  have hr:RowG w0 base (.slice vo kb vc) _ _ W:=(hp rfl)
  have hbw:base≤W.heap.size:=Nat.le_trans HBS.out hc.grown.size
  have HR:=hid hr
  have HC:=hid hc
  clear hr hp hc
  go_wp2_with fail
  refine ((by have h:=put_onto p base _ bs W hp1 HR.out.1 hbw (by omega);rw [←HL1.out] at h;exact h:Calls _ _ _ W (OnPost base _ l1 W))).mono ?_
  rintro e w1 ⟨v1,rfl,g1,g2,g3⟩
  have hN:=rowG_next HC.out HTY.out HR.out g1 g2 g3
  go_wp2_with fail
  refine hK _ _ ?_ ?_ ?_
  · rfl
  ·
   refine RegLin.keeps_by hN.1 (by kernel_rfl) (fun j hj hne hl h=>?_)
   iterate 10 (rcases j with _ | j;first | exact h | exact absurd rfl hne | exact Bool.noConfusion (hl.symm.trans (show RegLin.liveB _ _ _ _ _=false from by kernel_rfl)))
   exact absurd hj (by omega)
  · exact hN.2
 ·
  intro V W hc hp hd K hK _
  clear hd
  go_wp2_with fail
  exact hK _ _ rfl (RegLin.keeps_below hcm hpr hc (Below.refl _ _)) rfl
 ·
  intro V W hc hp hd K hK _
  have h4:(V 9)=.pointer (some ⟨k3,1,none⟩):=hd 4 (by decide) (by kernel_rfl) (RegLin.useL_ok (by kernel_rfl))
  clear hd
  obtain⟨m0,m1,m2⟩:=(And.intro (hc.cell 0) (And.intro (hc.cell 1) (hc.cell 2)))
  go_wp2_with fail
  exact hK _ _ rfl (RegLin.keeps_below hcm hpr hc (Below.refl _ _)) rfl
 ·
  intro V W hc hp hd K hK _
  have h3:RowG w0 base (.slice vo kb vc) (l1) (V 8) W:=hd 3 (by decide) (by kernel_rfl) (RegLin.useL_ok (by kernel_rfl))
  have h5:(V 10)=.int .i64 l:=hd 5 (by decide) (by kernel_rfl) (RegLin.useL_ok (by kernel_rfl))
  clear hd
  skip
  have hr:RowG w0 base (.slice vo kb vc) _ _ W:=h3
  have hbw:base≤W.heap.size:=Nat.le_trans HBS.out hc.grown.size
  have HR:=hid hr
  have HC:=hid hc
  clear hr hp hc h3
  go_wp2_with fail
  refine ((by have h:=put_onto l base _ l1 W hl1 HR.out.1 hbw (by omega);rw [←HL2.out] at h;exact h:Calls _ _ _ W (OnPost base _ l2 W))).mono ?_
  rintro e w1 ⟨v1,rfl,g1,g2,g3⟩
  have hN:=rowG_next HC.out HTY.out HR.out g1 g2 g3
  go_wp2_with fail
  refine hK _ _ ?_ ?_ ?_
  · rfl
  ·
   refine RegLin.keeps_by hN.1 (by kernel_rfl) (fun j hj hne hl h=>?_)
   iterate 10 (rcases j with _ | j;first | exact h | exact absurd rfl hne | exact Bool.noConfusion (hl.symm.trans (show RegLin.liveB _ _ _ _ _=false from by kernel_rfl)))
   exact absurd hj (by omega)
  · exact hN.2
 ·
  intro V W hc hp hd K hK _
  clear hd
  go_wp2_with fail
  exact hK _ _ rfl (RegLin.keeps_below hcm hpr hc (Below.refl _ _)) rfl
 ·
  intro V W hc hp hd K hK _
  have h7:(V 12)=.pointer (some ⟨k3,2,none⟩):=hd 7 (by decide) (by kernel_rfl) (RegLin.useL_ok (by kernel_rfl))
  clear hd
  obtain⟨m0,m1,m2⟩:=(And.intro (hc.cell 0) (And.intro (hc.cell 1) (hc.cell 2)))
  go_wp2_with fail
  exact hK _ _ rfl (RegLin.keeps_below hcm hpr hc (Below.refl _ _)) rfl
 ·
  intro V W hc hp hd K hK _
  have h6:RowG w0 base (.slice vo kb vc) (l2) (V 11) W:=hd 6 (by decide) (by kernel_rfl) (RegLin.useL_ok (by kernel_rfl))
  have h8:(V 13)=.int .i64 h:=hd 8 (by decide) (by kernel_rfl) (RegLin.useL_ok (by kernel_rfl))
  clear hd
  skip
  have hr:RowG w0 base (.slice vo kb vc) _ _ W:=h6
  have hbw:base≤W.heap.size:=Nat.le_trans HBS.out hc.grown.size
  have HR:=hid hr
  have HC:=hid hc
  clear hr hp hc h6
  go_wp2_with fail
  refine ((by have h:=put_onto h base _ l2 W hh1 HR.out.1 hbw (by omega);rw [←HL3.out] at h;exact h:Calls _ _ _ W (OnPost base _ l3 W))).mono ?_
  rintro e w1 ⟨v1,rfl,g1,g2,g3⟩
  have hN:=rowG_next HC.out HTY.out HR.out g1 g2 g3
  go_wp2_with fail
  refine hK _ _ ?_ ?_ ?_
  · rfl
  ·
   refine RegLin.keeps_by hN.1 (by kernel_rfl) (fun j hj hne hl h=>?_)
   iterate 10 (rcases j with _ | j;first | exact h | exact absurd rfl hne | exact Bool.noConfusion (hl.symm.trans (show RegLin.liveB _ _ _ _ _=false from by kernel_rfl)))
   exact absurd hj (by omega)
  · exact hN.2
 ·
  intro V W hc hd
  have h9:RowG w0 base (.slice vo kb vc) (l3) (V 14) W:=hd 9 (by decide) rfl
  clear hd
  simp only [List.drop_succ_cons,List.drop_zero]
  have H9:=hid h9
  have HC:=hid hc
  clear h9 hc
  go_wp2_with fail
  go_ret
  exact HOUT.out _ _ _ HC.out H9.out
end Go.Proofs.YtpeoonnglnchnaaGreatDoor.Mrk

namespace Go.Proofs.YtpeoonnglnchnaaGreatDoor.Rd
open Go Go.Proofs.YtpeoonnglnchnaaGreatDoor.Mrk
def numL (B:List Nat) (a:Nat):Nat→Nat→Nat→Except Int (Nat × Nat)
 | 0,_,_=>.error 30
 | f+1,i,n=>match B[i]? with
  | none=>.error 30
  | some c=>if (i=a∧c=128)∨36028797018963968≤n then .error 31 else if c<128 then .ok (n*128+c,i+1) else numL B a f (i+1) (n*128+c % 128)
def numR (B:List Nat) (a:Nat):Except Int (Nat × Nat):=numL B a (B.length+1 - a) a 0
abbrev S:=Nat × Int
def numS (B:List Nat) (s:S):Nat × S:=
 if s.2=0 then match numR B s.1 with
  | .ok (n,a)=>(n,(a,0))
  | .error e=>(0,(s.1,e))
 else (0,s)
theorem numL_step (B:List Nat) (a f i n c:Nat) (h:B[i]?=some c):numL B a (f+1) i n=if (i=a∧c=128)∨36028797018963968≤n then .error 31 else if c<128 then .ok (n*128+c,i+1) else numL B a f (i+1) (n*128+c % 128):=by
 rw [numL,h]
theorem numL_end (B:List Nat) (a f i n:Nat) (h:B.length≤i):numL B a f i n=.error 30:=by
 cases f with
 | zero=>rfl
 | succ f=>rw [numL,List.getElem?_eq_none h]
theorem numL_bound (B:List Nat) (a:Nat):∀ (f i n m b:Nat),i≤B.length→numL B a f i n=.ok (m,b)→i<b∧b≤B.length∧m<4611686018427387904
 | 0,_,_,_,_,_,h=>by cases h
 | f+1,i,n,m,b,hi,h=>by
  cases hc:B[i]? with
  | none=>rw [numL,hc] at h;cases h
  | some c=>
   rw [numL_step B a f i n c hc] at h
   have hl:=(List.getElem?_eq_some_iff.1 hc).1
   split at h
   · cases h
   ·
    rename_i hn
    split at h
    ·
     rename_i h128
     simp only [Except.ok.injEq,Prod.mk.injEq] at h
     obtain⟨rfl,rfl⟩:=h
     refine⟨by omega,by omega,?_⟩
     have:¬ 36028797018963968≤n:=fun h=>hn (Or.inr h)
     omega
    ·
     obtain⟨h1,h2,h3⟩:=numL_bound B a f (i+1) _ m b hl h
     exact⟨by omega,h2,h3⟩
theorem numS_ok (B:List Nat) (s:S) (hs:s.1≤B.length):(numS B s).2.1≤B.length∧(numS B s).1<4611686018427387904∧s.1≤(numS B s).2.1:=by
 unfold numS
 split
 ·
  cases h:numR B s.1 with
  | error e=>exact⟨hs,(show (0:Nat)<4611686018427387904 by omega),Nat.le_refl _⟩
  | ok p=>
   obtain⟨n,a⟩:=p
   obtain⟨h1,h2,h3⟩:=numL_bound B s.1 _ _ _ _ _ hs h
   exact⟨h2,h3,(show s.1≤a by omega)⟩
 · exact⟨hs,(show (0:Nat)<4611686018427387904 by omega),Nat.le_refl _⟩
theorem numL_err (B:List Nat) (a:Nat):∀ (f i n:Nat) (e:Int),numL B a f i n=.error e→e=30∨e=31
 | 0,_,_,e,h=>by simp only [numL,Except.error.injEq] at h;exact Or.inl h.symm
 | f+1,i,n,e,h=>by
  cases hc:B[i]? with
  | none=>rw [numL,hc] at h;simp only [Except.error.injEq] at h;exact Or.inl h.symm
  | some c=>
   rw [numL_step B a f i n c hc] at h
   split at h
   · simp only [Except.error.injEq] at h;exact Or.inr h.symm
   ·
    split at h
    · cases h
    · exact numL_err B a f (i+1) _ e h
theorem numS_pos (B:List Nat) (s:S) (hs:s.1≤B.length) (h0:(numS B s).2.2=0):s.1<(numS B s).2.1:=by
 unfold numS at h0 ⊢
 split
 ·
  rename_i hy
  rw [if_pos hy] at h0
  cases h:numR B s.1 with
  | error e=>
   rw [h] at h0
   have h1:e=0:=h0
   rcases numL_err B s.1 _ _ _ _ h with h2 | h2 <;> omega
  | ok p=>
   obtain⟨n,a⟩:=p
   exact (numL_bound B s.1 _ _ _ _ _ hs h).1
 ·
  rename_i hy
  rw [if_neg hy] at h0
  exact absurd h0 hy
theorem or128_nat (n c:Nat) (hc:c<128):n*128 ||| c=n*128+c:=by
 have h:=Nat.two_pow_add_eq_or_of_lt (i:=7) (by simpa using hc) n
 rw [show (2:Nat) ^ 7=128 from rfl,Nat.mul_comm] at h
 exact h.symm
theorem i64_or_nat (a b:Nat) (ha:a<9223372036854775808) (hb:b<9223372036854775808):bits .or .i64 (a:Int) (b:Int)=((a ||| b:Nat):Int):=by
 have hx:a ||| b<2 ^ 63:=Nat.or_lt_two_pow (by omega) (by omega)
 show IntKind.i64.wrap ((BitVec.ofInt 64 (a:Int) ||| BitVec.ofInt 64 (b:Int)).toNat:Int)=_
 rw [BitVec.toNat_or,ofInt_u64 a (by omega),ofInt_u64 b (by omega),Go.IntWalk.i64_in _ (by omega)]
theorem and127_nat (c:Nat) (hc:c<256):c &&& 127=c % 128:=by
 have h:=Nat.and_two_pow_sub_one_eq_mod c 7
 simpa using h
end Go.Proofs.YtpeoonnglnchnaaGreatDoor.Rd
