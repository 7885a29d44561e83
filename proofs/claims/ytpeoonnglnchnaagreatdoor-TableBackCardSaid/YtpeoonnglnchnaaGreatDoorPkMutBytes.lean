/- PkMutBytes. -/
import Derived.Test.YtpeoonnglnchnaaGreatDoorPkAppendLoc
import Derived.Test.YtpeoonnglnchnaaGreatDoorPkRegSp2
set_option linter.unusedSectionVars false
set_option linter.unusedSimpArgs false
set_option linter.unusedVariables false
set_option maxHeartbeats 16000000
set_option maxRecDepth 100000
namespace Go.Proofs.YtpeoonnglnchnaaGreatDoor.Mrk
open Go.Lib (hid)
open RowKit YtpeoonnglnchnaaGreatDoor.Spare RegInv
def strL (s:ByteArray):List Nat:=s.data.toList.map UInt8.toNat
theorem strL_len (s:ByteArray):(strL s).length=s.size:=by
 unfold strL
 rw [lm0,Array.length_toList]
 rfl
theorem strL_cells (s:ByteArray):(strL s).flatMap enB=Lib.strCells s:=by
 unfold strL Lib.strCells
 rw [flat_enB,List.map_map]
 rfl
def textF (s:ByteArray):List Nat:=putF s.size++strL s
def stF (s:Mut.Stp):List Nat:=putF s.p.toNat++(putF s.l.toNat++putF s.w.toNat)
structure BoxG (w0:World) (row:Option Nat) (k:Nat) (o:Array Value) (ty:TypeId) (W:World):Prop where
 grown:w0.grownBy W row
 box:W.heap[k]?=some (.cells o ty (0,0))
theorem BoxG.later {w0 W w1:World} {row:Option Nat} {k:Nat} {o:Array Value} {ty:TypeId} (h:BoxG w0 row k o ty W) (hb:Below W.heap.size W w1):BoxG w0 row k o ty w1:=
 ⟨h.grown.andThen (grown_below (row:=none) hb) (fun j hj=>by cases hj),(hb.block k (ag0.1 h.box).1).trans h.box⟩
theorem BoxG.cell {w0 W:World} {row:Option Nat} {k:Nat} {o:Array Value} {ty:TypeId} (h:BoxG w0 row k o ty W) (i:Nat):W.cell? ⟨k,i,none⟩=o[i]?:=cell_of_row W k i o ty (0,0) h.box
def RowG (w0:World) (base:Nat) (v0:Value) (l:List Nat) (v:Value) (W:World):Prop:=OwnB W base v l/\SpareLoc w0 v0 v
theorem OwnB.below {w w':World} {base:Nat} {v:Value} {l:List Nat} (h:OwnB w base v l) (hb:Below w.heap.size w w'):OwnB w' base v l:=
 World.ownsRow.kept h (grown_below (row:=none) hb) (by cases v.ownBlock <;> simp)
theorem RowG.below {w0 W W':World} {base:Nat} {v0 v:Value} {l:List Nat} (h:RowG w0 base v0 l v W) (hb:Below W.heap.size W W'):RowG w0 base v0 l v W':=⟨h.1.below hb,h.2⟩
def sRow (w0:World) (base:Nat) (v0:Value) (l:List Nat):RSpec:=sOne (RowG w0 base v0 l) (fun _ _ _ h hb=>h.below hb)
theorem rowG_next {w0 W w1:World} {base k:Nat} {o:Array Value} {ty:TypeId} {v0 v v':Value} {l l':List Nat} (hc:BoxG w0 v0.ownBlock k o ty W) (hty:ty≠5) (hr:RowG w0 base v0 l v W)
  (h1:OwnB w1 base v' l') (h2:W.grownBy w1 v.ownBlock) (h3:SpareLoc W v v'):BoxG w0 v0.ownBlock k o ty w1/\RowG w0 base v0 l' v' w1:=by
 have hne:some k≠v.ownBlock:=fun e=>by
  rcases hr.1.2 with ⟨rfl,_⟩ | ⟨g,cap,cur,rfl,_,hg,_⟩
  . cases e
  ·
   have e2:k=g:=by simpa [Value.ownBlock] using e
   subst e2
   rw [hc.box] at hg
   simp at hg
   exact hty hg.2
 refine⟨⟨hc.grown.andThen h2 (fun j hj=>(hr.2 j hj).symm),(h2.block k (ag0.1 hc.box).1 hne).trans hc.box⟩,h1,fun g hg=>?_⟩
 rcases h3 g hg with h | h
 . exact hr.2 g h
 . exact Or.inr (Nat.le_trans hc.grown.size h)
theorem text_onto (s:ByteArray) (base:Nat) (v:Value) (bs:List Nat) (w:World) (hs:s.size<=1000000) (hv:OwnB w base v bs) (hbase:base<=w.heap.size) (hbs:bs.length<=1000000) :
  Calls Tryz.prog 44 #[v,.string s] w (OnPost base v (bs++textF s) w):=by
 obtain⟨i0,hi,hz0,hz1,hz2⟩:=info_parts_B
 have HI:=hid (And.intro hi (And.intro hz0 (And.intro hz1 hz2)))
 clear hi hz0 hz1 hz2
 have HP:=hid (put_onto s.size base v bs w (by omega) hv hbase hbs)
 have hten:=putF_ten (n:=s.size) (by omega)
 obtain⟨L,hL⟩:∃ l,l=bs++putF s.size:=⟨_,rfl⟩
 have hLl:L.length<=2000000:=by rw [hL,la0];omega
 have HL:=hid (show bs++textF s=L++strL s from by rw [hL];unfold textF;rw [List.append_assoc])
 rw [<-hL] at HP
 clear hL
 have HV:=hid (show ∀ k,v.ownBlock=some k->base<=k/\k<w.heap.size from fun k hk=>World.ownsRow.lt hv k hk)
 clear hv
 go_enter Tryz.func44,Tryz.ntmps44
 go_wp2_with fail
 refine HP.out.mono ?_
 rintro e w1 ⟨v1,rfl,g1,g2,g3⟩
 have G1:=hid g1
 have G2:=hid g2
 have G3:=hid g3
 have hb1:base<=w1.heap.size:=Nat.le_trans hbase g2.size
 clear g1 g2 g3
 go_wp2_with (at_builtin;refine wpList_append_string_loc rfl _ _ 31 9 rfl base 5 i0 Tryz.underlying31 Tryz.underlying9 HI.out.1 HI.out.2.1 HI.out.2.2.1 HI.out.2.2.2 v1 L.length (L.flatMap enB) rfl G1.out s rfl (by unfold maxLen;omega) (by omega) hb1 ?_)
 intro v2 w2 h1 h2 h3
 have H1:=hid (show OwnB w2 base v2 (L++strL s) from by unfold OwnB;rw [la0,strL_len,fa0,strL_cells];exact h1)
 have H2:=hid h2
 have H3:=hid h3
 clear h1 h2 h3
 go_wp2_with fail
 go_ret
 refine⟨_,rfl,by rw [HL.out];exact H1.out,G2.out.andThen H2.out (fun j hj=>(G3.out j hj).symm),fun g hg=>?_⟩
 rcases H3.out g hg with h | h
 . exact G3.out g h
 . exact Or.inr (Nat.le_trans G2.out.size h)
theorem stamp_onto (p l h base:Nat) (v:Value) (bs:List Nat) (w:World) (hp1:p<9223372036854775808) (hl1:l<9223372036854775808) (hh1:h<9223372036854775808) (hv:OwnB w base v bs) (hbase:base<=w.heap.size) (hbs:bs.length<=900000) :
  Calls Tryz.prog 114 #[v,.agg #[.int .i64 p,.int .i64 l,.int .i64 h]] w (OnPost base v (((bs++putF p)++putF l)++putF h) w):=by
 obtain⟨vo,vc,rfl⟩:=hv.form
 obtain⟨w0,hw0⟩:∃ W,W=w.alloc (.cells #[.int .i64 p,.int .i64 l,.int .i64 h] 39):=⟨_,rfl⟩
 obtain⟨k3,hk3⟩:∃ k,k=w.heap.size:=⟨_,rfl⟩
 obtain⟨kb,hkb⟩:∃ k,k=bs.length:=⟨_,rfl⟩
 rw [<-hkb] at hv ⊢
 have HBX:=hid (show BoxG w0 (Value.slice vo kb vc).ownBlock k3 #[.int .i64 p,.int .i64 l,.int .i64 h] 39 w0.drew from ⟨World.grownBy.andThen (World.grownBy.refl _ _) (grown_below (row:=none) br.drew) (fun j hj=>by cases hj),by rw [hw0,hk3];exact heap_alloc_new w _⟩)
 have HRW:=hid (show RowG w0 base (.slice vo kb vc) bs (.slice vo kb vc) w0.drew from by
  refine⟨?_,fun g hg=>Or.inl hg⟩
  rw [hw0]
  exact (hv.below (br.alloc lr _)).below br.drew)
 have HBS:=hid (show base<=w0.heap.size from by rw [hw0];simp;omega)
 have HTY:=hid (show 39≠5 from by decide)
 have HW0:=hid hw0
 have HK3:=hid hk3
 have HOUT:=hid (show ∀ W v1 l1,BoxG w0 (Value.slice vo kb vc).ownBlock k3 #[.int .i64 p,.int .i64 l,.int .i64 h] 39 W->RowG w0 base (.slice vo kb vc) l1 v1 W->OnPost base (.slice vo kb vc) l1 w (.returned v1) W from fun W v1 l1 h1 h2=>by
  refine⟨v1,rfl,h2.1,World.grownBy.andThen (by rw [hw0];exact World.grownBy_alloc w _ _) h1.grown (fun j hj=>Or.inr hj),fun g hg=>?_⟩
  rcases h2.2 g hg with h | h
  . exact Or.inl h
  . refine Or.inr (Nat.le_trans ?_ h);rw [hw0];simp)
 have hcm:∀ a b,BoxG w0 (Value.slice vo kb vc).ownBlock k3 #[.int .i64 p,.int .i64 l,.int .i64 h] 39 a->Below a.heap.size a b->BoxG w0 (Value.slice vo kb vc).ownBlock k3 #[.int .i64 p,.int .i64 l,.int .i64 h] 39 b:=fun a b h hb=>h.later hb
 clear hw0 hk3 hv hkb
 have t1:=putF_ten (n:=p) (by omega)
 have t2:=putF_ten (n:=l) (by omega)
 obtain⟨l1,hl1'⟩:∃ x,x=bs++putF p:=⟨_,rfl⟩
 obtain⟨l2,hl2⟩:∃ x,x=l1++putF l:=⟨_,rfl⟩
 obtain⟨l3,hl3⟩:∃ x,x=l2++putF h:=⟨_,rfl⟩
 have n1:l1.length<=900010:=by rw [hl1',la0];omega
 have n2:l2.length<=900020:=by rw [hl2,la0];omega
 rw [<-hl1',<-hl2,<-hl3]
 have HL1:=hid hl1'
 have HL2:=hid hl2
 have HL3:=hid hl3
 have hpr:∀ (j:Nat) (a b:World),(j=3->(fun W=>RowG w0 base (.slice vo kb vc) bs (.slice vo kb vc) W) a)->Below a.heap.size a b->(j=3->(fun W=>RowG w0 base (.slice vo kb vc) bs (.slice vo kb vc) W) b):=fun j a b h hb e=>(h e).below hb
 clear hl1' hl2 hl3 t1 t2
 go_enter Tryz.func114,Tryz.ntmps114
 go_upto_region 1 with fail
 rw [<-HW0.out,<-HK3.out]
 clear HW0 HK3
 refine RegLin.wp_region_lin (RegLin.useL [(3,6),(6,9)]) (fun W=>BoxG w0 (Value.slice vo kb vc).ownBlock k3 #[.int .i64 p,.int .i64 l,.int .i64 h] 39 W) (fun j W=>j=3->(fun W=>RowG w0 base (.slice vo kb vc) bs (.slice vo kb vc) W) W) 10 [false,false,false,false,false,true,true,true,true,true,true,true,true,true,true]
  [sLit (.slice vo kb vc),
  sLit (.pointer (some ⟨k3,0,none⟩)),
  sLit (.int .i64 p),
  sRow w0 base (.slice vo kb vc) (l1),
  sLit (.pointer (some ⟨k3,1,none⟩)),
  sLit (.int .i64 l),
  sRow w0 base (.slice vo kb vc) (l2),
  sLit (.pointer (some ⟨k3,2,none⟩)),
  sLit (.int .i64 h),
  sRow w0 base (.slice vo kb vc) (l3)] (HBX.out) (fun j _ _=>HRW.out) (by kernel_rfl) (by kernel_rfl) (by kernel_rfl) (by kernel_rfl) (fun F hF=>?_)
 simp only [over,overL,Nat.reduceAdd] at hF
 obtain rfl:=funext hF
 clear hF
 refine⟨⟨?_,?_,?_,?_,?_,?_,?_,?_,?_,?_,trivial⟩,?_⟩
 ·
  intro V W hc hp hd K hK _
  clear hd
  go_wp2_with fail
  exact hK _ _ rfl (RegLin.keeps_below hcm hpr hc br) rfl
 ·
  intro V W hc hp hd K hK _
  clear hd
  go_wp2_with fail
  exact hK _ _ rfl (RegLin.keeps_below hcm hpr hc br) rfl
 ·
  intro V W hc hp hd K hK _
  have h1:(V 6)=.pointer (some ⟨k3,0,none⟩):=(RegLin.ask hd 1:)
  clear hd
  obtain⟨m0,m1,m2⟩:=(And.intro (hc.cell 0) (And.intro (hc.cell 1) (hc.cell 2)))
  go_wp2_with fail
  exact hK _ _ rfl (RegLin.keeps_below hcm hpr hc br) rfl
 ·
  intro V W hc hp hd K hK _
  have h0:(V 5)=.slice vo kb vc:=(RegLin.ask hd 0:)
  have h2:(V 7)=.int .i64 p:=(RegLin.ask hd 2:)
  clear hd
  skip
  have hr:RowG w0 base (.slice vo kb vc) _ _ W:=(hp rfl)
  have hbw:base<=W.heap.size:=Nat.le_trans HBS.out hc.grown.size
  have HR:=hid hr
  have HC:=hid hc
  clear hr hp hc
  go_wp2_with fail
  refine ((by have h:=put_onto p base _ bs W hp1 HR.out.1 hbw (by omega);rw [<-HL1.out] at h;exact h:Calls _ _ _ W (OnPost base _ l1 W))).mono ?_
  rintro e w1 ⟨v1,rfl,g1,g2,g3⟩
  have hN:=rowG_next HC.out HTY.out HR.out g1 g2 g3
  go_wp2_with fail
  refine hK _ _ ?_ ?_ ?_
  . rfl
  ·
   refine RegLin.keeps_by hN.1 (by kernel_rfl) (fun j hj hne hl h=>?_)
   iterate 10 (rcases j with _ | j;first | exact h | exact absurd rfl hne | exact RegLin.dead hl)
   exact absurd hj (by omega)
  . exact hN.2
 ·
  intro V W hc hp hd K hK _
  clear hd
  go_wp2_with fail
  exact hK _ _ rfl (RegLin.keeps_below hcm hpr hc br) rfl
 ·
  intro V W hc hp hd K hK _
  have h4:(V 9)=.pointer (some ⟨k3,1,none⟩):=(RegLin.ask hd 4:)
  clear hd
  obtain⟨m0,m1,m2⟩:=(And.intro (hc.cell 0) (And.intro (hc.cell 1) (hc.cell 2)))
  go_wp2_with fail
  exact hK _ _ rfl (RegLin.keeps_below hcm hpr hc br) rfl
 ·
  intro V W hc hp hd K hK _
  have h3:RowG w0 base (.slice vo kb vc) (l1) (V 8) W:=(RegLin.ask hd 3:)
  have h5:(V 10)=.int .i64 l:=(RegLin.ask hd 5:)
  clear hd
  skip
  have hr:RowG w0 base (.slice vo kb vc) _ _ W:=h3
  have hbw:base<=W.heap.size:=Nat.le_trans HBS.out hc.grown.size
  have HR:=hid hr
  have HC:=hid hc
  clear hr hp hc h3
  go_wp2_with fail
  refine ((by have h:=put_onto l base _ l1 W hl1 HR.out.1 hbw (by omega);rw [<-HL2.out] at h;exact h:Calls _ _ _ W (OnPost base _ l2 W))).mono ?_
  rintro e w1 ⟨v1,rfl,g1,g2,g3⟩
  have hN:=rowG_next HC.out HTY.out HR.out g1 g2 g3
  go_wp2_with fail
  refine hK _ _ ?_ ?_ ?_
  . rfl
  ·
   refine RegLin.keeps_by hN.1 (by kernel_rfl) (fun j hj hne hl h=>?_)
   iterate 10 (rcases j with _ | j;first | exact h | exact absurd rfl hne | exact RegLin.dead hl)
   exact absurd hj (by omega)
  . exact hN.2
 ·
  intro V W hc hp hd K hK _
  clear hd
  go_wp2_with fail
  exact hK _ _ rfl (RegLin.keeps_below hcm hpr hc br) rfl
 ·
  intro V W hc hp hd K hK _
  have h7:(V 12)=.pointer (some ⟨k3,2,none⟩):=(RegLin.ask hd 7:)
  clear hd
  obtain⟨m0,m1,m2⟩:=(And.intro (hc.cell 0) (And.intro (hc.cell 1) (hc.cell 2)))
  go_wp2_with fail
  exact hK _ _ rfl (RegLin.keeps_below hcm hpr hc br) rfl
 ·
  intro V W hc hp hd K hK _
  have h6:RowG w0 base (.slice vo kb vc) (l2) (V 11) W:=(RegLin.ask hd 6:)
  have h8:(V 13)=.int .i64 h:=(RegLin.ask hd 8:)
  clear hd
  skip
  have hr:RowG w0 base (.slice vo kb vc) _ _ W:=h6
  have hbw:base<=W.heap.size:=Nat.le_trans HBS.out hc.grown.size
  have HR:=hid hr
  have HC:=hid hc
  clear hr hp hc h6
  go_wp2_with fail
  refine ((by have h:=put_onto h base _ l2 W hh1 HR.out.1 hbw (by omega);rw [<-HL3.out] at h;exact h:Calls _ _ _ W (OnPost base _ l3 W))).mono ?_
  rintro e w1 ⟨v1,rfl,g1,g2,g3⟩
  have hN:=rowG_next HC.out HTY.out HR.out g1 g2 g3
  go_wp2_with fail
  refine hK _ _ ?_ ?_ ?_
  . rfl
  ·
   refine RegLin.keeps_by hN.1 (by kernel_rfl) (fun j hj hne hl h=>?_)
   iterate 10 (rcases j with _ | j;first | exact h | exact absurd rfl hne | exact RegLin.dead hl)
   exact absurd hj (by omega)
  . exact hN.2
 ·
  intro V W hc hd
  have h9:RowG w0 base (.slice vo kb vc) (l3) (V 14) W:=hd 9 (by decide) rfl
  clear hd
  simp only [List.drop_succ_cons,List.drop_zero]
  have H9:=hid h9
  have HC:=hid hc
  clear h9 hc
  go_wp2_with fail
  go_ret
  exact HOUT.out _ _ _ HC.out H9.out
end Go.Proofs.YtpeoonnglnchnaaGreatDoor.Mrk
namespace Go.Proofs.YtpeoonnglnchnaaGreatDoor.Rd
open Go Mrk
def numL (B:List Nat) (a:Nat):Nat->Nat->Nat->Except Int (Nat × Nat)
 | 0,_,_=>.error 30
 | f+1,i,n=>match B[i]? with
  | none=>.error 30
  | some c=>if (i=a/\c=128)\/36028797018963968<=n then .error 31 else if c<128 then .ok (n*128+c,i+1) else numL B a f (i+1) (n*128+c % 128)
def numR (B:List Nat) (a:Nat):Except Int (Nat × Nat):=numL B a (B.length+1 - a) a 0
abbrev S:=Nat × Int
def numS (B:List Nat) (s:S):Nat × S:=
 if s.2=0 then match numR B s.1 with
  | .ok (n,a)=>(n,(a,0))
  | .error e=>(0,(s.1,e))
 else (0,s)
theorem numL_step (B:List Nat) (a f i n c:Nat) (h:B[i]?=some c):numL B a (f+1) i n=if (i=a/\c=128)\/36028797018963968<=n then .error 31 else if c<128 then .ok (n*128+c,i+1) else numL B a f (i+1) (n*128+c % 128):=by
 rw [numL,h]
theorem numL_end (B:List Nat) (a f i n:Nat) (h:B.length<=i):numL B a f i n=.error 30:=by
 cases f with
 | zero=>rfl
 | succ f=>rw [numL,List.getElem?_eq_none h]
theorem numL_bound (B:List Nat) (a:Nat):∀ (f i n m b:Nat),i<=B.length->numL B a f i n=.ok (m,b)->i<b/\b<=B.length/\m<4611686018427387904
 | 0,_,_,_,_,_,h=>by cases h
 | f+1,i,n,m,b,hi,h=>by
  cases hc:B[i]? with
  | none=>rw [numL,hc] at h;cases h
  | some c=>
   rw [numL_step B a f i n c hc] at h
   have hl:=(gs0.1 hc).1
   split at h
   . cases h
   ·
    rename_i hn
    split at h
    ·
     rename_i h128
     simp only [Except.ok.injEq,Prod.mk.injEq] at h
     obtain⟨rfl,rfl⟩:=h
     refine⟨by omega,by omega,?_⟩
     have:¬ 36028797018963968<=n:=fun h=>hn (Or.inr h)
     omega
    ·
     obtain⟨h1,h2,h3⟩:=numL_bound B a f (i+1) _ m b hl h
     exact⟨by omega,h2,h3⟩
theorem numS_ok (B:List Nat) (s:S) (hs:s.1<=B.length):(numS B s).2.1<=B.length/\(numS B s).1<4611686018427387904/\s.1<=(numS B s).2.1:=by
 unfold numS
 split
 ·
  cases h:numR B s.1 with
  | error e=>exact⟨hs,(show (0:Nat)<4611686018427387904 by omega),Nat.le_refl _⟩
  | ok p=>
   obtain⟨n,a⟩:=p
   obtain⟨h1,h2,h3⟩:=numL_bound B s.1 _ _ _ _ _ hs h
   exact⟨h2,h3,(show s.1<=a by omega)⟩
 . exact⟨hs,(show (0:Nat)<4611686018427387904 by omega),Nat.le_refl _⟩
theorem numL_err (B:List Nat) (a:Nat):∀ (f i n:Nat) (e:Int),numL B a f i n=.error e->e=30\/e=31
 | 0,_,_,e,h=>by simp only [numL,Except.error.injEq] at h;exact Or.inl h.symm
 | f+1,i,n,e,h=>by
  cases hc:B[i]? with
  | none=>rw [numL,hc] at h;simp only [Except.error.injEq] at h;exact Or.inl h.symm
  | some c=>
   rw [numL_step B a f i n c hc] at h
   split at h
   . simp only [Except.error.injEq] at h;exact Or.inr h.symm
   ·
    split at h
    . cases h
    . exact numL_err B a f (i+1) _ e h
theorem numS_pos (B:List Nat) (s:S) (hs:s.1<=B.length) (h0:(numS B s).2.2=0):s.1<(numS B s).2.1:=by
 unfold numS at h0 ⊢
 split
 ·
  rename_i hy
  rw [if_pos hy] at h0
  cases h:numR B s.1 with
  | error e=>
   rw [h] at h0
   have h1:e=0:=h0
   rcases numL_err B s.1 _ _ _ _ h with h2 | h2 <;> omega
  | ok p=>
   obtain⟨n,a⟩:=p
   exact (numL_bound B s.1 _ _ _ _ _ hs h).1
 ·
  rename_i hy
  rw [if_neg hy] at h0
  exact absurd h0 hy
theorem or128_nat (n c:Nat) (hc:c<128):n*128 ||| c=n*128+c:=by
 have h:=Nat.two_pow_add_eq_or_of_lt (i:=7) (by simpa using hc) n
 rw [show (2:Nat) ^ 7=128 from rfl,Nat.mul_comm] at h
 exact h.symm
theorem i64_or_nat (a b:Nat) (ha:a<9223372036854775808) (hb:b<9223372036854775808):bits .or .i64 (a:Int) (b:Int)=((a ||| b:Nat):Int):=by
 have hx:a ||| b<2 ^ 63:=Nat.or_lt_two_pow (by omega) (by omega)
 show IntKind.i64.wrap ((BitVec.ofInt 64 (a:Int) ||| BitVec.ofInt 64 (b:Int)).toNat:Int)=_
 rw [BitVec.toNat_or,ofInt_u64 a (by omega),ofInt_u64 b (by omega),Go.IntWalk.i64_in _ (by omega)]
theorem and127_nat (c:Nat) (hc:c<256):c &&& 127=c % 128:=by
 have h:=Nat.and_two_pow_sub_one_eq_mod c 7
 simpa using h
end Go.Proofs.YtpeoonnglnchnaaGreatDoor.Rd
namespace Go.Proofs.YtpeoonnglnchnaaGreatDoor.Rd
open Go.Lib (hid)
open RowKit Mrk
structure Rdr (w:World) (r:Nat) (v:Value) (B:List Nat) (s:S):Prop where
 lt:r<w.heap.size
 c0:w.cell? ⟨r,0,none⟩=some v
 c1:w.cell? ⟨r,1,none⟩=some (.int .i64 (s.1:Nat))
 c2:w.cell? ⟨r,2,none⟩=some (.int .i64 s.2)
 f0:w.frozen? ⟨r,0,none⟩=false
 f1:w.frozen? ⟨r,1,none⟩=false
 f2:w.frozen? ⟨r,2,none⟩=false
 row:BRow w v B
 far:B≠[]->∀ ad n c,v=.slice (some ad) n c->ad.block≠r
 at_:s.1<=B.length
 small:B.length<=100000000
theorem Rdr.below {w w':World} {r:Nat} {v:Value} {B:List Nat} {s:S} (h:Rdr w r v B s) (hb:Below w.heap.size w w'):Rdr w' r v B s:=
 ⟨Nat.lt_of_lt_of_le h.lt hb.size,(hb.cell (p:=⟨r,0,none⟩) h.lt).trans h.c0,(hb.cell (p:=⟨r,1,none⟩) h.lt).trans h.c1,(hb.cell (p:=⟨r,2,none⟩) h.lt).trans h.c2,(hb.frozen (p:=⟨r,0,none⟩) h.lt).trans h.f0,(hb.frozen (p:=⟨r,1,none⟩) h.lt).trans h.f1,(hb.frozen (p:=⟨r,2,none⟩) h.lt).trans h.f2,Lst.below h.row hb,h.far,h.at_,h.small⟩
theorem lst_set {α:Type} {sz:Nat} {en:α->List Value} {w:World} {v:Value} {l:List α} (h:Lst sz en w v l) {r o:Nat} {u:Value} (hf:l≠[]->∀ ad n c,v=.slice (some ad) n c->ad.block≠r):Lst sz en (w.setCell ⟨r,o,none⟩ u) v l:=by
 obtain⟨ao,cap,e1,h1,h2,h3⟩:=h
 by_cases hl:l=[]
 . exact⟨ao,cap,e1,h1,h2,Or.inl (by rw [hl];rfl)⟩
 refine⟨ao,cap,e1,h1,h2,h3.imp id ?_⟩
 rintro⟨g,off,e2,hb,hc⟩
 subst e2
 have hne:=hf hl ⟨g,off,none⟩ _ _ e1
 refine⟨g,off,rfl,by simpa using hb,fun i x hi j hj=>?_⟩
 rw [World.cell?_setCell_far w ⟨r,o,none⟩ ⟨g,off+i*sz+j,none⟩ u (fun e=>hne e.symm)]
 exact hc i x hi j hj
theorem Rdr.setAt {w:World} {r:Nat} {v:Value} {B:List Nat} {s:S} (h:Rdr w r v B s) (a:Nat) (ha:a<=B.length):Rdr (w.setCell ⟨r,1,none⟩ (.int .i64 (a:Nat))) r v B (a,s.2):=by
 obtain⟨h0,h1,h2,h3,h4,h5,h6,h7,h8,h9,h10⟩:=h
 exact⟨by simpa using h0,by go_simp,by go_simp,by go_simp,by go_simp,by go_simp,by go_simp,lst_set h7 h8,h8,ha,h10⟩
theorem Rdr.setWhy {w:World} {r:Nat} {v:Value} {B:List Nat} {s:S} (h:Rdr w r v B s) (y:Int):Rdr (w.setCell ⟨r,2,none⟩ (.int .i64 y)) r v B (s.1,y):=by
 obtain⟨h0,h1,h2,h3,h4,h5,h6,h7,h8,h9,h10⟩:=h
 exact⟨by simpa using h0,by go_simp,by go_simp,by go_simp,by go_simp,by go_simp,by go_simp,lst_set h7 h8,h8,h9,h10⟩
theorem grown_cell' (w:World) (k o:Nat) (u:Value):w.grownBy (w.setCell ⟨k,o,none⟩ u) (some k):=grown_setCell (World.grownBy.refl _ _) (Or.inl rfl) _
def RdP (r:Nat) (v:Value) (B:List Nat) (s:S) (x:Value) (w:World) (e:Ending) (w':World):Prop:=e=.returned x/\Rdr w' r v B s/\w.grownBy w' (some r)
abbrev pR (r:Nat):Value:=.pointer (some ⟨r,0,none⟩)
def failS (s:S) (y:Int):S:=if s.2=0 then (s.1,y) else s
theorem fail_any (r:Nat) (v:Value) (B:List Nat) (s:S) (y:Int) (w:World) (h:Rdr w r v B s):Calls Tryz.prog 70 #[pR r,.int .i64 y] w (RdP r v B (failS s y) (.tuple #[]) w):=by
 obtain⟨a,q⟩:=s
 have HR:=hid h
 obtain⟨-,c0,c1,c2,f0,f1,f2,-,-,-,-⟩:=h
 simp only [] at c1 c2
 by_cases hq:q=0
 ·
  have HW:=hid (HR.out.setWhy y)
  have e:failS (a,q) y=(a,y):=by unfold failS;rw [if_pos hq]
  rw [e]
  subst hq
  clear e
  go_enter Tryz.func70,Tryz.ntmps70
  go_wp2_with fail
  first
   | (go_ret;exact⟨rfl,HW.out,grown_cell' _ _ _ _⟩)
   | (go_end0;exact⟨rfl,HW.out,grown_cell' _ _ _ _⟩)
 ·
  have e:failS (a,q) y=(a,q):=by unfold failS;rw [if_neg hq]
  rw [e]
  clear e
  go_enter Tryz.func70,Tryz.ntmps70
  go_wp2_with fail
  first
   | (go_ret;exact⟨rfl,HR.out,World.grownBy.refl _ _⟩)
   | (go_end0;exact⟨rfl,HR.out,World.grownBy.refl _ _⟩)
theorem why_any (r:Nat) (v:Value) (B:List Nat) (s:S) (w:World) (h:Rdr w r v B s):Calls Tryz.prog 35 #[pR r] w fun e w'=>e=.returned (.int .i64 s.2)/\w=w':=by
 obtain⟨-,c0,c1,c2,f0,f1,f2,-,-,-,-⟩:=h
 go_enter Tryz.func35,Tryz.ntmps35
 go_wp2_with fail
 go_ret
 exact⟨rfl,rfl⟩
theorem at_any (r:Nat) (v:Value) (B:List Nat) (s:S) (w:World) (h:Rdr w r v B s):Calls Tryz.prog 72 #[pR r] w fun e w'=>e=.returned (.int .i64 (s.1:Nat))/\w=w':=by
 obtain⟨-,c0,c1,c2,f0,f1,f2,-,-,-,-⟩:=h
 go_enter Tryz.func72,Tryz.ntmps72
 go_wp2_with fail
 go_ret
 exact⟨rfl,rfl⟩
theorem left_any (r:Nat) (v:Value) (B:List Nat) (s:S) (w:World) (h:Rdr w r v B s):Calls Tryz.prog 71 #[pR r] w fun e w'=>e=.returned (.int .i64 ((B.length - s.1:Nat):Int))/\Below w.heap.size w w':=by
 obtain⟨ao,cap,rfl,-,-⟩:=Lst.form h.row
 obtain⟨n,hn⟩:∃ n,n=B.length:=⟨_,rfl⟩
 have hs:=h.small
 have ha:=h.at_
 have hlt0:=h.lt
 obtain⟨-,c0,c1,c2,f0,f1,f2,-,-,-,-⟩:=h
 rw [<-hn] at c0 hs ha ⊢
 obtain⟨a,y⟩:=s
 simp only [] at c1 c2 ha ⊢
 have e:IntKind.i64.wrap ((n:Int) - (a:Int))=((n - a:Nat):Int):=by rw [Go.IntWalk.i64_in _ (by omega)];omega
 clear hn
 have hlt:r<w.heap.size:=hlt0
 go_enter Tryz.func71,Tryz.ntmps71
 go_upto_region 1 with fail
 refine wp_region_calm (by kernel_rfl) (by kernel_rfl) ?_
 repeat (go_big_quiet_step (fail))
 refine wpQuiet_nil ?_
 rintro _ ⟨y,rfl⟩
 go_wp2_with fail
 go_ret
 exact⟨rfl,y.below⟩
theorem num_any (r:Nat) (v:Value) (B:List Nat) (s:S) (w:World) (h:Rdr w r v B s) (hB:∀ c∈B,c<256):Calls Tryz.prog 69 #[pR r] w (RdP r v B (numS B s).2 (.int .i64 ((numS B s).1:Nat)) w):=by
 obtain⟨ao,cap,rfl,-,-⟩:=Lst.form h.row
 obtain⟨nb,hnb⟩:∃ n,n=B.length:=⟨_,rfl⟩
 obtain⟨a,y⟩:=s
 have hh:Rdr w r (.slice ao nb cap) B (a,y):=by rw [hnb];exact h
 have HFI:=hid (show ∀ (s:S) (x:Value) (e:Ending) (w':World),RdP r (.slice ao nb cap) B s x w e w'->RdP r (.slice ao B.length cap) B s x w e w' from fun s x e w' h=>by rw [<-hnb];exact h)
 have hsm:nb<=100000000:=by rw [hnb];exact h.small
 have hat:a<=nb:=by rw [hnb];exact h.at_
 have HR:=hid hh
 have HB:=hid hB
 have HNB:=hid hnb
 refine Calls.mono (R:=RdP r (.slice ao nb cap) B (numS B (a,y)).2 (.int .i64 ((numS B (a,y)).1:Nat)) w) ?_ (fun e w' h=>HFI.out _ _ e w' h)
 obtain⟨-,c0,c1,c2,f0,f1,f2,-,-,-,-⟩:=hh
 simp only [] at c1 c2
 clear h hB hnb
 by_cases hy:y=0
 ·
  subst hy
  obtain⟨Q,hQ⟩:∃ Q,Q=numS B (a,0):=⟨_,rfl⟩
  rw [<-hQ]
  have HQ:=hid (show (match numR B a with | .ok (n,b)=>(n,(b,(0:Int))) | .error e=>(0,(a,e)))=Q from by rw [hQ];unfold numS;first | (rw [if_pos rfl];rfl) | rw [if_pos rfl])
  have HF:=hid (fun (y:Int) (w1:World) (h:Rdr w1 r (.slice ao nb cap) B (a,0))=>fail_any r (.slice ao nb cap) B (a,0) y w1 h)
  clear hQ c0 c1 c2 f0 f1 f2
  have hc1:w.cell? ⟨r,1,none⟩=some (.int .i64 (a:Nat)):=HR.out.c1
  go_enter Tryz.func69,Tryz.ntmps69
  go_wp2_with fail
  clear hc1
  go_loopw [3,4] (fun nv iv wr=>∃ (i n:Nat) (y:Int),nv=.int .i64 n/\iv=.int .i64 i/\a<=i/\i<=nb+1/\n<4611686018427387904/\Hid (Rdr wr r (.slice ao nb cap) B (a,y))/\Hid (w.grownBy wr (some r))/\((y=0/\i<=nb/\Hid (numL B a (nb+1 - i) i n=numR B a))\/(y≠0/\Hid (Q=(0,(a,y)))))) (fun _ iv _=>nb+2 - (intOf iv).toNat)
  case atStart=>exact⟨a,0,0,rfl,rfl,by omega,by omega,by omega,HR,hid (World.grownBy.refl _ _),Or.inl ⟨rfl,hat,hid (by unfold numR;rw [HNB.out])⟩⟩
  case round=>
   obtain⟨i,n,y,rfl,rfl,hai,hin,hn62,hrd,hgr,hm⟩:=hrel
   have c0:=hrd.out.c0
   have c1:=hrd.out.c1
   have c2:=hrd.out.c2
   have f1:=hrd.out.f1
   have hsz:=hrd.out.lt
   simp only [] at c1 c2
   rcases hm with ⟨rfl,hib,hL⟩ | ⟨hy,hQ⟩
   ·
    by_cases hlt:i<nb
    ·
     obtain⟨c,hc⟩:∃ c,B[i]?=some c:=⟨_,ge0 (by have:=HNB.out;omega)⟩
     obtain⟨g,off,rfl,hgw,hcell⟩:=byte_at hrd.out.row hc
     have hc256:=HB.out c (mg0 hc)
     have hst:=hL.out
     rw [show nb+1 - i=(nb - i)+1 by omega,numL_step B a _ i n c hc] at hst
     have HST:=hid hst
     have HC:=hid hc
     have j0:(0:Int)<=(i:Int):=by omega
     have j1:(i:Int)<(nb:Int):=by omega
     clear hst hc hL
     have hg1:¬ g=r:=hrd.out.far (fun e=>by have:=HC.out;rw [e] at this;simp at this) _ _ _ rfl
     have hg2:¬ r=g:=fun e=>hg1 e.symm
     cases hqa:((i:Int) == (a:Int)) <;> cases hq8:((c:Int) == 128) <;> cases hqn:decide ((36028797018963968:Int)<=(n:Int))
     ·
      have pa:¬ i=a:=by simp at hqa;omega
      have p8:¬ c=128:=by simp at hq8;omega
      have pn:n<36028797018963968:=by simp at hqn;omega
      have e1:IntKind.i64.wrap ((n:Int)*128)=((n*128:Nat):Int):=by rw [Go.IntWalk.i64_in _ (by omega)];omega
      cases hq9:decide ((c:Int)<128)
      ·
       have p9:¬ c<128:=by simp at hq9;omega
       have e2:bits .and .u8 (c:Int) 127=((c % 128:Nat):Int):=by have h:=u8_and_nat c 127 hc256 (by decide);rw [and127_nat c hc256] at h;exact h
       have e3:bits .or .i64 ((n*128:Nat):Int) ((c % 128:Nat):Int)=((n*128+c % 128:Nat):Int):=by rw [i64_or_nat _ _ (by omega) (by omega),or128_nat n _ (by omega)]
       have HL2:=hid (show numL B a (nb+1 - (i+1)) (i+1) (n*128+c % 128)=numR B a from by
        have h:=HST.out
        rw [if_neg (by omega),if_neg p9] at h
        rw [show nb+1 - (i+1)=nb - i by omega]
        exact h)
       obtain⟨n2,hn2⟩:∃ m,m=n*128:=⟨_,rfl⟩
       obtain⟨c2n,hc2⟩:∃ m,m=c % 128:=⟨_,rfl⟩
       obtain⟨n3,hn3⟩:∃ m,m=n*128+c % 128:=⟨_,rfl⟩
       have hn3b:n3<4611686018427387904:=by omega
       have hc2b:c2n<128:=by omega
       rw [<-hn3] at e3 HL2
       rw [<-hn2] at e1 e3
       rw [<-hc2] at e2 e3
       clear pa p8 pn hn2 hc2 hn3 p9
       go_wp2_with fail
       go_roundw
       case rel=>exact⟨i+1,n3,0,by first | rfl | go_num,by go_num,by omega,by omega,hn3b,hrd,hgr,Or.inl ⟨rfl,by omega,HL2⟩⟩
       case measure=>simp [intOf];omega
      ·
       have p9:c<128:=by simp at hq9;omega
       have e3:bits .or .i64 ((n*128:Nat):Int) (c:Int)=((n*128+c:Nat):Int):=by rw [i64_or_nat _ _ (by omega) (by omega),or128_nat n c p9]
       have HQ2:=hid (show Q=(n*128+c,(i+1,(0:Int))) from by
        have h:=HST.out
        rw [if_neg (by omega),if_pos p9] at h
        have h2:=HQ.out
        rw [<-h] at h2
        exact h2.symm)
       have e4:IntKind.i64.wrap ((i:Int)+1)=((i+1:Nat):Int):=by rw [Go.IntWalk.i64_in _ (by omega)];omega
       have HRS:=hid (show Rdr (wr.setCell ⟨r,1,none⟩ (.int .i64 ((i:Int)+1))) r _ B (i+1,(0:Int)) from hrd.out.setAt (i+1) (by have:=HNB.out;omega))
       have HGS:=hid (hgr.out.andThen (grown_cell' wr r 1 (.int .i64 ((i:Int)+1))) (fun j hj=>Or.inr hj))
       obtain⟨n2,hn2⟩:∃ m,m=n*128:=⟨_,rfl⟩
       obtain⟨n3,hn3⟩:∃ m,m=n*128+c:=⟨_,rfl⟩
       rw [<-hn3] at e3 HQ2
       rw [<-hn2] at e1 e3
       clear e4
       clear pa p8 pn hn2 hn3 p9
       go_wp2_with fail
       go_ret
       exact⟨by rw [HQ2.out];rfl,by rw [HQ2.out];exact HRS.out,HGS.out⟩
     ·
      have pa:¬ i=a:=by simp at hqa;omega
      have p8:¬ c=128:=by simp at hq8;omega
      have pn:36028797018963968<=n:=by simp at hqn;omega
      have HFA:=hid (HF.out 31 _ hrd.out)
      have HQ2:=hid (show Q=(0,(a,(31:Int))) from by
       have h:=HST.out
       rw [if_pos (by omega)] at h
       have h2:=HQ.out
       rw [<-h] at h2
       exact h2.symm)
      clear pa p8 pn
      go_wp2_with fail
      refine HFA.out.mono ?_
      rintro e w1 ⟨rfl,hr1,hg3⟩
      have HR1:=hid hr1
      have HG1:=hid (hgr.out.andThen hg3 (fun j hj=>Or.inr hj))
      clear hr1 hg3
      go_wp2_with fail
      go_roundw
      case rel=>exact⟨i+1,n,31,rfl,by go_num,by omega,by omega,by omega,HR1,HG1,Or.inr ⟨by decide,HQ2⟩⟩
      case measure=>simp [intOf];omega
     ·
      have pa:¬ i=a:=by simp at hqa;omega
      have p8:c=128:=by simp at hq8;omega
      have pn:n<36028797018963968:=by simp at hqn;omega
      have e1:IntKind.i64.wrap ((n:Int)*128)=((n*128:Nat):Int):=by rw [Go.IntWalk.i64_in _ (by omega)];omega
      cases hq9:decide ((c:Int)<128)
      ·
       have p9:¬ c<128:=by simp at hq9;omega
       have e2:bits .and .u8 (c:Int) 127=((c % 128:Nat):Int):=by have h:=u8_and_nat c 127 hc256 (by decide);rw [and127_nat c hc256] at h;exact h
       have e3:bits .or .i64 ((n*128:Nat):Int) ((c % 128:Nat):Int)=((n*128+c % 128:Nat):Int):=by rw [i64_or_nat _ _ (by omega) (by omega),or128_nat n _ (by omega)]
       have HL2:=hid (show numL B a (nb+1 - (i+1)) (i+1) (n*128+c % 128)=numR B a from by
        have h:=HST.out
        rw [if_neg (by omega),if_neg p9] at h
        rw [show nb+1 - (i+1)=nb - i by omega]
        exact h)
       obtain⟨n2,hn2⟩:∃ m,m=n*128:=⟨_,rfl⟩
       obtain⟨c2n,hc2⟩:∃ m,m=c % 128:=⟨_,rfl⟩
       obtain⟨n3,hn3⟩:∃ m,m=n*128+c % 128:=⟨_,rfl⟩
       have hn3b:n3<4611686018427387904:=by omega
       have hc2b:c2n<128:=by omega
       rw [<-hn3] at e3 HL2
       rw [<-hn2] at e1 e3
       rw [<-hc2] at e2 e3
       clear pa p8 pn hn2 hc2 hn3 p9
       go_wp2_with fail
       go_roundw
       case rel=>exact⟨i+1,n3,0,by first | rfl | go_num,by go_num,by omega,by omega,hn3b,hrd,hgr,Or.inl ⟨rfl,by omega,HL2⟩⟩
       case measure=>simp [intOf];omega
      ·
       have p9:c<128:=by simp at hq9;omega
       have e3:bits .or .i64 ((n*128:Nat):Int) (c:Int)=((n*128+c:Nat):Int):=by rw [i64_or_nat _ _ (by omega) (by omega),or128_nat n c p9]
       have HQ2:=hid (show Q=(n*128+c,(i+1,(0:Int))) from by
        have h:=HST.out
        rw [if_neg (by omega),if_pos p9] at h
        have h2:=HQ.out
        rw [<-h] at h2
        exact h2.symm)
       have e4:IntKind.i64.wrap ((i:Int)+1)=((i+1:Nat):Int):=by rw [Go.IntWalk.i64_in _ (by omega)];omega
       have HRS:=hid (show Rdr (wr.setCell ⟨r,1,none⟩ (.int .i64 ((i:Int)+1))) r _ B (i+1,(0:Int)) from hrd.out.setAt (i+1) (by have:=HNB.out;omega))
       have HGS:=hid (hgr.out.andThen (grown_cell' wr r 1 (.int .i64 ((i:Int)+1))) (fun j hj=>Or.inr hj))
       obtain⟨n2,hn2⟩:∃ m,m=n*128:=⟨_,rfl⟩
       obtain⟨n3,hn3⟩:∃ m,m=n*128+c:=⟨_,rfl⟩
       rw [<-hn3] at e3 HQ2
       rw [<-hn2] at e1 e3
       clear e4
       clear pa p8 pn hn2 hn3 p9
       go_wp2_with fail
       go_ret
       exact⟨by rw [HQ2.out];rfl,by rw [HQ2.out];exact HRS.out,HGS.out⟩
     ·
      have pa:¬ i=a:=by simp at hqa;omega
      have p8:c=128:=by simp at hq8;omega
      have pn:36028797018963968<=n:=by simp at hqn;omega
      have HFA:=hid (HF.out 31 _ hrd.out)
      have HQ2:=hid (show Q=(0,(a,(31:Int))) from by
       have h:=HST.out
       rw [if_pos (by omega)] at h
       have h2:=HQ.out
       rw [<-h] at h2
       exact h2.symm)
      clear pa p8 pn
      go_wp2_with fail
      refine HFA.out.mono ?_
      rintro e w1 ⟨rfl,hr1,hg3⟩
      have HR1:=hid hr1
      have HG1:=hid (hgr.out.andThen hg3 (fun j hj=>Or.inr hj))
      clear hr1 hg3
      go_wp2_with fail
      go_roundw
      case rel=>exact⟨i+1,n,31,rfl,by go_num,by omega,by omega,by omega,HR1,HG1,Or.inr ⟨by decide,HQ2⟩⟩
      case measure=>simp [intOf];omega
     ·
      have pa:i=a:=by simp at hqa;omega
      have p8:¬ c=128:=by simp at hq8;omega
      have pn:n<36028797018963968:=by simp at hqn;omega
      have e1:IntKind.i64.wrap ((n:Int)*128)=((n*128:Nat):Int):=by rw [Go.IntWalk.i64_in _ (by omega)];omega
      cases hq9:decide ((c:Int)<128)
      ·
       have p9:¬ c<128:=by simp at hq9;omega
       have e2:bits .and .u8 (c:Int) 127=((c % 128:Nat):Int):=by have h:=u8_and_nat c 127 hc256 (by decide);rw [and127_nat c hc256] at h;exact h
       have e3:bits .or .i64 ((n*128:Nat):Int) ((c % 128:Nat):Int)=((n*128+c % 128:Nat):Int):=by rw [i64_or_nat _ _ (by omega) (by omega),or128_nat n _ (by omega)]
       have HL2:=hid (show numL B a (nb+1 - (i+1)) (i+1) (n*128+c % 128)=numR B a from by
        have h:=HST.out
        rw [if_neg (by omega),if_neg p9] at h
        rw [show nb+1 - (i+1)=nb - i by omega]
        exact h)
       obtain⟨n2,hn2⟩:∃ m,m=n*128:=⟨_,rfl⟩
       obtain⟨c2n,hc2⟩:∃ m,m=c % 128:=⟨_,rfl⟩
       obtain⟨n3,hn3⟩:∃ m,m=n*128+c % 128:=⟨_,rfl⟩
       have hn3b:n3<4611686018427387904:=by omega
       have hc2b:c2n<128:=by omega
       rw [<-hn3] at e3 HL2
       rw [<-hn2] at e1 e3
       rw [<-hc2] at e2 e3
       clear pa p8 pn hn2 hc2 hn3 p9
       go_wp2_with fail
       go_roundw
       case rel=>exact⟨i+1,n3,0,by first | rfl | go_num,by go_num,by omega,by omega,hn3b,hrd,hgr,Or.inl ⟨rfl,by omega,HL2⟩⟩
       case measure=>simp [intOf];omega
      ·
       have p9:c<128:=by simp at hq9;omega
       have e3:bits .or .i64 ((n*128:Nat):Int) (c:Int)=((n*128+c:Nat):Int):=by rw [i64_or_nat _ _ (by omega) (by omega),or128_nat n c p9]
       have HQ2:=hid (show Q=(n*128+c,(i+1,(0:Int))) from by
        have h:=HST.out
        rw [if_neg (by omega),if_pos p9] at h
        have h2:=HQ.out
        rw [<-h] at h2
        exact h2.symm)
       have e4:IntKind.i64.wrap ((i:Int)+1)=((i+1:Nat):Int):=by rw [Go.IntWalk.i64_in _ (by omega)];omega
       have HRS:=hid (show Rdr (wr.setCell ⟨r,1,none⟩ (.int .i64 ((i:Int)+1))) r _ B (i+1,(0:Int)) from hrd.out.setAt (i+1) (by have:=HNB.out;omega))
       have HGS:=hid (hgr.out.andThen (grown_cell' wr r 1 (.int .i64 ((i:Int)+1))) (fun j hj=>Or.inr hj))
       obtain⟨n2,hn2⟩:∃ m,m=n*128:=⟨_,rfl⟩
       obtain⟨n3,hn3⟩:∃ m,m=n*128+c:=⟨_,rfl⟩
       rw [<-hn3] at e3 HQ2
       rw [<-hn2] at e1 e3
       clear e4
       clear pa p8 pn hn2 hn3 p9
       go_wp2_with fail
       go_ret
       exact⟨by rw [HQ2.out];rfl,by rw [HQ2.out];exact HRS.out,HGS.out⟩
     ·
      have pa:i=a:=by simp at hqa;omega
      have p8:¬ c=128:=by simp at hq8;omega
      have pn:36028797018963968<=n:=by simp at hqn;omega
      have HFA:=hid (HF.out 31 _ hrd.out)
      have HQ2:=hid (show Q=(0,(a,(31:Int))) from by
       have h:=HST.out
       rw [if_pos (by omega)] at h
       have h2:=HQ.out
       rw [<-h] at h2
       exact h2.symm)
      clear pa p8 pn
      go_wp2_with fail
      refine HFA.out.mono ?_
      rintro e w1 ⟨rfl,hr1,hg3⟩
      have HR1:=hid hr1
      have HG1:=hid (hgr.out.andThen hg3 (fun j hj=>Or.inr hj))
      clear hr1 hg3
      go_wp2_with fail
      go_roundw
      case rel=>exact⟨i+1,n,31,rfl,by go_num,by omega,by omega,by omega,HR1,HG1,Or.inr ⟨by decide,HQ2⟩⟩
      case measure=>simp [intOf];omega
     ·
      have pa:i=a:=by simp at hqa;omega
      have p8:c=128:=by simp at hq8;omega
      have pn:n<36028797018963968:=by simp at hqn;omega
      have HFA:=hid (HF.out 31 _ hrd.out)
      have HQ2:=hid (show Q=(0,(a,(31:Int))) from by
       have h:=HST.out
       rw [if_pos (by omega)] at h
       have h2:=HQ.out
       rw [<-h] at h2
       exact h2.symm)
      clear pa p8 pn
      go_wp2_with fail
      refine HFA.out.mono ?_
      rintro e w1 ⟨rfl,hr1,hg3⟩
      have HR1:=hid hr1
      have HG1:=hid (hgr.out.andThen hg3 (fun j hj=>Or.inr hj))
      clear hr1 hg3
      go_wp2_with fail
      go_roundw
      case rel=>exact⟨i+1,n,31,rfl,by go_num,by omega,by omega,by omega,HR1,HG1,Or.inr ⟨by decide,HQ2⟩⟩
      case measure=>simp [intOf];omega
     ·
      have pa:i=a:=by simp at hqa;omega
      have p8:c=128:=by simp at hq8;omega
      have pn:36028797018963968<=n:=by simp at hqn;omega
      have HFA:=hid (HF.out 31 _ hrd.out)
      have HQ2:=hid (show Q=(0,(a,(31:Int))) from by
       have h:=HST.out
       rw [if_pos (by omega)] at h
       have h2:=HQ.out
       rw [<-h] at h2
       exact h2.symm)
      clear pa p8 pn
      go_wp2_with fail
      refine HFA.out.mono ?_
      rintro e w1 ⟨rfl,hr1,hg3⟩
      have HR1:=hid hr1
      have HG1:=hid (hgr.out.andThen hg3 (fun j hj=>Or.inr hj))
      clear hr1 hg3
      go_wp2_with fail
      go_roundw
      case rel=>exact⟨i+1,n,31,rfl,by go_num,by omega,by omega,by omega,HR1,HG1,Or.inr ⟨by decide,HQ2⟩⟩
      case measure=>simp [intOf];omega
    ·
     obtain rfl:i=nb:=by omega
     have HFA:=hid (HF.out 30 _ hrd.out)
     have HQ2:=hid (show Q=(0,(a,(30:Int))) from by
      have h:=hL.out
      rw [numL_end B a _ i n (by rw [HNB.out];exact Nat.le_refl _)] at h
      have h2:=HQ.out
      rw [<-h] at h2
      exact h2.symm)
     clear hL
     go_wp2_with fail
     refine HFA.out.mono ?_
     rintro e w1 ⟨rfl,hr1,hg3⟩
     have HR1:=hid hr1
     have HG1:=hid (hgr.out.andThen hg3 (fun j hj=>Or.inr hj))
     clear hr1 hg3
     go_wp2_with fail
     go_roundw
     case rel=>exact⟨i+1,n,30,rfl,by go_num,by omega,by omega,by omega,HR1,HG1,Or.inr ⟨by decide,HQ2⟩⟩
     case measure=>first | (simp [intOf];omega) | simp [intOf]
   ·
    have hyb:((y:Int) == 0)=false:=by simpa using hy
    go_wp2_with fail
    go_ret
    exact⟨by first | (rw [hQ.out];rfl) | rw [hQ.out],by rw [hQ.out];exact hrd.out,hgr.out⟩
 ·
  have hyb:((y:Int) == 0)=false:=by simpa using hy
  have e:numS B (a,y)=(0,(a,y)):=by unfold numS;rw [if_neg hy]
  rw [e]
  clear e
  go_enter Tryz.func69,Tryz.ntmps69
  go_wp2_with fail
  go_loopw [4] (fun iv wr=>iv=.int .i64 (a:Nat)/\wr=w) (fun _ _=>0)
  case atStart=>exact⟨rfl,rfl⟩
  case round=>
   obtain⟨rfl,hwr⟩:=hrel
   subst hwr
   go_wp2_with fail
   go_ret
   exact⟨rfl,HR.out,World.grownBy.refl _ _⟩
