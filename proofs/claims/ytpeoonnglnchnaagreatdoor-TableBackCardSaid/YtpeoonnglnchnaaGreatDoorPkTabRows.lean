/- PkTabRows. -/
import Derived.Shelf.SlSortCmp.NoneTotal
import Derived.Test.YtpeoonnglnchnaaGreatDoorPkTabUtf
set_option linter.unusedSectionVars false
set_option linter.unusedSimpArgs false
set_option linter.unusedVariables false
set_option maxHeartbeats 16000000
set_option maxRecDepth 100000
namespace Go.Proofs.YtpeoonnglnchnaaGreatDoor.Mut
open Go.Lib (hid)
open RowKit Go.Shelf Go.Sort YtpeoonnglnchnaaGreatDoor.Ord
variable [Inhabited Lim]
def cat2 (A B:List Ro):Nat->List Ro
 | 0=>[]
 | 1=>A
 | _=>A++B
structure Cat2 (g:Nat) (a b:Value) (A B:List Ro) (w:World):Prop where
 lt:g<w.heap.size
 c0:w.cell? ⟨g,0,none⟩=some a
 c1:w.cell? ⟨g,1,none⟩=some b
 r0:MRow w a A
 r1:MRow w b B
theorem Cat2.below {g:Nat} {a b:Value} {A B:List Ro} {w w':World} (h:Cat2 g a b A B w) (hb:Below w.heap.size w w'):Cat2 g a b A B w':=
 ⟨Nat.lt_of_lt_of_le h.lt hb.size,(hb.cell (p:=⟨g,0,none⟩) h.lt).trans h.c0,(hb.cell (p:=⟨g,1,none⟩) h.lt).trans h.c1,h.r0.below hb,h.r1.below hb⟩
theorem Cat2.get {g:Nat} {a b:Value} {A B:List Ro} {w:World} (h:Cat2 g a b A B w) {k:Nat} (hk:k<2):∃ X ao cap,w.cell? ⟨g,k,none⟩=some (.slice ao X.length cap)/\MRow w (.slice ao X.length cap) X/\cat2 A B (k+1)=cat2 A B k++X:=by
 obtain⟨ao0,c0,e0,-,-⟩:=h.r0.form
 obtain⟨ao1,c1,e1,-,-⟩:=h.r1.form
 rcases k with _ | _ | k
 . exact⟨A,ao0,c0,by rw [h.c0,e0],e0 ▸ h.r0,rfl⟩
 . exact⟨B,ao1,c1,by rw [<-e1];exact h.c1,e1 ▸ h.r1,rfl⟩
 . omega
theorem cat2_len {A B:List Ro} (k:Nat):(cat2 A B k).length<=(A++B).length:=by
 unfold cat2
 split <;> simp
theorem concat2_any (g:Nat) (a b:Value) (A B:List Ro) (w:World) (h:Cat2 g a b A B w) (hn:(A++B).length<=100000) :
  Calls Tryz.prog 78 #[.slice (some ⟨g,0,none⟩) 2 2] w (OwnP 42 10 enM w (A++B)):=by
 have HG:=hid (fun (z:World) (m:Nat) (hm:m<=1000000)=>grow_nil m z hm)
 have HH:=hid h
 have hz:g<w.heap.size:=h.lt
 obtain⟨i0,hi,hz0,hz1,hz2⟩:=info_parts info_M
 have HI:=hid hi
 have HZ0:=hid hz0
 have HZ1:=hid hz1
 have HZ2:=hid hz2
 obtain⟨C,hC⟩:∃ C:Nat->List Ro,C=cat2 A B:=⟨_,rfl⟩
 have HC3:=hid (show A++B=C 2 from by rw [hC];rfl)
 have HC0:=hid (show C 0=[] from by rw [hC];rfl)
 have HCl:=hid (fun k=>(show (C k).length<=100000 from by rw [hC];exact Nat.le_trans (cat2_len k) hn))
 have HCs:=hid (fun (z:World) (hzb:Below w.heap.size w z) (k:Nat) (hk:k<2)=>show ∃ X ao cap,z.cell? ⟨g,k,none⟩=some (.slice ao X.length cap)/\MRow z (.slice ao X.length cap) X/\C (k+1)=C k++X from by rw [hC];exact (h.below hzb).get hk)
 rw [HC3.out]
 clear hi hz0 hz1 hz2 h hC hn
 go_enter Tryz.func78,Tryz.ntmps78
 go_wp2_with fail
 go_loop [3,11] (fun sv iv=>∃ k m:Nat,k<=2/\iv=.int .i64 k/\sv=.int .i64 m/\Hid (m=(C k).length)) (fun _ iv=>2 - (intOf iv).toNat)
 case atStart=>exact⟨0,0,by omega,rfl,rfl,hid (by rw [HC0.out];rfl)⟩
 case round=>
  obtain⟨k,m,hk,rfl,rfl,hm⟩:=hrel
  have hml:m<=100000:=by rw [hm.out];exact HCl.out k
  by_cases hlt:k<2
  ·
   obtain⟨X,ao,cap,hc,-,hcat⟩:=HCs.out w br k hlt
   have hlen:(C (k+1)).length=(C k).length+X.length:=by rw [hcat];simp
   have hm2:=HCl.out (k+1)
   obtain⟨mx,hmx⟩:∃ q,q=X.length:=⟨_,rfl⟩
   rw [<-hmx] at hc hlen
   have hmx2:m+mx<=100000:=by rw [hm.out];omega
   have HM:=hid (show m+mx=(C (k+1)).length by rw [hm.out,hlen])
   clear hlen hm2 hcat hmx
   go_wp2
   go_round
   case rel=>exact⟨k+1,m+mx,by omega,by go_num,by go_num,HM⟩
   case measure=>simp [intOf];omega
  ·
   obtain rfl:k=2:=by omega
   go_wp2_with fail
   refine (HG.out _ m (by omega)).mono ?_
   rintro e w1 ⟨v,rfl,hown,hb1⟩
   have HO:=hid (show w1.ownsRow w.heap.size 42 10 v (C 0).length ((C 0).flatMap enM) from by rw [HC0.out];exact hown)
   have HB1:=hid hb1
   clear hown hb1 hm
   go_wp2_with fail
   go_loopw [6,27] (fun ov iv wr=>∃ k:Nat,k<=2/\iv=.int .i64 k/\Hid (wr.ownsRow w.heap.size 42 10 ov (C k).length ((C k).flatMap enM))/\Hid (Below w.heap.size w wr)) (fun _ iv _=>2 - (intOf iv).toNat)
   case atStart=>exact⟨0,by omega,rfl,HO,HB1⟩
   case round=>
    obtain⟨k,hk,rfl,hown,hbl⟩:=hrel
    by_cases hlt:k<2
    ·
     obtain⟨X,ao,cap,hc,hX,hcat⟩:=HCs.out _ hbl.out k hlt
     have HCAT:=hid hcat
     have hm2:=HCl.out (k+1)
     have hlen:(C (k+1)).length=(C k).length+X.length:=by rw [hcat];simp
     have hsum:(C k).length+X.length<=100000:=by omega
     have HX:=hid hX
     have HS:=hid hsum
     have hbs:=hbl.out.size
     clear hcat hm2 hlen hX hsum
     cases ao with
     | none=>
      have h0:=HX.out.nil_of
      have HX0:=hid h0
      rw [h0] at hc
      clear h0
      go_wp2_with (at_builtin;refine wpList_append_own_none' rfl _ _ 22 rfl w.heap.size 42 i0 10 cap Tryz.underlying22 HI.out _ _ _ rfl hown.out rfl ?_)
      go_roundw
      case rel=>exact⟨k+1,by omega,by go_num,by rw [HCAT.out,HX0.out,List.append_nil];exact hown,hbl⟩
      case measure=>simp [intOf];omega
     | some ad=>
      obtain⟨mx,hmx⟩:∃ q,q=X.length:=⟨_,rfl⟩
      rw [<-hmx] at hc
      have HMX:=hid hmx
      have hmm:mx<=100000:=by have:=HS.out;omega
      clear hmx
      go_wp2_with (at_builtin;refine wpList_append_own _ rfl _ _ 22 rfl w.heap.size 42 i0 zeroM 10 120 Tryz.underlying22 HI.out HZ0.out HZ1.out HZ2.out rfl (by decide) _ _ _ rfl hown.out ad mx cap (X.flatMap enM) rfl ?c1 ?c2 ?c3 ?c4 ?c5 ?c6 ?_)
      case c1=>rw [HMX.out];exact flatMap_len enM_len X
      case c2=>exact Lst.news enM_len (by decide) HX.out.row
      case c3=>exact flatM_one HX.out.forms
      case c4=>have:=HS.out;have:=HMX.out;unfold maxLen;omega
      case c5=>have:=HS.out;have:=HMX.out;omega
      case c6=>exact hbs
      intro v' w3 hown3 hgrow3 _
      have hb3:Below w.heap.size w w3:=hbl.out.grown hgrow3 hbs (fun k hk=>(World.ownsRow.lt hown.out k hk).1)
      have HO3:=hid (show w3.ownsRow w.heap.size 42 10 v' (C (k+1)).length ((C (k+1)).flatMap enM) from by rw [HCAT.out,la0,fa0,<-HMX.out];exact hown3)
      have HB3:=hid hb3
      clear hown3 hgrow3 hb3
      go_wp2
      go_roundw
      case rel=>exact⟨k+1,by omega,by go_num,HO3,HB3⟩
      case measure=>simp [intOf];omega
    ·
     obtain rfl:k=2:=by omega
     go_wp2_with fail
     go_ret
     exact⟨_,rfl,hown.out,hbl.out⟩
theorem memsort_any (base:Nat) (v:Value) (R:List Ro) (w:World) (hown:w.ownsRow base 42 10 v R.length (R.flatMap enM)) (hoff:∀ x∈R,Okay w v.ownBlock x) (hn:R.length<=1000000) :
  Calls Tryz.prog 79 #[v,.func (.func 80) #[] #[]] w (SortM base w v R):=by
 have hcase:=hown
 obtain⟨-,⟨e,h0⟩ | ⟨g,cap,cur,e,-⟩⟩:=hcase
 ·
  subst e
  obtain rfl:R=[]:=List.eq_nil_of_length_eq_zero h0
  refine (AnyF.slices_SortFunc_none laySort none 0 _ w).mono ?_
  rintro e w' ⟨rfl,rfl⟩
  exact⟨rfl,[],List.Perm.refl _,List.Pairwise.nil,hown,World.grownBy.refl _ _⟩
 ·
  subst e
  exact memsort_some base g cap R w hown hoff hn
def rowIns (m:Mu):List Mu->List Mu
 | []=>[m]
 | x::l=>if sibC m x<=0 then m::x::l else x::rowIns m l
def rowsF:List Mu->List Mu
 | []=>[]
 | m::l=>rowIns m (rowsF l)
theorem rowIns_perm (m:Mu):∀ l,(rowIns m l).Perm (m::l)
 | []=>List.Perm.refl _
 | x::l=>by
  unfold rowIns
  split
  . exact List.Perm.refl _
  . exact ((rowIns_perm m l).cons x).trans (List.Perm.swap m x l)
theorem rowsF_perm:∀ l,(rowsF l).Perm l
 | []=>List.Perm.refl _
 | m::l=>(rowIns_perm m (rowsF l)).trans ((rowsF_perm l).cons m)
theorem le_trans_sib {a b c:Mu} (h1:sibC a b<=0) (h2:sibC b c<=0):sibC a c<=0:=sibO.le_le h1 h2
theorem rowIns_sorted (m:Mu):∀ l:List Mu,l.Pairwise (fun a b=>sibC a b<=0)->(rowIns m l).Pairwise (fun a b=>sibC a b<=0)
 | [],_=>List.pairwise_singleton _ _
 | x::l,h=>by
  obtain⟨h1,h2⟩:=List.pairwise_cons.1 h
  unfold rowIns
  split
  ·
   rename_i hle
   exact List.pairwise_cons.2 ⟨fun y hy=>by
    rcases List.mem_cons.1 hy with rfl | hy
    . exact hle
    . exact le_trans_sib hle (h1 y hy),h⟩
  ·
   rename_i hle
   refine List.pairwise_cons.2 ⟨fun y hy=>?_,rowIns_sorted m l h2⟩
   rcases List.mem_cons.1 ((rowIns_perm m l).mem_iff.1 hy) with rfl | hy
   ·
    have:=sibO.swap x y
    omega
   . exact h1 y hy
theorem rowsF_sorted:∀ l,(rowsF l).Pairwise (fun a b=>sibC a b<=0)
 | []=>List.Pairwise.nil
 | m::l=>rowIns_sorted m _ (rowsF_sorted l)
theorem sorted_one:∀ {l m:List Mu},l.Perm m->l.Pairwise (fun a b=>sibC a b<=0)->m.Pairwise (fun a b=>sibC a b<=0)->l=m
 | [],m,hp,_,_=>by rw [List.nil_perm.1 hp]
 | x::l,[],hp,_,_=>by have:=hp.length_eq;simp at this
 | x::l,y::m,hp,hl,hm=>by
  obtain⟨hx,hl'⟩:=List.pairwise_cons.1 hl
  obtain⟨hy,hm'⟩:=List.pairwise_cons.1 hm
  have exy:x=y:=by
   rcases List.mem_cons.1 (hp.mem_iff.1 (List.mem_cons_self (a:=x))) with h | h
   . exact h
   ·
    rcases List.mem_cons.1 (hp.mem_iff.2 (List.mem_cons_self (a:=y))) with h2 | h2
    . exact h2.symm
    ·
     have a1:=hy x h
     have a2:=hx y h2
     have a3:=sibO.swap x y
     have a4:=sibO.swap y x
     exact (sibO.zero x y).1 (by omega)
  subst exy
  exact congrArg (x::·) (sorted_one ((List.perm_cons x).1 hp) hl' hm')
theorem rowsF_one {l m:List Mu} (hp:m.Perm l) (hs:m.Pairwise (fun a b=>sibC a b<=0)):m=rowsF l:=
 sorted_one (hp.trans (rowsF_perm l).symm) hs (rowsF_sorted l)
theorem rowsF_mem {l:List Mu} {m:Mu}:m∈rowsF l ↔ m∈l:=(rowsF_perm l).mem_iff
theorem rowsF_len (l:List Mu):(rowsF l).length=l.length:=(rowsF_perm l).length_eq
def RowsP (w:World) (l:List Mu) (e:Ending) (w':World):Prop:=
 ∃ v R,e=.returned v/\R.map (·.1)=rowsF l/\MRow w' v R/\Below w.heap.size w w'
theorem rows_any (a b d:Value) (c:Con) (n:Nat) (w:World) (hc:Lies w a b d c) (hO:Okc c n) (hn:n<=100000) :
  Calls Tryz.prog 41 #[.agg #[a,b,d]] w (RowsP w (c.cells++c.sibs)):=by
 obtain⟨ao,na,ac,rfl⟩:=hc.cells.slice
 obtain⟨bo,nb,bc,rfl⟩:=hc.wipes.slice
 obtain⟨dd,nd,dc,rfl⟩:=hc.sibs.slice
 obtain⟨A,eA,hA⟩:=hc.cells
 obtain⟨D,eD,hD⟩:=hc.sibs
 have eall:(A++D).map (·.1)=c.cells++c.sibs:=by rw [List.map_append,eA,eD]
 have hsm:∀ x∈A++D,Small x.1:=fun x hx=>small_right (hO.right _ (by
  have h1:x.1∈c.cells++c.sibs:=by rw [<-eall];exact List.mem_map.2 ⟨x,hx,rfl⟩
  rcases List.mem_append.1 h1 with h | h
  . exact List.mem_append.2 (Or.inl h)
  . exact List.mem_append.2 (Or.inr (List.mem_append.2 (Or.inr h)))))
 have hlen:(A++D).length<=100000:=by
  have h1:=congrArg List.length eall
  have h2:=hO.len
  have h3:c.all.length=c.cells.length+(c.wipes.length+c.sibs.length):=by unfold Con.all;simp
  rw [lm0] at h1
  rw [h1,la0]
  omega
 obtain⟨L,hL⟩:∃ L,L=A++D:=⟨_,rfl⟩
 have HCat:=hid (fun (z:World) (h:Cat2 (w.heap.size+1) (.slice ao na ac) (.slice dd nd dc) A D z)=>concat2_any (w.heap.size+1) _ _ A D z h hlen)
 rw [<-hL] at eall hlen hsm HCat
 have HMR:=hid (fun x (hx:x∈L)=>show Over w x from by
  rw [hL] at hx
  rcases List.mem_append.1 hx with h | h
  . exact hA.over x h
  . exact hD.over x h)
 have HR:=hid (And.intro hA hD)
 have HE:=hid eall
 have HSM:=hid hsm
 have HLN:=hid hlen
 clear hA hD eall hlen hsm hc hO hL eA eD
 go_enter Tryz.func41,Tryz.ntmps41
 go_wp2_with fail
 have hb0:=((Below.refl _ w).alloc lr (.cells #[.slice ao na ac,.slice bo nb bc,.slice dd nd dc] 33)).alloc (by simp) (.cells #[.slice ao na ac,.slice dd nd dc] 22)
 have h3:Cat2 (w.heap.size+1) (.slice ao na ac) (.slice dd nd dc) A D ((w.alloc (.cells #[.slice ao na ac,.slice bo nb bc,.slice dd nd dc] 33)).alloc (.cells #[.slice ao na ac,.slice dd nd dc] 22)):=
  ⟨by simp,by go_simp,by go_simp,HR.out.1.below hb0,HR.out.2.below hb0⟩
 have HB0:=hid hb0
 refine (HCat.out _ h3).mono ?_
 rintro e w1 ⟨v1,rfl,hown1,hb1⟩
 have HB1:=hid (below_then HB0.out lr hb1)
 have hown1:=own_base hown1 HB0.out.size
 have hok:∀ x∈L,Okay w1 v1.ownBlock x:=fun x hx=>⟨Off.old (HMR.out x hx) HB1.out (fun k hk=>(World.ownsRow.lt hown1 k hk).1),(HSM.out x hx).over⟩
 have HSRT:=hid (memsort_any w.heap.size v1 L w1 hown1 hok (by have:=HLN.out;omega))
 have HLT:=hid (World.ownsRow.lt hown1)
 clear h3 hb0 hb1 hown1 hok
 go_wp2_with fail
 refine HSRT.out.mono ?_
 rintro e w2 ⟨rfl,R',hp,hs,ho,hg⟩
 have HB2:=hid (HB1.out.grown hg HB1.out.size (fun k hk=>(HLT.out k hk).1))
 have HF:=hid (And.intro hp (And.intro hs ho))
 clear hp hs ho hg
 go_wp2_with fail
 go_ret
 refine⟨v1,R',rfl,?_,?_,HB2.out⟩
 ·
  refine rowsF_one ?_ (List.pairwise_map.2 HF.out.2.1)
  have h1:=HF.out.1.map (·.1)
  rw [HE.out] at h1
  exact h1
 . exact⟨Lst.owned enM_len (by decide) rfl HF.out.2.2,fun x hx=>(HMR.out x (HF.out.1.mem_iff.1 hx)).below HB2.out⟩
end Go.Proofs.YtpeoonnglnchnaaGreatDoor.Mut
namespace Go.Proofs.YtpeoonnglnchnaaGreatDoor.Mut
open Go.Lib (hid)
open RowKit Go.Sort YtpeoonnglnchnaaGreatDoor.Ord YtpeoonnglnchnaaGreatDoor.Spare
variable [Inhabited Lim]
theorem MRow.dropAt {w:World} {b off n cap:Nat} {R:List Ro} (h:MRow w (.slice (some ⟨b,off,none⟩) n cap) R) (k:Nat) (hk:k<=n):MRow w (.slice (some ⟨b,off+k*10,none⟩) (n - k) (cap - k)) (R.drop k):=by
 refine⟨?_,fun x hx=>h.over x (List.mem_of_mem_drop hx)⟩
 obtain⟨ao,cp,e,h1,h2,h3⟩:=h.row
 cases e
 refine⟨_,cap - k,by rw [List.length_drop],by rw [List.length_drop];omega,by omega,?_⟩
 rcases h3 with h3 | ⟨b',off',e,hb,hc⟩
 . exact Or.inl (by rw [List.length_drop];omega)
 ·
  cases e
  refine Or.inr ⟨b,off+k*10,rfl,hb,fun i x hi j hj=>?_⟩
  rw [List.getElem?_drop] at hi
  have:=hc (k+i) x hi j hj
  rw [show off+k*10+i*10+j=off+(k+i)*10+j by omega]
  exact this
theorem MRow.takeAt {w:World} {b off n cap:Nat} {R:List Ro} (h:MRow w (.slice (some ⟨b,off,none⟩) n cap) R) (k:Nat) (hk:k<=n):MRow w (.slice (some ⟨b,off,none⟩) k k) (R.take k):=by
 refine⟨?_,fun x hx=>h.over x (List.mem_of_mem_take hx)⟩
 obtain⟨ao,cp,e,h1,h2,h3⟩:=h.row
 cases e
 refine⟨_,k,by rw [List.length_take,Nat.min_eq_left hk],by rw [List.length_take];omega,by omega,?_⟩
 rcases h3 with h3 | ⟨b',off',e,hb,hc⟩
 . exact Or.inl (by rw [List.length_take];omega)
 ·
  cases e
  refine Or.inr ⟨b,off,rfl,hb,fun i x hi j hj=>?_⟩
  by_cases hik:i<k
  ·
   rw [List.getElem?_take_of_lt hik] at hi
   exact hc i x hi j hj
  ·
   rw [List.getElem?_eq_none (by rw [List.length_take];omega)] at hi
   cases hi
def pagesN {α:Type}:Nat->List α->List (List α)
 | 0,_=>[]
 | _+1,[]=>[]
 | f+1,m::l=>(m::l).take 8::pagesN f ((m::l).drop 8)
def pagesF {α:Type} (l:List α):List (List α):=pagesN l.length l
theorem pagesN_fuel {α:Type}:∀ (f g:Nat) (l:List α),l.length<=f->l.length<=g->pagesN f l=pagesN g l
 | 0,g,l,h,_=>by
  obtain rfl:l=[]:=List.eq_nil_of_length_eq_zero (by omega)
  cases g <;> rfl
 | f+1,0,l,_,h=>by
  obtain rfl:l=[]:=List.eq_nil_of_length_eq_zero (by omega)
  rfl
 | f+1,g+1,[],_,_=>rfl
 | f+1,g+1,m::l,h1,h2=>by
  unfold pagesN
  rw [pagesN_fuel f g ((m::l).drop 8) (by simp at h1 ⊢;omega) (by simp at h2 ⊢;omega)]
theorem pagesF_step {α:Type} (l:List α) (h:l≠[]):pagesF l=l.take 8::pagesF (l.drop 8):=by
 cases l with
 | nil=>exact absurd rfl h
 | cons m l=>
  show pagesN (l.length+1) (m::l)=_
  unfold pagesN pagesF
  rw [pagesN_fuel l.length ((m::l).drop 8).length _ (by simp) lr]
theorem pagesF_nil {α:Type}:pagesF ([]:List α)=[]:=rfl
abbrev Pg:Type:=Value × List Ro
abbrev enPg (p:Pg):List Value:=[p.1]
structure OwnPg (w:World) (base:Nat) (v:Value) (P:List Pg):Prop where
 row:w.ownsRow base 22 1 v P.length (P.flatMap enPg)
 rows:∀ p∈P,Copied w p.1 p.2 base
theorem OwnPg.below {w w':World} {base:Nat} {v:Value} {P:List Pg} (h:OwnPg w base v P) (hb:Below w.heap.size w w'):OwnPg w' base v P:=
 ⟨row_below h.row hb,fun p hp=>(h.rows p hp).below hb⟩
theorem Copied.beside {w w':World} {v v2:Value} {R:List Ro} {base b2 n:Nat} {xs:List Value} (h:Copied w v R base) (h2:w.ownsRow b2 22 1 v2 n xs) (hg:w.grownBy w' v2.ownBlock):Copied w' v R base:=
 ⟨h.row.kept hg (rows_apart h.row h2 (by decide)),fun x hx=>(h.over x hx).kept hg (rows_apart (h.over x hx) h2 (by decide))⟩
def CutP (w:World) (l:List Mu) (e:Ending) (w':World):Prop:=
 ∃ v P,e=.returned v/\OwnPg w' w.heap.size v P/\P.map (fun p=>p.2.map (·.1))=pagesF l/\Below w.heap.size w w'
theorem info_Pg:∃ i:TypeInfo,Tryz.prog.info? 22=some i/\i.zero=some (.slice none 0 0)/\i.size=1/\i.bytes=24:=by
 have h:(Tryz.prog.info? 22).map (fun i=>(i.zero,i.size,i.bytes))=some (some (.slice none 0 0),1,24):=by kernel_rfl
 cases hq:Tryz.prog.info? 22 with
 | none=>simp [hq] at h
 | some i=>simp [hq] at h;exact⟨i,rfl,h.1,h.2.1,h.2.2⟩
theorem cut_any (v:Value) (R:List Ro) (w:World) (hv:MRow w v R) (h1:∀ x∈R,x.1.over.length<=1000000) (hn:R.length<=10000) :
  Calls Tryz.prog 42 #[v] w (CutP w (R.map (·.1))):=by
 obtain⟨ro,rc,rfl,-,-⟩:=hv.form
 obtain⟨n,hnr⟩:∃ k,k=R.length:=⟨_,rfl⟩
 rw [<-hnr] at hv hn ⊢
 obtain⟨T,hT⟩:∃ T,T=pagesF (R.map (·.1)):=⟨_,rfl⟩
 have HCP:=hid (fun (v:Value) (Q:List Ro) (z:World) (hQ:MRow z v Q) (hs:∀ x∈Q,x∈R) (hl:Q.length<=10000)=>copies_any v Q z hQ (fun x hx=>h1 x (hs x hx)) (by omega))
 obtain⟨i0,hI⟩:=info_Pg
 have HI:=hid hI
 have HV:=hid hv
 have HT:=hid hT
 have HN:=hid hnr
 obtain⟨B,hB⟩:∃ B,B=w.heap.size:=⟨_,rfl⟩
 have HB:=hid hB
 clear hv h1 hT hI hnr hB
 go_enter Tryz.func42,Tryz.ntmps42
 go_wp2_with fail
 go_loopw [0,3] (fun lv ov wr=>∃ (m pn:Nat) (Q:List Ro) (P:List Pg) (lo:Option Addr) (lc:Nat) (oo:Option Addr) (oc:Nat),lv=.slice lo m lc/\ov=.slice oo pn oc/\m<=n/\pn+m<=n/\Hid (MRow w (.slice lo m lc) Q/\m=Q.length/\∀ x∈Q,x∈R)/\Hid (pn=P.length/\P.map (fun p=>p.2.map (·.1))++pagesF (Q.map (·.1))=T)/\Hid (OwnPg wr B (.slice oo pn oc) P)/\Hid (Below w.heap.size w wr)) (fun lv _ _=>(match lv with | .slice _ m _=>m | _=>0))
 case atStart=>exact⟨n,0,R,[],ro,rc,none,0,rfl,rfl,by omega,by omega,hid ⟨HV.out,HN.out,fun _ h=>h⟩,hid ⟨rfl,HT.out.symm⟩,hid ⟨World.ownsRow_nil _ _ _ _,fun _ h=>by cases h⟩,hid br⟩
 case round=>
  obtain⟨m,pn,Q,P,lo,lc,oo,oc,rfl,rfl,hm,hpn,hQ,hP,hO,hb⟩:=hrel
  by_cases hpos:0<m
  ·
   obtain⟨lb,loff,hlo⟩:∃ b off,lo=some ⟨b,off,none⟩:=by
    obtain⟨b,off,e,_⟩:=Lst.get hQ.out.1.row (show 0<Q.length by rw [<-hQ.out.2.1];exact hpos)
    exact⟨b,off,e⟩
   subst hlo
   obtain⟨q,hq⟩:∃ q,q=min m 8:=⟨_,rfl⟩
   have hq1:q<=m:=by omega
   have hq0:0<q:=by omega
   have hmin:min (m:Int) 8=(q:Int):=by omega
   have hcap:m<=lc:=by
    obtain⟨_,_,e,h1,_⟩:=hQ.out.1.form
    obtain⟨rfl⟩:lc=_:=by injection e
    have:=hQ.out.2.1
    omega
   have hQl:=hQ.out.2.1
   have htk:=(hQ.out.1.takeAt q hq1).below hb.out
   have HDR:=hid (show MRow w (.slice (if lc=q then some ⟨lb,loff,none⟩ else some ⟨lb,loff+q*10,none⟩) (m - q) (lc - q)) (Q.drop q) from by
    have h:=hQ.out.1.dropAt q hq1
    by_cases e:lc=q
    ·
     have e2:Q.drop q=[]:=List.drop_of_length_le (by omega)
     have e3:m - q=0:=by omega
     have e4:lc - q=0:=by omega
     rw [e2,e3,e4]
     exact⟨⟨_,0,rfl,Nat.le_refl _,Nat.zero_le _,Or.inl rfl⟩,fun x hx=>by cases hx⟩
    . rw [if_neg e];exact h)
   have HTL:=hid (show (Q.take q).length=q from by rw [List.length_take];omega)
   have HDL:=hid (show m - q=(Q.drop q).length from by rw [List.length_drop];omega)
   have HMQ:=hid (fun x (hx:x∈Q.drop q)=>hQ.out.2.2 x (List.mem_of_mem_drop hx))
   have hcp:=HCP.out _ _ wr htk (fun x hx=>hQ.out.2.2 x (List.mem_of_mem_take hx)) (by rw [HTL.out];omega)
   have HCA:=hid hcp
   have HPG:=hid (show pagesF (Q.map (·.1))=(Q.take q).map (·.1)::pagesF ((Q.drop q).map (·.1)) from by
    rw [pagesF_step _ (by intro e;have:=congrArg List.length e;simp at this;rw [this] at hQl;simp at hQl;omega)]
    rw [<-List.map_take,<-List.map_drop]
    by_cases h8:8<=m
    ·
     obtain rfl:q=8:=by omega
     rfl
    ·
     obtain rfl:q=m:=by omega
     rw [List.take_of_length_le (l:=Q) (i:=8) (by omega),List.take_of_length_le (l:=Q) (i:=q) (by omega),List.drop_of_length_le (l:=Q) (i:=8) (by omega),List.drop_of_length_le (l:=Q) (i:=q) (by omega)])
   have q0:(0:Int)<=(q:Int):=by omega
   have q1:(q:Int)<=(m:Int):=by omega
   have q2:(q:Int)<=(lc:Int):=by omega
   have hposi:(0:Int)<(m:Int):=by omega
   clear hcp htk hq hQ hQl
   go_wp2_with fail
   refine HCA.out.mono ?_
   rintro e w2 ⟨v2,R2,rfl,⟨g2,c2,hve⟩,hmap,hcop,hb2⟩
   have HO2:=hid (hO.out.below hb2)
   have HB2:=hid (below_then hb.out lr hb2)
   rw [HTL.out] at hve
   subst hve
   have HM2:=hid (show Copied w2 (.slice (some ⟨g2,0,none⟩) q c2) R2 B from hcop.base (by rw [HB.out];exact hb.out.size))
   have HMAP:=hid hmap
   clear hmap hcop hb2
   have HP1:=hid hP.out.1
   have HOR:=hid (show w2.ownsRow B 22 1 (.slice oo pn oc) pn (P.flatMap enPg) from by have h:=HO2.out.row;rw [<-HP1.out] at h;exact h)
   have hbz:=HB2.out.size
   go_wp2_with (at_builtin;refine wpList_append_own_loc rfl _ _ 58 rfl B 22 i0 (.slice none 0 0) [.slice none 0 0] 24 Tryz.underlying58 HI.out.1 HI.out.2.1 rfl HI.out.2.2.1 HI.out.2.2.2 (by decide) (.slice oo pn oc) pn (P.flatMap enPg) rfl (row_below HOR.out (br.alloc lr _)) ⟨_,0,none⟩ 1 1 [.slice (some ⟨g2,0,none⟩) q c2] rfl (by decide) rfl (new_cells _ [.slice (some ⟨g2,0,none⟩) q c2] _) (by intro u hu;simp at hu;subst hu;rfl) (by unfold maxLen;omega) (by omega) (by rw [HB.out];simp;omega) ?_)
   intro v3 w3 g1 g2' g3
   obtain⟨o3,c3,rfl⟩:∃ o1 c1,v3=.slice o1 (pn+1) c1:=by
    rcases g1.2 with ⟨h1,h0⟩ | ⟨g,cap,cur,h1,_⟩
    . omega
    . exact⟨_,_,h1⟩
   have HB3:=hid (show Below w.heap.size w w3 from (HB2.out.alloc HB2.out.size _).grown g2' (by have:=HB2.out.size;simp;omega) (fun t ht=>by have:=(HO2.out.row.lt t ht).1;have:=HB.out;omega))
   have HG3:=hid g2'
   have HO3:=hid (show w3.ownsRow B 22 1 (.slice o3 (pn+1) c3) (pn+1) ((P++[((.slice (some ⟨g2,0,none⟩) q c2,R2):Pg)]).flatMap enPg) from by rw [fa0];exact g1)
   clear g1 g3
   have HOP:=hid (show OwnPg w3 B (.slice o3 (pn+1) c3) (P++[((.slice (some ⟨g2,0,none⟩) q c2,R2):Pg)]) from by
    refine⟨by have h:=HO3.out;rw [la0,<-HP1.out];exact h,fun p hp=>?_⟩
    have hal:=fun (p:Pg) (h:Copied w2 p.1 p.2 B)=>(h.below (br.alloc lr _)).beside (row_below HOR.out (br.alloc lr _)) HG3.out
    rcases List.mem_append.1 hp with h | h
    . exact hal p (HO2.out.rows p h)
    . rw [List.mem_singleton.1 h];exact hal _ HM2.out)
   have HPE:=hid (show (P++[((.slice (some ⟨g2,0,none⟩) q c2,R2):Pg)]).map (fun p=>p.2.map (·.1))++pagesF ((Q.drop q).map (·.1))=T from by
    have h:=hP.out.2
    rw [HPG.out] at h
    rw [<-h,List.map_append,List.append_assoc]
    congr 1
    show [R2.map (·.1)]++_=_
    rw [HMAP.out];rfl)
   have HPL:=hid (show pn+1=(P++[((.slice (some ⟨g2,0,none⟩) q c2,R2):Pg)]).length from by rw [la0,<-HP1.out];rfl)
   clear g2' hO hP
   go_wp2_with fail
   go_roundw
   case rel=>exact⟨m - q,pn+1,Q.drop q,P++[((.slice (some ⟨g2,0,none⟩) q c2,R2):Pg)],_,_,o3,c3,rfl,rfl,by omega,by omega,hid ⟨HDR.out,HDL.out,HMQ.out⟩,hid ⟨HPL.out,HPE.out⟩,HOP,HB3⟩
   case measure=>simp;omega
  ·
   obtain rfl:m=0:=by omega
   have HF:=hid (show P.map (fun p=>p.2.map (·.1))=T from by
    have h:=hP.out.2
    obtain rfl:Q=[]:=List.eq_nil_of_length_eq_zero hQ.out.2.1.symm
    rw [List.map_nil,pagesF_nil,List.append_nil] at h
    exact h)
   go_wp2_with fail
   go_ret
   exact⟨_,P,rfl,by rw [<-HB.out];exact hO.out,HF.out.trans HT.out,hb.out⟩
end Go.Proofs.YtpeoonnglnchnaaGreatDoor.Mut
namespace Go.Proofs.YtpeoonnglnchnaaGreatDoor.Mut
open Go.Lib (hid)
open RowKit Go.Sort YtpeoonnglnchnaaGreatDoor.Ord
variable [Inhabited Lim]
theorem sib_less (x y:Mu):decide (sibC x y<0)=(Op.bytesLess x.key.toList y.key.toList || (x.key.toList == y.key.toList && decide (muC x y<0))):=by
 have hsib:sibC x y=orL [cmpS x.key y.key,muC x y]:=rfl
 rw [hsib]
 have h1:=cmpS_lt x.key y.key
 have h2:=cmpS_gt x.key y.key
 rcases less_total x.key.toList y.key.toList with h | h | h
 ·
  rw [h]
  have hc:=h1.2 h
  have e:orL [cmpS x.key y.key,muC x y]=cmpS x.key y.key:=by simp [orL,show ¬ cmpS x.key y.key=0 by omega]
  rw [e];simp [hc]
 ·
  have hx:=bytes_ext h
  have hself:cmpS x.key y.key=0:=by
   rw [h,less_irrefl] at h1 h2
   simp at h1 h2
   omega
  have e:orL [cmpS x.key y.key,muC x y]=muC x y:=by
   simp only [orL,hself]
   by_cases hm:muC x y=0 <;> simp [hm]
  rw [e,h,less_irrefl];simp
 ·
  have hc:=h2.2 h
  have hne:(x.key.toList == y.key.toList)=false:=by simpa using (less_ne h).symm
  have e:orL [cmpS x.key y.key,muC x y]=cmpS x.key y.key:=by simp [orL,show ¬ cmpS x.key y.key=0 by omega]
  rw [e,less_asymm h,hne]
  simp
  omega
theorem refless15_any (x y:Ro) (w:World) (hx:Over w x) (hy:Over w y) (h1:x.1.over.length<=1000000) (h2:y.1.over.length<=1000000) :
  Calls Tryz.prog 91 #[vM x,vM y] w fun e w'=>e=.returned (.bool (decide (sibC x.1 y.1<0)))/\Below w.heap.size w w':=by
 have hc:=fun (z:World) (h:Below w.heap.size w z)=>refcompare_any x y z (hx.below h) (hy.below h) h1 h2
 rw [sib_less]
 obtain⟨c,hce⟩:∃ c,c=muC x.1 y.1:=⟨_,rfl⟩
 rw [<-hce] at hc ⊢
 obtain⟨ao1,ac1,e1,-,-⟩:=Over.form hx
 obtain⟨ao2,ac2,e2,-,-⟩:=Over.form hy
 obtain⟨⟨at1,ak1,akey1,afin1,aval1,aex1,⟨ap1,al1,aw1⟩,aov1⟩,av1⟩:=x
 obtain⟨⟨at2,ak2,akey2,afin2,aval2,aex2,⟨ap2,al2,aw2⟩,aov2⟩,av2⟩:=y
 simp only [] at e1 e2
 subst e1 e2
 unfold vM at hc ⊢
 simp only [] at hc ⊢
 generalize aov1.length=n1 at *
 generalize aov2.length=n2 at *
 have hb2:=((Below.refl w.heap.size w).alloc lr (.cells #[.int .i64 at1,.int .i64 ak1,.string akey1,.string afin1,.string aval1,.int .i64 aex1,.int .i64 ap1,.int .i64 al1,.int .i64 aw1,.slice ao1 n1 ac1] 42)).alloc (by simp) (.cells #[.int .i64 at2,.int .i64 ak2,.string akey2,.string afin2,.string aval2,.int .i64 aex2,.int .i64 ap2,.int .i64 al2,.int .i64 aw2,.slice ao2 n2 ac2] 42)
 have HC:=hid hc
 have HB2:=hid hb2
 clear hc hx hy h1 h2 hce hb2
 cases hl:Op.bytesLess akey1.toList akey2.toList
 ·
  cases he:(akey1.toList == akey2.toList)
  ·
   go_enter Tryz.func91,Tryz.ntmps91
   go_wp2_with fail
   go_ret
   exact⟨rfl,HB2.out⟩
  ·
   go_enter Tryz.func91,Tryz.ntmps91
   go_wp2_with fail
   refine (HC.out _ HB2.out).mono ?_
   rintro e w1 ⟨rfl,hb1⟩
   have HB3:=hid (below_then HB2.out lr hb1)
   clear hb1
   go_wp2_with fail
   go_ret
   exact⟨by simp,HB3.out⟩
 ·
  go_enter Tryz.func91,Tryz.ntmps91
  go_wp2_with fail
  go_ret
  exact⟨rfl,HB2.out⟩
