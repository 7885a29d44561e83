/- wire.Reader: what it is in memory; Fail, Why, At, Left, Num (layer 3). -/
import Derived.Test.YtpeoonnglnchnaaGreatDoorPkMutBytes
import Derived.Test.YtpeoonnglnchnaaGreatDoorPkConArg
import Derived.Test.YtpeoonnglnchnaaGreatDoorPkMuts
set_option maxHeartbeats 16000000
set_option maxRecDepth 100000
set_option linter.unusedSimpArgs false
set_option linter.unusedVariables false
namespace Go.Proofs.YtpeoonnglnchnaaGreatDoor.Rd
open Go.Lib (hid)
open Go.RowKit Go.Proofs.YtpeoonnglnchnaaGreatDoor.Mrk
structure Rdr (w:World) (r:Nat) (v:Value) (B:List Nat) (s:S):Prop where
 lt:r<w.heap.size
 c0:w.cell? ⟨r,0,none⟩=some v
 c1:w.cell? ⟨r,1,none⟩=some (.int .i64 (s.1:Nat))
 c2:w.cell? ⟨r,2,none⟩=some (.int .i64 s.2)
 f0:w.frozen? ⟨r,0,none⟩=false
 f1:w.frozen? ⟨r,1,none⟩=false
 f2:w.frozen? ⟨r,2,none⟩=false
 row:BRow w v B
 far:B≠[]→∀ ad n c,v=.slice (some ad) n c→ad.block≠r
 at_:s.1≤B.length
 small:B.length≤100000000
theorem Rdr.below {w w':World} {r:Nat} {v:Value} {B:List Nat} {s:S} (h:Rdr w r v B s) (hb:Below w.heap.size w w'):Rdr w' r v B s:=
 ⟨Nat.lt_of_lt_of_le h.lt hb.size,(hb.cell (p:=⟨r,0,none⟩) h.lt).trans h.c0,(hb.cell (p:=⟨r,1,none⟩) h.lt).trans h.c1,(hb.cell (p:=⟨r,2,none⟩) h.lt).trans h.c2,(hb.frozen (p:=⟨r,0,none⟩) h.lt).trans h.f0,(hb.frozen (p:=⟨r,1,none⟩) h.lt).trans h.f1,(hb.frozen (p:=⟨r,2,none⟩) h.lt).trans h.f2,Lst.below h.row hb,h.far,h.at_,h.small⟩
theorem lst_set {α:Type} {sz:Nat} {en:α→List Value} {w:World} {v:Value} {l:List α} (h:Lst sz en w v l) {r o:Nat} {u:Value} (hf:l≠[]→∀ ad n c,v=.slice (some ad) n c→ad.block≠r):Lst sz en (w.setCell ⟨r,o,none⟩ u) v l:=by
 obtain⟨ao,cap,e1,h1,h2,h3⟩:=h
 by_cases hl:l=[]
 · exact⟨ao,cap,e1,h1,h2,Or.inl (by rw [hl];rfl)⟩
 refine⟨ao,cap,e1,h1,h2,h3.imp id ?_⟩
 rintro⟨g,off,e2,hb,hc⟩
 subst e2
 have hne:=hf hl ⟨g,off,none⟩ _ _ e1
 refine⟨g,off,rfl,by simpa using hb,fun i x hi j hj=>?_⟩
 rw [World.cell?_setCell_far w ⟨r,o,none⟩ ⟨g,off+i*sz+j,none⟩ u (fun e=>hne e.symm)]
 exact hc i x hi j hj
theorem Rdr.setAt {w:World} {r:Nat} {v:Value} {B:List Nat} {s:S} (h:Rdr w r v B s) (a:Nat) (ha:a≤B.length):Rdr (w.setCell ⟨r,1,none⟩ (.int .i64 (a:Nat))) r v B (a,s.2):=by
 obtain⟨h0,h1,h2,h3,h4,h5,h6,h7,h8,h9,h10⟩:=h
 exact⟨by simpa using h0,by go_simp,by go_simp,by go_simp,by go_simp,by go_simp,by go_simp,lst_set h7 h8,h8,ha,h10⟩
theorem Rdr.setWhy {w:World} {r:Nat} {v:Value} {B:List Nat} {s:S} (h:Rdr w r v B s) (y:Int):Rdr (w.setCell ⟨r,2,none⟩ (.int .i64 y)) r v B (s.1,y):=by
 obtain⟨h0,h1,h2,h3,h4,h5,h6,h7,h8,h9,h10⟩:=h
 exact⟨by simpa using h0,by go_simp,by go_simp,by go_simp,by go_simp,by go_simp,by go_simp,lst_set h7 h8,h8,h9,h10⟩
theorem grown_cell' (w:World) (k o:Nat) (u:Value):w.grownBy (w.setCell ⟨k,o,none⟩ u) (some k):=grown_setCell (World.grownBy.refl _ _) (Or.inl rfl) _
def RdP (r:Nat) (v:Value) (B:List Nat) (s:S) (x:Value) (w:World) (e:Ending) (w':World):Prop:=e=.returned x∧Rdr w' r v B s∧w.grownBy w' (some r)
abbrev pR (r:Nat):Value:=.pointer (some ⟨r,0,none⟩)
def failS (s:S) (y:Int):S:=if s.2=0 then (s.1,y) else s
theorem fail_any (r:Nat) (v:Value) (B:List Nat) (s:S) (y:Int) (w:World) (h:Rdr w r v B s):Calls Tryz.prog 70 #[pR r,.int .i64 y] w (RdP r v B (failS s y) (.tuple #[]) w):=by
 obtain⟨a,q⟩:=s
 have HR:=hid h
 obtain⟨-,c0,c1,c2,f0,f1,f2,-,-,-,-⟩:=h
 simp only [] at c1 c2
 by_cases hq:q=0
 ·
  have HW:=hid (HR.out.setWhy y)
  have e:failS (a,q) y=(a,y):=by unfold failS;rw [if_pos hq]
  rw [e]
  subst hq
  clear e
  go_enter Tryz.func70,Tryz.ntmps70
  go_wp2_with fail
  first
   | (go_ret;exact⟨rfl,HW.out,grown_cell' _ _ _ _⟩)
   | (go_end0;exact⟨rfl,HW.out,grown_cell' _ _ _ _⟩)
 ·
  have e:failS (a,q) y=(a,q):=by unfold failS;rw [if_neg hq]
  rw [e]
  clear e
  go_enter Tryz.func70,Tryz.ntmps70
  go_wp2_with fail
  first
   | (go_ret;exact⟨rfl,HR.out,World.grownBy.refl _ _⟩)
   | (go_end0;exact⟨rfl,HR.out,World.grownBy.refl _ _⟩)
theorem why_any (r:Nat) (v:Value) (B:List Nat) (s:S) (w:World) (h:Rdr w r v B s):Calls Tryz.prog 35 #[pR r] w fun e w'=>e=.returned (.int .i64 s.2)∧w=w':=by
 obtain⟨-,c0,c1,c2,f0,f1,f2,-,-,-,-⟩:=h
 go_enter Tryz.func35,Tryz.ntmps35
 go_wp2_with fail
 go_ret
 exact⟨rfl,rfl⟩
theorem at_any (r:Nat) (v:Value) (B:List Nat) (s:S) (w:World) (h:Rdr w r v B s):Calls Tryz.prog 72 #[pR r] w fun e w'=>e=.returned (.int .i64 (s.1:Nat))∧w=w':=by
 obtain⟨-,c0,c1,c2,f0,f1,f2,-,-,-,-⟩:=h
 go_enter Tryz.func72,Tryz.ntmps72
 go_wp2_with fail
 go_ret
 exact⟨rfl,rfl⟩
theorem left_any (r:Nat) (v:Value) (B:List Nat) (s:S) (w:World) (h:Rdr w r v B s):Calls Tryz.prog 71 #[pR r] w fun e w'=>e=.returned (.int .i64 ((B.length - s.1:Nat):Int))∧Below w.heap.size w w':=by
 obtain⟨ao,cap,rfl,-,-⟩:=Lst.form h.row
 obtain⟨n,hn⟩:∃ n,n=B.length:=⟨_,rfl⟩
 have hs:=h.small
 have ha:=h.at_
 have hlt0:=h.lt
 obtain⟨-,c0,c1,c2,f0,f1,f2,-,-,-,-⟩:=h
 rw [←hn] at c0 hs ha ⊢
 obtain⟨a,y⟩:=s
 simp only [] at c1 c2 ha ⊢
 have e:IntKind.i64.wrap ((n:Int) - (a:Int))=((n - a:Nat):Int):=by rw [Go.IntWalk.i64_in _ (by omega)];omega
 clear hn
 have hlt:r<w.heap.size:=hlt0
 go_enter Tryz.func71,Tryz.ntmps71
 go_upto_region 1 with fail
 refine wp_region_calm (by kernel_rfl) (by kernel_rfl) ?_
 repeat (go_big_quiet_step (fail))
 refine wpQuiet_nil ?_
 rintro _ ⟨y,rfl⟩
 go_wp2_with fail
 go_ret
 exact⟨rfl,y.below⟩
theorem num_any (r:Nat) (v:Value) (B:List Nat) (s:S) (w:World) (h:Rdr w r v B s) (hB:∀ c∈B,c<256):Calls Tryz.prog 69 #[pR r] w (RdP r v B (numS B s).2 (.int .i64 ((numS B s).1:Nat)) w):=by
 obtain⟨ao,cap,rfl,-,-⟩:=Lst.form h.row
 obtain⟨nb,hnb⟩:∃ n,n=B.length:=⟨_,rfl⟩
 obtain⟨a,y⟩:=s
 have hh:Rdr w r (.slice ao nb cap) B (a,y):=by rw [hnb];exact h
 have HFI:=hid (show ∀ (s:S) (x:Value) (e:Ending) (w':World),RdP r (.slice ao nb cap) B s x w e w'→RdP r (.slice ao B.length cap) B s x w e w' from fun s x e w' h=>by rw [←hnb];exact h)
 have hsm:nb≤100000000:=by rw [hnb];exact h.small
 have hat:a≤nb:=by rw [hnb];exact h.at_
 have HR:=hid hh
 have HB:=hid hB
 have HNB:=hid hnb
 refine Calls.mono (R:=RdP r (.slice ao nb cap) B (numS B (a,y)).2 (.int .i64 ((numS B (a,y)).1:Nat)) w) ?_ (fun e w' h=>HFI.out _ _ e w' h)
 obtain⟨-,c0,c1,c2,f0,f1,f2,-,-,-,-⟩:=hh
 simp only [] at c1 c2
 clear h hB hnb
 by_cases hy:y=0
 ·
  subst hy
  obtain⟨Q,hQ⟩:∃ Q,Q=numS B (a,0):=⟨_,rfl⟩
  rw [←hQ]
  have HQ:=hid (show (match numR B a with | .ok (n,b)=>(n,(b,(0:Int))) | .error e=>(0,(a,e)))=Q from by rw [hQ];unfold numS;rw [if_pos rfl];rfl)
  have HF:=hid (fun (y:Int) (w1:World) (h:Rdr w1 r (.slice ao nb cap) B (a,0))=>fail_any r (.slice ao nb cap) B (a,0) y w1 h)
  clear hQ c0 c1 c2 f0 f1 f2
  have hc1:w.cell? ⟨r,1,none⟩=some (.int .i64 (a:Nat)):=HR.out.c1
  go_enter Tryz.func69,Tryz.ntmps69
  go_wp2_with fail
  clear hc1
  go_loopw [3,4] (fun nv iv wr=>∃ (i n:Nat) (y:Int),nv=.int .i64 n∧iv=.int .i64 i∧a≤i∧i≤nb+1∧n<4611686018427387904∧Hid (Rdr wr r (.slice ao nb cap) B (a,y))∧Hid (w.grownBy wr (some r))∧((y=0∧i≤nb∧Hid (numL B a (nb+1 - i) i n=numR B a))∨(y≠0∧Hid (Q=(0,(a,y)))))) (fun _ iv _=>nb+2 - (intOf iv).toNat)
  case atStart=>exact⟨a,0,0,rfl,rfl,by omega,by omega,by omega,HR,hid (World.grownBy.refl _ _),Or.inl ⟨rfl,hat,hid (by unfold numR;rw [HNB.out])⟩⟩
  case round=>
   obtain⟨i,n,y,rfl,rfl,hai,hin,hn62,hrd,hgr,hm⟩:=hrel
   have c0:=hrd.out.c0
   have c1:=hrd.out.c1
   have c2:=hrd.out.c2
   have f1:=hrd.out.f1
   have hsz:=hrd.out.lt
   simp only [] at c1 c2
   rcases hm with ⟨rfl,hib,hL⟩ | ⟨hy,hQ⟩
   ·
    by_cases hlt:i<nb
    ·
     obtain⟨c,hc⟩:∃ c,B[i]?=some c:=⟨_,List.getElem?_eq_getElem (by have:=HNB.out;omega)⟩
     obtain⟨g,off,rfl,hgw,hcell⟩:=byte_at hrd.out.row hc
     have hc256:=HB.out c (List.mem_of_getElem? hc)
     have hst:=hL.out
     rw [show nb+1 - i=(nb - i)+1 by omega,numL_step B a _ i n c hc] at hst
     have HST:=hid hst
     have HC:=hid hc
     have j0:(0:Int)≤(i:Int):=by omega
     have j1:(i:Int)<(nb:Int):=by omega
     clear hst hc hL
     have hg1:¬ g=r:=hrd.out.far (fun e=>by have:=HC.out;rw [e] at this;simp at this) _ _ _ rfl
     have hg2:¬ r=g:=fun e=>hg1 e.symm
     cases hqa:((i:Int) == (a:Int)) <;> cases hq8:((c:Int) == 128) <;> cases hqn:decide ((36028797018963968:Int)≤(n:Int))
     ·
      have pa:¬ i=a:=by simp at hqa;omega
      have p8:¬ c=128:=by simp at hq8;omega
      have pn:n<36028797018963968:=by simp at hqn;omega
      have e1:IntKind.i64.wrap ((n:Int)*128)=((n*128:Nat):Int):=by rw [Go.IntWalk.i64_in _ (by omega)];omega
      cases hq9:decide ((c:Int)<128)
      ·
       have p9:¬ c<128:=by simp at hq9;omega
       have e2:bits .and .u8 (c:Int) 127=((c % 128:Nat):Int):=by have h:=u8_and_nat c 127 hc256 (by decide);rw [and127_nat c hc256] at h;exact h
       have e3:bits .or .i64 ((n*128:Nat):Int) ((c % 128:Nat):Int)=((n*128+c % 128:Nat):Int):=by rw [i64_or_nat _ _ (by omega) (by omega),or128_nat n _ (by omega)]
       have HL2:=hid (show numL B a (nb+1 - (i+1)) (i+1) (n*128+c % 128)=numR B a from by
        have h:=HST.out
        rw [if_neg (by omega),if_neg p9] at h
        rw [show nb+1 - (i+1)=nb - i by omega]
        exact h)
       obtain⟨n2,hn2⟩:∃ m,m=n*128:=⟨_,rfl⟩
       obtain⟨c2n,hc2⟩:∃ m,m=c % 128:=⟨_,rfl⟩
       obtain⟨n3,hn3⟩:∃ m,m=n*128+c % 128:=⟨_,rfl⟩
       have hn3b:n3<4611686018427387904:=by omega
       have hc2b:c2n<128:=by omega
       rw [←hn3] at e3 HL2
       rw [←hn2] at e1 e3
       rw [←hc2] at e2 e3
       clear pa p8 pn hn2 hc2 hn3 p9
       go_wp2_with fail
       go_roundw
       case rel=>exact⟨i+1,n3,0,by first | rfl | go_num,by go_num,by omega,by omega,hn3b,hrd,hgr,Or.inl ⟨rfl,by omega,HL2⟩⟩
       case measure=>simp [intOf];omega
      ·
       have p9:c<128:=by simp at hq9;omega
       have e3:bits .or .i64 ((n*128:Nat):Int) (c:Int)=((n*128+c:Nat):Int):=by rw [i64_or_nat _ _ (by omega) (by omega),or128_nat n c p9]
       have HQ2:=hid (show Q=(n*128+c,(i+1,(0:Int))) from by
        have h:=HST.out
        rw [if_neg (by omega),if_pos p9] at h
        have h2:=HQ.out
        rw [←h] at h2
        exact h2.symm)
       have e4:IntKind.i64.wrap ((i:Int)+1)=((i+1:Nat):Int):=by rw [Go.IntWalk.i64_in _ (by omega)];omega
       have HRS:=hid (show Rdr (wr.setCell ⟨r,1,none⟩ (.int .i64 ((i:Int)+1))) r _ B (i+1,(0:Int)) from hrd.out.setAt (i+1) (by have:=HNB.out;omega))
       have HGS:=hid (hgr.out.andThen (grown_cell' wr r 1 (.int .i64 ((i:Int)+1))) (fun j hj=>Or.inr hj))
       obtain⟨n2,hn2⟩:∃ m,m=n*128:=⟨_,rfl⟩
       obtain⟨n3,hn3⟩:∃ m,m=n*128+c:=⟨_,rfl⟩
       rw [←hn3] at e3 HQ2
       rw [←hn2] at e1 e3
       clear e4
       clear pa p8 pn hn2 hn3 p9
       go_wp2_with fail
       go_ret
       exact⟨by rw [HQ2.out];rfl,by rw [HQ2.out];exact HRS.out,HGS.out⟩
     ·
      have pa:¬ i=a:=by simp at hqa;omega
      have p8:¬ c=128:=by simp at hq8;omega
      have pn:36028797018963968≤n:=by simp at hqn;omega
      have HFA:=hid (HF.out 31 _ hrd.out)
      have HQ2:=hid (show Q=(0,(a,(31:Int))) from by
       have h:=HST.out
       rw [if_pos (by omega)] at h
       have h2:=HQ.out
       rw [←h] at h2
       exact h2.symm)
      clear pa p8 pn
      go_wp2_with fail
      refine HFA.out.mono ?_
      rintro e w1 ⟨rfl,hr1,hg3⟩
      have HR1:=hid hr1
      have HG1:=hid (hgr.out.andThen hg3 (fun j hj=>Or.inr hj))
      clear hr1 hg3
      go_wp2_with fail
      go_roundw
      case rel=>exact⟨i+1,n,31,rfl,by go_num,by omega,by omega,by omega,HR1,HG1,Or.inr ⟨by decide,HQ2⟩⟩
      case measure=>simp [intOf];omega
     ·
      have pa:¬ i=a:=by simp at hqa;omega
      have p8:c=128:=by simp at hq8;omega
      have pn:n<36028797018963968:=by simp at hqn;omega
      have e1:IntKind.i64.wrap ((n:Int)*128)=((n*128:Nat):Int):=by rw [Go.IntWalk.i64_in _ (by omega)];omega
      cases hq9:decide ((c:Int)<128)
      ·
       have p9:¬ c<128:=by simp at hq9;omega
       have e2:bits .and .u8 (c:Int) 127=((c % 128:Nat):Int):=by have h:=u8_and_nat c 127 hc256 (by decide);rw [and127_nat c hc256] at h;exact h
       have e3:bits .or .i64 ((n*128:Nat):Int) ((c % 128:Nat):Int)=((n*128+c % 128:Nat):Int):=by rw [i64_or_nat _ _ (by omega) (by omega),or128_nat n _ (by omega)]
       have HL2:=hid (show numL B a (nb+1 - (i+1)) (i+1) (n*128+c % 128)=numR B a from by
        have h:=HST.out
        rw [if_neg (by omega),if_neg p9] at h
        rw [show nb+1 - (i+1)=nb - i by omega]
        exact h)
       obtain⟨n2,hn2⟩:∃ m,m=n*128:=⟨_,rfl⟩
       obtain⟨c2n,hc2⟩:∃ m,m=c % 128:=⟨_,rfl⟩
       obtain⟨n3,hn3⟩:∃ m,m=n*128+c % 128:=⟨_,rfl⟩
       have hn3b:n3<4611686018427387904:=by omega
       have hc2b:c2n<128:=by omega
       rw [←hn3] at e3 HL2
       rw [←hn2] at e1 e3
       rw [←hc2] at e2 e3
       clear pa p8 pn hn2 hc2 hn3 p9
       go_wp2_with fail
       go_roundw
       case rel=>exact⟨i+1,n3,0,by first | rfl | go_num,by go_num,by omega,by omega,hn3b,hrd,hgr,Or.inl ⟨rfl,by omega,HL2⟩⟩
       case measure=>simp [intOf];omega
      ·
       have p9:c<128:=by simp at hq9;omega
       have e3:bits .or .i64 ((n*128:Nat):Int) (c:Int)=((n*128+c:Nat):Int):=by rw [i64_or_nat _ _ (by omega) (by omega),or128_nat n c p9]
       have HQ2:=hid (show Q=(n*128+c,(i+1,(0:Int))) from by
        have h:=HST.out
        rw [if_neg (by omega),if_pos p9] at h
        have h2:=HQ.out
        rw [←h] at h2
        exact h2.symm)
       have e4:IntKind.i64.wrap ((i:Int)+1)=((i+1:Nat):Int):=by rw [Go.IntWalk.i64_in _ (by omega)];omega
       have HRS:=hid (show Rdr (wr.setCell ⟨r,1,none⟩ (.int .i64 ((i:Int)+1))) r _ B (i+1,(0:Int)) from hrd.out.setAt (i+1) (by have:=HNB.out;omega))
       have HGS:=hid (hgr.out.andThen (grown_cell' wr r 1 (.int .i64 ((i:Int)+1))) (fun j hj=>Or.inr hj))
       obtain⟨n2,hn2⟩:∃ m,m=n*128:=⟨_,rfl⟩
       obtain⟨n3,hn3⟩:∃ m,m=n*128+c:=⟨_,rfl⟩
       rw [←hn3] at e3 HQ2
       rw [←hn2] at e1 e3
       clear e4
       clear pa p8 pn hn2 hn3 p9
       go_wp2_with fail
       go_ret
       exact⟨by rw [HQ2.out];rfl,by rw [HQ2.out];exact HRS.out,HGS.out⟩
     ·
      have pa:¬ i=a:=by simp at hqa;omega
      have p8:c=128:=by simp at hq8;omega
      have pn:36028797018963968≤n:=by simp at hqn;omega
      have HFA:=hid (HF.out 31 _ hrd.out)
      have HQ2:=hid (show Q=(0,(a,(31:Int))) from by
       have h:=HST.out
       rw [if_pos (by omega)] at h
       have h2:=HQ.out
       rw [←h] at h2
       exact h2.symm)
      clear pa p8 pn
      go_wp2_with fail
      refine HFA.out.mono ?_
      rintro e w1 ⟨rfl,hr1,hg3⟩
      have HR1:=hid hr1
      have HG1:=hid (hgr.out.andThen hg3 (fun j hj=>Or.inr hj))
      clear hr1 hg3
      go_wp2_with fail
      go_roundw
      case rel=>exact⟨i+1,n,31,rfl,by go_num,by omega,by omega,by omega,HR1,HG1,Or.inr ⟨by decide,HQ2⟩⟩
      case measure=>simp [intOf];omega
     ·
      have pa:i=a:=by simp at hqa;omega
      have p8:¬ c=128:=by simp at hq8;omega
      have pn:n<36028797018963968:=by simp at hqn;omega
      have e1:IntKind.i64.wrap ((n:Int)*128)=((n*128:Nat):Int):=by rw [Go.IntWalk.i64_in _ (by omega)];omega
      cases hq9:decide ((c:Int)<128)
      ·
       have p9:¬ c<128:=by simp at hq9;omega
       have e2:bits .and .u8 (c:Int) 127=((c % 128:Nat):Int):=by have h:=u8_and_nat c 127 hc256 (by decide);rw [and127_nat c hc256] at h;exact h
       have e3:bits .or .i64 ((n*128:Nat):Int) ((c % 128:Nat):Int)=((n*128+c % 128:Nat):Int):=by rw [i64_or_nat _ _ (by omega) (by omega),or128_nat n _ (by omega)]
       have HL2:=hid (show numL B a (nb+1 - (i+1)) (i+1) (n*128+c % 128)=numR B a from by
        have h:=HST.out
        rw [if_neg (by omega),if_neg p9] at h
        rw [show nb+1 - (i+1)=nb - i by omega]
        exact h)
       obtain⟨n2,hn2⟩:∃ m,m=n*128:=⟨_,rfl⟩
       obtain⟨c2n,hc2⟩:∃ m,m=c % 128:=⟨_,rfl⟩
       obtain⟨n3,hn3⟩:∃ m,m=n*128+c % 128:=⟨_,rfl⟩
       have hn3b:n3<4611686018427387904:=by omega
       have hc2b:c2n<128:=by omega
       rw [←hn3] at e3 HL2
       rw [←hn2] at e1 e3
       rw [←hc2] at e2 e3
       clear pa p8 pn hn2 hc2 hn3 p9
       go_wp2_with fail
       go_roundw
       case rel=>exact⟨i+1,n3,0,by first | rfl | go_num,by go_num,by omega,by omega,hn3b,hrd,hgr,Or.inl ⟨rfl,by omega,HL2⟩⟩
       case measure=>simp [intOf];omega
      ·
       have p9:c<128:=by simp at hq9;omega
       have e3:bits .or .i64 ((n*128:Nat):Int) (c:Int)=((n*128+c:Nat):Int):=by rw [i64_or_nat _ _ (by omega) (by omega),or128_nat n c p9]
       have HQ2:=hid (show Q=(n*128+c,(i+1,(0:Int))) from by
        have h:=HST.out
        rw [if_neg (by omega),if_pos p9] at h
        have h2:=HQ.out
        rw [←h] at h2
        exact h2.symm)
       have e4:IntKind.i64.wrap ((i:Int)+1)=((i+1:Nat):Int):=by rw [Go.IntWalk.i64_in _ (by omega)];omega
       have HRS:=hid (show Rdr (wr.setCell ⟨r,1,none⟩ (.int .i64 ((i:Int)+1))) r _ B (i+1,(0:Int)) from hrd.out.setAt (i+1) (by have:=HNB.out;omega))
       have HGS:=hid (hgr.out.andThen (grown_cell' wr r 1 (.int .i64 ((i:Int)+1))) (fun j hj=>Or.inr hj))
       obtain⟨n2,hn2⟩:∃ m,m=n*128:=⟨_,rfl⟩
       obtain⟨n3,hn3⟩:∃ m,m=n*128+c:=⟨_,rfl⟩
       rw [←hn3] at e3 HQ2
       rw [←hn2] at e1 e3
       clear e4
       clear pa p8 pn hn2 hn3 p9
       go_wp2_with fail
       go_ret
       exact⟨by rw [HQ2.out];rfl,by rw [HQ2.out];exact HRS.out,HGS.out⟩
     ·
      have pa:i=a:=by simp at hqa;omega
      have p8:¬ c=128:=by simp at hq8;omega
      have pn:36028797018963968≤n:=by simp at hqn;omega
      have HFA:=hid (HF.out 31 _ hrd.out)
      have HQ2:=hid (show Q=(0,(a,(31:Int))) from by
       have h:=HST.out
       rw [if_pos (by omega)] at h
       have h2:=HQ.out
       rw [←h] at h2
       exact h2.symm)
      clear pa p8 pn
      go_wp2_with fail
      refine HFA.out.mono ?_
      rintro e w1 ⟨rfl,hr1,hg3⟩
      have HR1:=hid hr1
      have HG1:=hid (hgr.out.andThen hg3 (fun j hj=>Or.inr hj))
      clear hr1 hg3
      go_wp2_with fail
      go_roundw
      case rel=>exact⟨i+1,n,31,rfl,by go_num,by omega,by omega,by omega,HR1,HG1,Or.inr ⟨by decide,HQ2⟩⟩
      case measure=>simp [intOf];omega
     ·
      have pa:i=a:=by simp at hqa;omega
      have p8:c=128:=by simp at hq8;omega
      have pn:n<36028797018963968:=by simp at hqn;omega
      have HFA:=hid (HF.out 31 _ hrd.out)
      have HQ2:=hid (show Q=(0,(a,(31:Int))) from by
       have h:=HST.out
       rw [if_pos (by omega)] at h
       have h2:=HQ.out
       rw [←h] at h2
       exact h2.symm)
      clear pa p8 pn
      go_wp2_with fail
      refine HFA.out.mono ?_
      rintro e w1 ⟨rfl,hr1,hg3⟩
      have HR1:=hid hr1
      have HG1:=hid (hgr.out.andThen hg3 (fun j hj=>Or.inr hj))
      clear hr1 hg3
      go_wp2_with fail
      go_roundw
      case rel=>exact⟨i+1,n,31,rfl,by go_num,by omega,by omega,by omega,HR1,HG1,Or.inr ⟨by decide,HQ2⟩⟩
      case measure=>simp [intOf];omega
     ·
      have pa:i=a:=by simp at hqa;omega
      have p8:c=128:=by simp at hq8;omega
      have pn:36028797018963968≤n:=by simp at hqn;omega
      have HFA:=hid (HF.out 31 _ hrd.out)
      have HQ2:=hid (show Q=(0,(a,(31:Int))) from by
       have h:=HST.out
       rw [if_pos (by omega)] at h
       have h2:=HQ.out
       rw [←h] at h2
       exact h2.symm)
      clear pa p8 pn
      go_wp2_with fail
      refine HFA.out.mono ?_
      rintro e w1 ⟨rfl,hr1,hg3⟩
      have HR1:=hid hr1
      have HG1:=hid (hgr.out.andThen hg3 (fun j hj=>Or.inr hj))
      clear hr1 hg3
      go_wp2_with fail
      go_roundw
      case rel=>exact⟨i+1,n,31,rfl,by go_num,by omega,by omega,by omega,HR1,HG1,Or.inr ⟨by decide,HQ2⟩⟩
      case measure=>simp [intOf];omega
    ·
     obtain rfl:i=nb:=by omega
     have HFA:=hid (HF.out 30 _ hrd.out)
     have HQ2:=hid (show Q=(0,(a,(30:Int))) from by
      have h:=hL.out
      rw [numL_end B a _ i n (by rw [HNB.out];exact Nat.le_refl _)] at h
      have h2:=HQ.out
      rw [←h] at h2
      exact h2.symm)
     clear hL
     go_wp2_with fail
     refine HFA.out.mono ?_
     rintro e w1 ⟨rfl,hr1,hg3⟩
     have HR1:=hid hr1
     have HG1:=hid (hgr.out.andThen hg3 (fun j hj=>Or.inr hj))
     clear hr1 hg3
     go_wp2_with fail
     go_roundw
     case rel=>exact⟨i+1,n,30,rfl,by go_num,by omega,by omega,by omega,HR1,HG1,Or.inr ⟨by decide,HQ2⟩⟩
     case measure=>first | (simp [intOf];omega) | simp [intOf]
   ·
    have hyb:((y:Int) == 0)=false:=by simpa using hy
    go_wp2_with fail
    go_ret
    exact⟨by first | (rw [hQ.out];rfl) | rw [hQ.out],by rw [hQ.out];exact hrd.out,hgr.out⟩
 ·
  have hyb:((y:Int) == 0)=false:=by simpa using hy
  have e:numS B (a,y)=(0,(a,y)):=by unfold numS;rw [if_neg hy]
  rw [e]
  clear e
  go_enter Tryz.func69,Tryz.ntmps69
  go_wp2_with fail
  go_loopw [4] (fun iv wr=>iv=.int .i64 (a:Nat)∧wr=w) (fun _ _=>0)
  case atStart=>exact⟨rfl,rfl⟩
  case round=>
   obtain⟨rfl,hwr⟩:=hrel
   subst hwr
   go_wp2_with fail
   go_ret
   exact⟨rfl,HR.out,World.grownBy.refl _ _⟩
end Go.Proofs.YtpeoonnglnchnaaGreatDoor.Rd
