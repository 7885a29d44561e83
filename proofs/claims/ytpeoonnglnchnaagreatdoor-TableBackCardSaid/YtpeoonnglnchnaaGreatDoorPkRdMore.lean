/- PkRdMore. -/
import Derived.Test.YtpeoonnglnchnaaGreatDoorPkMutBytes
import Derived.Laws.BytesString
import Derived.Laws.Cells
set_option linter.unusedSimpArgs false
set_option linter.unusedVariables false
set_option maxHeartbeats 16000000
set_option maxRecDepth 100000
namespace Go.Proofs.YtpeoonnglnchnaaGreatDoor.Rd
open Go.Lib (hid)
open RowKit Mrk
theorem new_any (v:Value) (B:List Nat) (w:World) (hv:BRow w v B) (hs:B.length<=100000000):Calls Tryz.prog 32 #[v] w fun e w'=>e=.returned (pR w.heap.size)/\Rdr w' w.heap.size v B (0,0)/\Below w.heap.size w w':=by
 obtain⟨ao,cap,rfl,-,-⟩:=Lst.form hv
 obtain⟨n,hn⟩:∃ n,n=B.length:=⟨_,rfl⟩
 have HF:=hid (show Rdr (w.alloc (.cells #[.slice ao n cap,.int .i64 0,.int .i64 0] 105)) w.heap.size (.slice ao n cap) B (0,0) from by
  rw [hn]
  have hb:Below w.heap.size w (w.alloc (.cells #[.slice ao B.length cap,.int .i64 0,.int .i64 0] 105)):=br.alloc lr _
  refine⟨by simp,by go_simp,by go_simp,by go_simp,by go_simp,by go_simp,by go_simp,Lst.below hv hb,fun hne ad k c e=>?_,Nat.zero_le _,hs⟩
  obtain⟨ao',cap',e1,_,_,h3⟩:=hv
  rcases h3 with h3 | ⟨g,off,e2,hg,_⟩
  . exact absurd (List.eq_nil_of_length_eq_zero h3) hne
  ·
   subst e2
   cases e1
   cases e
   exact Nat.ne_of_lt hg)
 rw [<-hn]
 clear hv hs hn
 go_enter Tryz.func32,Tryz.ntmps32
 go_wp2_with fail
 go_ret
 exact⟨rfl,HF.out,br.alloc lr _⟩
def countS (B:List Nat) (most:Int) (s:S):Nat × S:=
 if (numS B s).2.2=0 then if most<(numS B s).1 then (0,(s.1,31)) else numS B s else (0,(s.1,(numS B s).2.2))
theorem countS_ok (B:List Nat) (most:Int) (s:S) (hs:s.1<=B.length):(countS B most s).2.1<=B.length/\s.1<=(countS B most s).2.1/\((countS B most s).1:Int)<=max most 0:=by
 have h:=numS_ok B s hs
 unfold countS
 split
 ·
  split
  . exact⟨hs,Nat.le_refl _,(show ((0:Nat):Int)<=max most 0 by omega)⟩
  . exact⟨h.1,h.2.2,by omega⟩
 . exact⟨hs,Nat.le_refl _,(show ((0:Nat):Int)<=max most 0 by omega)⟩
theorem count_any (r:Nat) (v:Value) (B:List Nat) (most:Int) (s:S) (w:World) (h:Rdr w r v B s) (hB:∀ c∈B,c<256) :
  Calls Tryz.prog 33 #[pR r,.int .i64 most] w (RdP r v B (countS B most s).2 (.int .i64 ((countS B most s).1:Nat)) w):=by
 have HNU:=hid (num_any r v B s w h hB)
 have HF:=hid (fun (s:S) (y:Int) (w1:World) (h:Rdr w1 r v B s)=>fail_any r v B s y w1 h)
 have hok:=numS_ok B s h.at_
 have HAT:=hid (show ∀ (W:World) (q:S),Rdr W r v B q->Rdr (W.setCell ⟨r,1,none⟩ (.int .i64 (s.1:Nat))) r v B (s.1,q.2) from fun W q hq=>hq.setAt s.1 h.at_)
 obtain⟨x,hx⟩:∃ x,x=numS B s:=⟨_,rfl⟩
 obtain⟨a,y⟩:=s
 obtain⟨Q,hQe⟩:∃ Q,Q=countS B most (a,y):=⟨_,rfl⟩
 have HQ:=hid (show Q=if x.2.2=0 then if most<x.1 then (0,(a,(31:Int))) else x else (0,(a,x.2.2)) from by rw [hQe,hx];rfl)
 rw [<-hQe]
 rw [<-hx] at HNU hok
 obtain⟨n,a1,y1⟩:=x
 have c1:=h.c1
 simp only [] at c1 hok
 have hn62:=hok.2.1
 clear h hok hx hQe
 go_enter Tryz.func33,Tryz.ntmps33
 go_wp2_with fail
 refine HNU.out.mono ?_
 rintro e w1 ⟨rfl,hr1,hg1⟩
 have HR1:=hid hr1
 have HG1:=hid hg1
 have d1:=hr1.c1
 have d2:=hr1.c2
 have g1:=hr1.f1
 simp only [] at d1 d2
 clear hr1 hg1 c1
 cases hy:((y1:Int) == 0)
 ·
  have hy':¬ y1=0:=by simpa using hy
  have HFA:=hid (HAT.out w1 (a1,y1) HR1.out)
  have HE:=hid (show Q=(0,(a,y1)) from by have h:=HQ.out;simpa [hy'] using h)
  clear hy'
  go_wp2_with fail
  go_ret
  exact⟨by first | (rw [HE.out];rfl) | rw [HE.out],by rw [HE.out];exact HFA.out,HG1.out.andThen (grown_cell' _ _ _ _) (fun j hj=>Or.inr hj)⟩
 ·
  have hy':y1=0:=by simpa using hy
  subst hy'
  cases hm:decide ((n:Int) > most)
  ·
   have hm':¬ most<(n:Int):=by simpa using hm
   have HE:=hid (show Q=(n,(a1,(0:Int))) from by have h:=HQ.out;simpa [hm'] using h)
   clear hm'
   go_wp2_with fail
   go_ret
   exact⟨by first | (rw [HE.out];rfl) | rw [HE.out],by rw [HE.out];exact HR1.out,HG1.out⟩
  ·
   have hm':most<(n:Int):=by simpa using hm
   have HE:=hid (show Q=(0,(a,(31:Int))) from by have h:=HQ.out;simpa [hm'] using h)
   have HFA:=hid (HF.out (a1,0) 31 w1 HR1.out)
   clear hm'
   go_wp2_with fail
   refine HFA.out.mono ?_
   rintro e w2 ⟨rfl,hr2,hg2⟩
   have HR2:=hid (show Rdr w2 r v B (a1,(31:Int)) from hr2)
   have HG2:=hid (HG1.out.andThen hg2 (fun j hj=>Or.inr hj))
   have e2:=HR2.out.c2
   have e1:=HR2.out.c1
   have k1:=HR2.out.f1
   simp only [] at e1 e2
   have HFB:=hid (HAT.out w2 (a1,31) HR2.out)
   clear hr2 hg2 d1 d2 g1
   go_wp2_with fail
   go_ret
   exact⟨by first | (rw [HE.out];rfl) | rw [HE.out],by rw [HE.out];exact HFB.out,HG2.out.andThen (grown_cell' _ _ _ _) (fun j hj=>Or.inr hj)⟩
end Go.Proofs.YtpeoonnglnchnaaGreatDoor.Rd
namespace Go.Proofs.YtpeoonnglnchnaaGreatDoor.Rd
open Go.Lib (hid)
open RowKit Mrk RegInv
def strOf (l:List Nat):ByteArray:=(l.map fun c:Nat=>(c:Int)).foldl (fun r n=>r.push (UInt8.ofNat n.toNat)) ByteArray.empty
theorem conv_bytes (W:World) (ad:Addr) (L:List Nat) (n cc:Nat) (hn:n=L.length) (h:∀ j c,L[j]?=some c->W.cell? (ad.add j)=some (.int .u8 (c:Nat))) :
  (convert 31 9 (.slice (some ad) n cc)).run Tryz.prog W=.ok (.string (strOf L)) W:=by
 rw [run_convert_bytes_string W _ _ 5 (some ad) n cc Tryz.underlying31 Tryz.underlying5 Tryz.underlying9]
 refine run_bytesToString W ad n cc (L.map fun c:Nat=>(c:Int)) ?_
 have h1:=run_loadCells_list (P:=Tryz.prog) (w:=W) ad (L.map fun c:Nat=>Value.int .u8 (c:Int)) (fun j v hv=>by
  rw [List.getElem?_map] at hv
  obtain⟨c,hc,rfl⟩:=Option.map_eq_some_iff.1 hv
  exact h j c hc)
 rw [lm0,<-hn] at h1
 rw [h1,List.map_map]
 rfl
def textS (B:List Nat) (most:Int) (s:S):ByteArray × S:=
 if (numS B s).2.2=0 then
  if most<(numS B s).1 then (ByteArray.empty,(s.1,31))
  else if B.length - (numS B s).2.1<(numS B s).1 then (ByteArray.empty,(s.1,30))
  else (strOf ((B.drop (numS B s).2.1).take (numS B s).1),((numS B s).2.1+(numS B s).1,0))
 else (ByteArray.empty,(s.1,(numS B s).2.2))
theorem text_any (r:Nat) (v:Value) (B:List Nat) (most:Int) (s:S) (w:World) (h:Rdr w r v B s) (hB:∀ c∈B,c<256) :
  Calls Tryz.prog 34 #[pR r,.int .i64 most] w (RdP r v B (textS B most s).2 (.string (textS B most s).1) w):=by
 have HNU:=hid (num_any r v B s w h hB)
 have HF:=hid (fun (s:S) (y:Int) (w1:World) (h:Rdr w1 r v B s)=>fail_any r v B s y w1 h)
 have HL:=hid (fun (s:S) (w1:World) (h:Rdr w1 r v B s)=>left_any r v B s w1 h)
 have hok:=numS_ok B s h.at_
 have hpos:=numS_pos B s h.at_
 have HAT:=hid (show ∀ (W:World) (q:S),Rdr W r v B q->Rdr (W.setCell ⟨r,1,none⟩ (.int .i64 (s.1:Nat))) r v B (s.1,q.2) from fun W q hq=>hq.setAt s.1 h.at_)
 obtain⟨x,hx⟩:∃ x,x=numS B s:=⟨_,rfl⟩
 obtain⟨a,y⟩:=s
 obtain⟨Q,hQe⟩:∃ Q,Q=textS B most (a,y):=⟨_,rfl⟩
 have HQ:=hid (show Q=if x.2.2=0 then if most<x.1 then (ByteArray.empty,(a,(31:Int))) else if B.length - x.2.1<x.1 then (ByteArray.empty,(a,(30:Int))) else (strOf ((B.drop x.2.1).take x.1),(x.2.1+x.1,(0:Int))) else (ByteArray.empty,(a,x.2.2)) from by rw [hQe,hx];rfl)
 rw [<-hQe]
 rw [<-hx] at HNU hok hpos
 obtain⟨n,a1,y1⟩:=x
 have hq:=HQ.out
 have HQ0:=hid (show ¬ y1=0->Q=(ByteArray.empty,(a,y1)) from fun h1=>by rw [hq];show (if y1=0 then (if most<((n:Nat):Int) then (ByteArray.empty,((a,(31:Int)):S)) else if B.length - a1<n then (ByteArray.empty,(a,(30:Int))) else (strOf ((B.drop a1).take n),(a1+n,(0:Int)))) else (ByteArray.empty,(a,y1)))=_;rw [if_neg h1])
 have HQ1:=hid (show y1=0->most<(n:Int)->Q=(ByteArray.empty,(a,(31:Int))) from fun h1 h2=>by rw [hq];show (if y1=0 then (if most<((n:Nat):Int) then (ByteArray.empty,((a,(31:Int)):S)) else if B.length - a1<n then (ByteArray.empty,(a,(30:Int))) else (strOf ((B.drop a1).take n),(a1+n,(0:Int)))) else (ByteArray.empty,(a,y1)))=_;rw [if_pos h1,if_pos h2])
 have HQ2:=hid (show y1=0->¬ most<(n:Int)->B.length - a1<n->Q=(ByteArray.empty,(a,(30:Int))) from fun h1 h2 h3=>by rw [hq];show (if y1=0 then (if most<((n:Nat):Int) then (ByteArray.empty,((a,(31:Int)):S)) else if B.length - a1<n then (ByteArray.empty,(a,(30:Int))) else (strOf ((B.drop a1).take n),(a1+n,(0:Int)))) else (ByteArray.empty,(a,y1)))=_;rw [if_pos h1,if_neg h2,if_pos h3])
 have HQ3:=hid (show y1=0->¬ most<(n:Int)->¬ B.length - a1<n->Q=(strOf ((B.drop a1).take n),(a1+n,(0:Int))) from fun h1 h2 h3=>by rw [hq];show (if y1=0 then (if most<((n:Nat):Int) then (ByteArray.empty,((a,(31:Int)):S)) else if B.length - a1<n then (ByteArray.empty,(a,(30:Int))) else (strOf ((B.drop a1).take n),(a1+n,(0:Int)))) else (ByteArray.empty,(a,y1)))=_;rw [if_pos h1,if_neg h2,if_neg h3])
 clear hq HQ
 have c1:=h.c1
 have hsm:=h.small
 simp only [] at c1 hok hpos
 obtain⟨ha1,hn62,haa⟩:=hok
 have HPS:=hid hpos
 clear h hx hQe hpos
 go_enter Tryz.func34,Tryz.ntmps34
 go_wp2_with fail
 refine HNU.out.mono ?_
 rintro e w1 ⟨rfl,hr1,hg1⟩
 have HR1:=hid hr1
 have HG1:=hid hg1
 have d1:=hr1.c1
 have d2:=hr1.c2
 have g1:=hr1.f1
 simp only [] at d1 d2
 clear hr1 hg1 c1
 cases hy:((y1:Int) == 0)
 ·
  have hy':¬ y1=0:=by simpa using hy
  have HFA:=hid (HAT.out w1 (a1,y1) HR1.out)
  have HE:=hid (HQ0.out hy')
  clear hy'
  go_wp2_with fail
  go_ret
  exact⟨by first | (rw [HE.out];rfl) | rw [HE.out],by rw [HE.out];exact HFA.out,HG1.out.andThen (grown_cell' _ _ _ _) (fun j hj=>Or.inr hj)⟩
 ·
  have hy':y1=0:=by simpa using hy
  subst hy'
  cases hm:decide ((n:Int) > most)
  ·
   have hm':¬ most<(n:Int):=by simpa using hm
   go_wp2_with fail
   refine (HL.out (a1,0) w1 HR1.out).mono ?_
   rintro e w2 ⟨rfl,hb2⟩
   have HR2:=hid (HR1.out.below hb2)
   have HG2:=hid (show w.grownBy w2 (some r) from HG1.out.andThen (row':=none) ⟨hb2.os,hb2.tape,hb2.output,hb2.size,fun k hk _=>hb2.block k hk⟩ (fun j hj=>by cases hj))
   obtain⟨lf,hlf⟩:∃ l,l=B.length - a1:=⟨_,rfl⟩
   have e0:=HR2.out.c0
   have e1:=HR2.out.c1
   have e2:=HR2.out.c2
   have k1:=HR2.out.f1
   simp only [] at e1 e2
   have hlf2:((B.length - (a1,(0:Int)).1:Nat):Int)=(lf:Int):=by rw [hlf]
   rw [hlf2]
   clear hb2 d1 d2 g1 hlf2
   cases hgt:decide ((n:Int) > (lf:Int))
   ·
    have hgt':¬ lf<n:=by simp at hgt;omega
    have HE:=hid (HQ3.out (by first | rfl | trivial) hm' (by rw [hlf] at hgt';exact hgt'))
    have hpos:=HPS.out (by first | rfl | trivial)
    obtain⟨ao,cap,rfl,hcb,-⟩:=Lst.form HR2.out.row
    obtain⟨g,off,rfl,hgw,hgc⟩:∃ g off,ao=some ⟨g,off,none⟩/\g<w2.heap.size/\∀ j c,B[j]?=some c->w2.cell? ⟨g,off+j,none⟩=some (.int .u8 (c:Nat)):=by
     obtain⟨b,o,e,hb,hc⟩:=Lst.get HR2.out.row (i:=0) (by omega)
     subst e
     refine⟨b,o,rfl,hb,fun j c hj=>?_⟩
     obtain⟨b2,o2,e2,-,h2⟩:=byte_at HR2.out.row hj
     cases e2
     exact h2
    obtain⟨nb,hnb⟩:∃ k,k=B.length:=⟨_,rfl⟩
    have HNB:=hid hnb
    rw [<-hnb] at e0 hcb ha1 hlf hsm
    have hle:a1+n<=nb:=by omega
    have HS:=hid (show Rdr (w2.setCell ⟨r,1,none⟩ (.int .i64 ((a1:Int)+(n:Int)))) r _ B (a1+n,(0:Int)) from HR2.out.setAt (a1+n) (by rw [<-hnb];omega))
    have HGS:=hid (HG2.out.andThen (grown_cell' w2 r 1 (.int .i64 ((a1:Int)+(n:Int)))) (fun j hj=>Or.inr hj))
    obtain⟨W3,hW3⟩:∃ W,W=w2.setCell ⟨r,1,none⟩ (.int .i64 ((a1:Int)+(n:Int))):=⟨_,rfl⟩
    rw [<-hW3] at HS HGS
    clear hm' hlf
    have HX:=hid (show ∀ (W:World),Below W3.heap.size W3 W->W.cell? ⟨r,0,none⟩=some (.slice (some ⟨g,off,none⟩) nb cap)/\W.cell? ⟨r,1,none⟩=some (.int .i64 ((a1:Int)+(n:Int))) from fun W hb=>by
     have h:=(HS.out.below hb).c0
     rw [<-hnb] at h
     exact⟨h,(HS.out.below hb).c1⟩)
    have hrg:g≠r:=HR2.out.far (fun e=>by rw [e] at hnb;simp at hnb;omega) _ _ _ rfl
    have HL3:=hid (show ∀ (W:World),Below W3.heap.size W3 W->∀ j c,((B.drop a1).take n)[j]?=some c->W.cell? ⟨g,off+a1+j,none⟩=some (.int .u8 (c:Nat)) from fun W hb j c hj=>by
     have hj2:B[a1+j]?=some c:=by
      rw [List.getElem?_take] at hj
      split at hj
      . rw [List.getElem?_drop] at hj;exact hj
      . cases hj
     have h1:=hgc (a1+j) c hj2
     have h3:W3.cell? ⟨g,off+(a1+j),none⟩=some (.int .u8 (c:Nat)):=by rw [hW3,World.cell?_setCell_far w2 ⟨r,1,none⟩ ⟨g,off+(a1+j),none⟩ _ (fun e=>hrg e.symm)];exact h1
     have hg3:g<W3.heap.size:=by rw [hW3];simpa using hgw
     rw [Nat.add_assoc,World.cell?_of_block (a:=⟨g,off+(a1+j),none⟩) (hb.block g hg3)]
     exact h3)
    have HLN:=hid (show n=((B.drop a1).take n).length from by rw [List.length_take,List.length_drop];omega)
    obtain⟨L,hLL⟩:∃ L,L=(B.drop a1).take n:=⟨_,rfl⟩
    rw [<-hLL] at HE HL3 HLN
    clear hnb hLL hgc
    go_upto_region 4 with fail
    rw [<-hW3]
    clear hW3
    refine wp_region_told [] 16 [false,false,false,false,false,false,false,false,false,false,false,false,false,false,false,false,false,false,false,false,false,true,true,true,true,true,true,true,true,true,true,true,true,true,true,true,true,false,false,false,false,false,false,false,false,false,false,false,false,false,false,false,false,false,false,false,false,false,false,false]
     [sLit (.pointer (some ⟨r,0,none⟩)),
  sLit (.pointer (some ⟨r,0,none⟩)),
  sLit (.pointer (some ⟨r,0,none⟩)),
  sLit (.slice (some ⟨g,off,none⟩) nb cap),
  sLit (.pointer (some ⟨r,0,none⟩)),
  sLit (.pointer (some ⟨r,0,none⟩)),
  sLit (.pointer (some ⟨r,1,none⟩)),
  sLit (.int .i64 ((a1:Int)+(n:Int))),
  sLit (.int .i64 (n:Nat)),
  sLit (.int .i64 (a1:Nat)),
  sLit (.pointer (some ⟨r,0,none⟩)),
  sLit (.pointer (some ⟨r,0,none⟩)),
  sLit (.pointer (some ⟨r,1,none⟩)),
  sLit (.int .i64 ((a1:Int)+(n:Int))),
  sOne (fun v _=>∃ ad cc,v=.slice (some ad) n cc/\(n=0\/ad=⟨g,off+a1,none⟩)) (fun _ _ _ h _=>h),
  sLit (.string (strOf L))] (by kernel_rfl) (by kernel_rfl) (by kernel_rfl) (fun F hF=>?_)
    simp only [over,overL,Nat.reduceAdd] at hF
    obtain rfl:=funext hF
    clear hF
    refine⟨⟨?_,?_,?_,?_,?_,?_,?_,?_,?_,?_,?_,?_,?_,?_,?_,?_,trivial⟩,?_⟩
    ·
     intro V W hb hd K hK _
     clear hd
     go_wp2_with fail
     exact hK _ _ rfl br rfl trivial
    ·
     intro V W hb hd K hK _
     have h0:(V 21)=.pointer (some ⟨r,0,none⟩):=hd 0 (by kernel_rfl)
     clear hd
     go_wp2_with fail
     exact hK _ _ rfl br rfl trivial
    ·
     intro V W hb hd K hK _
     have h1:(V 22)=.pointer (some ⟨r,0,none⟩):=hd 1 (by kernel_rfl)
     clear hd
     go_wp2_with fail
     exact hK _ _ rfl br rfl trivial
    ·
     intro V W hb hd K hK _
     have h2:(V 23)=.pointer (some ⟨r,0,none⟩):=hd 2 (by kernel_rfl)
     clear hd
     obtain⟨s0,s1⟩:=HX.out W hb
     go_wp2_with fail
     exact hK _ _ rfl br rfl trivial
    ·
     intro V W hb hd K hK _
     clear hd
     go_wp2_with fail
     exact hK _ _ rfl br rfl trivial
    ·
     intro V W hb hd K hK _
     have h4:(V 25)=.pointer (some ⟨r,0,none⟩):=hd 4 (by kernel_rfl)
     clear hd
     go_wp2_with fail
     exact hK _ _ rfl br rfl trivial
    ·
     intro V W hb hd K hK _
     have h5:(V 26)=.pointer (some ⟨r,0,none⟩):=hd 5 (by kernel_rfl)
     clear hd
     go_wp2_with fail
     exact hK _ _ rfl br rfl trivial
    ·
     intro V W hb hd K hK _
     have h6:(V 27)=.pointer (some ⟨r,1,none⟩):=hd 6 (by kernel_rfl)
     clear hd
     obtain⟨s0,s1⟩:=HX.out W hb
     go_wp2_with fail
     exact hK _ _ rfl br rfl trivial
    ·
     intro V W hb hd K hK _
     clear hd
     go_wp2_with fail
     exact hK _ _ rfl br rfl trivial
    ·
     intro V W hb hd K hK _
     have h7:(V 28)=.int .i64 ((a1:Int)+(n:Int)):=hd 7 (by kernel_rfl)
     have h8:(V 29)=.int .i64 (n:Nat):=hd 8 (by kernel_rfl)
     clear hd
     go_wp2_with fail
     refine hK _ _ ?_ ?_ ?_ ?_
     . rfl
     . exact Below.refl _ _
     . first | rfl | simp
     . trivial
    ·
     intro V W hb hd K hK _
     clear hd
     go_wp2_with fail
     exact hK _ _ rfl br rfl trivial
    ·
     intro V W hb hd K hK _
     have h10:(V 31)=.pointer (some ⟨r,0,none⟩):=hd 10 (by kernel_rfl)
     clear hd
     go_wp2_with fail
     exact hK _ _ rfl br rfl trivial
    ·
     intro V W hb hd K hK _
     have h11:(V 32)=.pointer (some ⟨r,0,none⟩):=hd 11 (by kernel_rfl)
     clear hd
     go_wp2_with fail
     exact hK _ _ rfl br rfl trivial
    ·
     intro V W hb hd K hK _
     have h12:(V 33)=.pointer (some ⟨r,1,none⟩):=hd 12 (by kernel_rfl)
     clear hd
     obtain⟨s0,s1⟩:=HX.out W hb
     go_wp2_with fail
     exact hK _ _ rfl br rfl trivial
    ·
     intro V W hb hd K hK _
     have h3:(V 24)=.slice (some ⟨g,off,none⟩) nb cap:=hd 3 (by kernel_rfl)
     have h9:(V 30)=.int .i64 (a1:Nat):=hd 9 (by kernel_rfl)
     have h13:(V 34)=.int .i64 ((a1:Int)+(n:Int)):=hd 13 (by kernel_rfl)
     clear hd
     go_wp2_with fail
     all_goals
      refine hK _ _ ?_ ?_ ?_ ?_
      . rfl
      . exact Below.refl _ _
      . exact⟨_,_,rfl,by first | exact Or.inr rfl | (left;omega)⟩
      . trivial
    ·
     intro V W hb hd K hK _
     have h14:∃ ad cc,(V 35)=.slice (some ad) n cc/\(n=0\/ad=⟨g,off+a1,none⟩):=hd 14 (by kernel_rfl)
     clear hd
     obtain⟨ad,cc,e14,had⟩:=h14
     have hcv:=conv_bytes W ad L n cc HLN.out (fun j c hj=>by
      rcases had with h0 | h0
      . have h1:=HLN.out;rw [h0] at h1;rw [List.eq_nil_of_length_eq_zero h1.symm] at hj;simp at hj
      . rw [h0,addr_add];exact HL3.out W hb j c hj)
     clear had
     go_wp2_with fail
     exact hK _ _ rfl br rfl trivial
    ·
     intro V W hb hd hap
     have h15:(V 36)=.string (strOf L):=hd 15 (by decide)
     clear hd hap
     simp only [List.drop_succ_cons,List.drop_zero]
     have HB4:=hid hb
     have HRZ:=hid (HS.out.below hb)
     have HGZ:=hid (show w.grownBy W (some r) from HGS.out.andThen (row':=none) ⟨hb.os,hb.tape,hb.output,hb.size,fun k hk _=>hb.block k hk⟩ (fun j hj=>by cases hj))
     clear hb
     go_wp2_with fail
     go_ret
     exact⟨by first | (rw [HE.out];rfl) | rw [HE.out],by rw [HE.out];exact HRZ.out,HGZ.out⟩
   ·
    have hgt':lf<n:=by simp at hgt;omega
    have HE:=hid (HQ2.out (by first | rfl | trivial) hm' (by rw [hlf] at hgt';exact hgt'))
    have HFA:=hid (HF.out (a1,0) 30 w2 HR2.out)
    clear hm' e0 e1 e2 k1 hlf
    go_wp2_with fail
    refine HFA.out.mono ?_
    rintro e w3 ⟨rfl,hr3,hg3⟩
    have HR3:=hid (show Rdr w3 r v B (a1,(30:Int)) from hr3)
    have HG3:=hid (HG2.out.andThen hg3 (fun j hj=>Or.inr hj))
    have e2:=HR3.out.c2
    have e1:=HR3.out.c1
    have k1:=HR3.out.f1
    simp only [] at e1 e2
    have HFB:=hid (HAT.out w3 (a1,30) HR3.out)
    clear hr3 hg3
    go_wp2_with fail
    go_ret
    exact⟨by first | (rw [HE.out];rfl) | rw [HE.out],by rw [HE.out];exact HFB.out,HG3.out.andThen (grown_cell' _ _ _ _) (fun j hj=>Or.inr hj)⟩
  ·
   have hm':most<(n:Int):=by simpa using hm
   have HE:=hid (HQ1.out (by first | rfl | trivial) hm')
   have HFA:=hid (HF.out (a1,0) 31 w1 HR1.out)
   clear hm'
   go_wp2_with fail
   refine HFA.out.mono ?_
   rintro e w2 ⟨rfl,hr2,hg2⟩
   have HR2:=hid (show Rdr w2 r v B (a1,(31:Int)) from hr2)
   have HG2:=hid (HG1.out.andThen hg2 (fun j hj=>Or.inr hj))
   have e2:=HR2.out.c2
   have e1:=HR2.out.c1
   have k1:=HR2.out.f1
   simp only [] at e1 e2
   have HFB:=hid (HAT.out w2 (a1,31) HR2.out)
   clear hr2 hg2 d1 d2 g1
   go_wp2_with fail
   go_ret
   exact⟨by first | (rw [HE.out];rfl) | rw [HE.out],by rw [HE.out];exact HFB.out,HG2.out.andThen (grown_cell' _ _ _ _) (fun j hj=>Or.inr hj)⟩
end Go.Proofs.YtpeoonnglnchnaaGreatDoor.Rd
namespace Go.Proofs.YtpeoonnglnchnaaGreatDoor.Rd
open Go.Lib (hid)
open RowKit Mrk
def getS (B:List Nat) (s:S):(Nat × Nat × Nat) × S:=(((numS B s).1,(numS B (numS B s).2).1,(numS B (numS B (numS B s).2).2).1),(numS B (numS B (numS B s).2).2).2)
theorem below_grown {w w':World} {row:Option Nat} (h:Below w.heap.size w w'):w.grownBy w' row:=⟨h.os,h.tape,h.output,h.size,fun k hk _=>h.block k hk⟩
theorem Rdr.vlow {w:World} {r:Nat} {v:Value} {B:List Nat} {s:S} (h:Rdr w r v B s) (hB:B≠[]):∀ ad n c,v=.slice (some ad) n c->ad.block<w.heap.size:=fun ad n c e=>by
 obtain⟨ao,cap,e1,-,-,h3⟩:=h.row
 rcases h3 with h3 | ⟨g,off,e2,hg,-⟩
 . exact absurd (List.eq_nil_of_length_eq_zero h3) hB
 ·
  subst e2
  rw [e1] at e
  cases e
  exact hg
theorem lst_beside {α:Type} {sz:Nat} {en:α->List Value} {w w':World} {v:Value} {l:List α} {k:Nat} (h:Lst sz en w v l) (hg:w.grownBy w' (some k)) (hf:l≠[]->∀ ad n c,v=.slice (some ad) n c->ad.block≠k):Lst sz en w' v l:=by
 obtain⟨ao,cap,e1,h1,h2,h3⟩:=h
 by_cases hl:l=[]
 . exact⟨ao,cap,e1,h1,h2,Or.inl (by rw [hl];rfl)⟩
 refine⟨ao,cap,e1,h1,h2,h3.imp id ?_⟩
 rintro⟨g,off,e2,hb,hc⟩
 subst e2
 have hne:=hf hl ⟨g,off,none⟩ _ _ e1
 have hbl:=hg.block g hb (fun e=>hne (by simpa using e))
 exact⟨g,off,rfl,Nat.lt_of_lt_of_le hb hg.size,fun i x hi j hj=>(World.cell?_of_block (a:=⟨g,off+i*sz+j,none⟩) hbl).trans (hc i x hi j hj)⟩
theorem Rdr.apart {w w':World} {r k:Nat} {v:Value} {B:List Nat} {s:S} (h:Rdr w r v B s) (hg:w.grownBy w' (some k)) (hk:r≠k) (hv:B≠[]->∀ ad n c,v=.slice (some ad) n c->ad.block≠k):Rdr w' r v B s:=by
 have hb:=hg.block r h.lt (fun e=>hk (by simpa using e))
 exact⟨Nat.lt_of_lt_of_le h.lt hg.size,(World.cell?_of_block (a:=⟨r,0,none⟩) hb).trans h.c0,(World.cell?_of_block (a:=⟨r,1,none⟩) hb).trans h.c1,(World.cell?_of_block (a:=⟨r,2,none⟩) hb).trans h.c2,(World.frozen?_of_block hb).trans h.f0,(World.frozen?_of_block hb).trans h.f1,(World.frozen?_of_block hb).trans h.f2,lst_beside h.row hg hv,h.far,h.at_,h.small⟩
theorem get_any (r:Nat) (v:Value) (B:List Nat) (s:S) (w:World) (h:Rdr w r v B s) (hB:∀ c∈B,c<256) :
  Calls Tryz.prog 168 #[pR r] w (RdP r v B (getS B s).2 (.agg #[.int .i64 ((getS B s).1.1:Nat),.int .i64 ((getS B s).1.2.1:Nat),.int .i64 ((getS B s).1.2.2:Nat)]) w):=by
 have HNU:=hid (fun (s:S) (w1:World) (h:Rdr w1 r v B s)=>num_any r v B s w1 h hB)
 obtain⟨s1,hs1⟩:∃ x,x=numS B s:=⟨_,rfl⟩
 obtain⟨s2,hs2⟩:∃ x,x=numS B s1.2:=⟨_,rfl⟩
 obtain⟨s3,hs3⟩:∃ x,x=numS B s2.2:=⟨_,rfl⟩
 have HQ:=hid (show getS B s=((s1.1,s2.1,s3.1),s3.2) from by unfold getS;rw [hs3,hs2,hs1])
 rw [HQ.out]
 obtain⟨W,hW⟩:∃ W,W=w.alloc (.cells #[.int .i64 0,.int .i64 0,.int .i64 0] 39):=⟨_,rfl⟩
 obtain⟨k,hk⟩:∃ k,k=w.heap.size:=⟨_,rfl⟩
 have hbW:Below w.heap.size w W:=by rw [hW];exact br.alloc lr _
 have hm:W.heap[k]?=some (.cells #[.int .i64 0,.int .i64 0,.int .i64 0] 39 (0,0)):=by rw [hW,hk];exact heap_alloc_new w _
 have hrk:r<k:=by rw [hk];exact h.lt
 have HVL:=hid (show B≠[]->∀ ad n c,v=.slice (some ad) n c->ad.block≠k from fun hb ad n c e=>by rw [hk];exact Nat.ne_of_lt (h.vlow hb ad n c e))
 have HR0:=hid (h.below hbW)
 have HN1:=hid (show ∀ w1,Rdr w1 r v B s->Calls Tryz.prog 69 #[pR r] w1 (RdP r v B s1.2 (.int .i64 (s1.1:Nat)) w1) from fun w1 h=>by rw [hs1];exact HNU.out s w1 h)
 have HN2:=hid (show ∀ w1,Rdr w1 r v B s1.2->Calls Tryz.prog 69 #[pR r] w1 (RdP r v B s2.2 (.int .i64 (s2.1:Nat)) w1) from fun w1 h=>by rw [hs2];exact HNU.out s1.2 w1 h)
 have HN3:=hid (show ∀ w1,Rdr w1 r v B s2.2->Calls Tryz.prog 69 #[pR r] w1 (RdP r v B s3.2 (.int .i64 (s3.1:Nat)) w1) from fun w1 h=>by rw [hs3];exact HNU.out s2.2 w1 h)
 have HW:=hid hW
 have HK:=hid hk
 have HM:=hid hm
 have HBW:=hid hbW
 have hkW:k<W.heap.size:=(ag0.1 hm).1
 clear h hs1 hs2 hs3 hW hk hm hbW
 obtain⟨x1,t1⟩:=s1
 obtain⟨x2,t2⟩:=s2
 obtain⟨x3,t3⟩:=s3
 simp only [] at HN1 HN2 HN3 ⊢
 go_enter Tryz.func168,Tryz.ntmps168
 go_upto_region 1 with fail
 rw [<-HW.out,<-HK.out]
 go_wp2_with fail
 refine (HN1.out W HR0.out).mono ?_
 rintro e w1 ⟨rfl,hr1,hg1⟩
 have HR1:=hid hr1
 have HG1:=hid hg1
 clear hr1 hg1
 go_wp2_with fail
 refine (HN2.out w1 HR1.out).mono ?_
 rintro e w2 ⟨rfl,hr2,hg2⟩
 have HR2:=hid hr2
 have HG2:=hid (HG1.out.andThen hg2 (fun j hj=>Or.inr hj))
 clear hr2 hg2
 go_wp2_with fail
 refine (HN3.out w2 HR2.out).mono ?_
 rintro e w3 ⟨rfl,hr3,hg3⟩
 have HR3:=hid hr3
 have HG3:=hid (HG2.out.andThen hg3 (fun j hj=>Or.inr hj))
 clear hr3 hg3
 have hb3:w3.heap[k]?=some (.cells #[.int .i64 0,.int .i64 0,.int .i64 0] 39 (0,0)):=(HG3.out.block k hkW (fun e=>Nat.ne_of_gt hrk (by simpa using e))).trans HM.out
 have a0:w3.cell? ⟨k,0,none⟩=some (.int .i64 0):=by rw [cell_of_row w3 k 0 _ _ (0,0) hb3];rfl
 have a1:w3.cell? ⟨k,1,none⟩=some (.int .i64 0):=by rw [cell_of_row w3 k 1 _ _ (0,0) hb3];rfl
 have a2:w3.cell? ⟨k,2,none⟩=some (.int .i64 0):=by rw [cell_of_row w3 k 2 _ _ (0,0) hb3];rfl
 have f0:w3.frozen? ⟨k,0,none⟩=false:=frozen_of_row w3 k 0 _ _ hb3
 have f1:w3.frozen? ⟨k,1,none⟩=false:=frozen_of_row w3 k 1 _ _ hb3
 have f2:w3.frozen? ⟨k,2,none⟩=false:=frozen_of_row w3 k 2 _ _ hb3
 have hk3:k<w3.heap.size:=(ag0.1 hb3).1
 obtain⟨W4,hW4⟩:∃ W4,W4=((w3.setCell ⟨k,0,none⟩ (.int .i64 (x1:Nat))).setCell ⟨k,1,none⟩ (.int .i64 (x2:Nat))).setCell ⟨k,2,none⟩ (.int .i64 (x3:Nat)):=⟨_,rfl⟩
 have hg4:w3.grownBy W4 (some k):=by
  rw [hW4]
  exact ((grown_cell' w3 k 0 _).andThen (grown_cell' _ k 1 _) (fun j hj=>Or.inr hj)).andThen (grown_cell' _ k 2 _) (fun j hj=>Or.inr hj)
 have HR4:=hid (show Rdr W4 r v B t3 from HR3.out.apart hg4 (by omega) HVL.out)
 have HG4:=hid (show w.grownBy W4 (some r) from ((below_grown (row:=some r) HBW.out).andThen HG3.out (fun j hj=>Or.inr hj)).andThen hg4 (fun j hj=>Or.inl (by cases hj;rw [HK.out];exact Nat.le_refl _)))
 have u0:W4.cell? ⟨k,0,none⟩=some (.int .i64 (x1:Nat)):=by rw [hW4];go_simp
 have u1:W4.cell? ⟨k,1,none⟩=some (.int .i64 (x2:Nat)):=by rw [hW4];go_simp
 have u2:W4.cell? ⟨k,2,none⟩=some (.int .i64 (x3:Nat)):=by rw [hW4];go_simp
 clear hb3 hg4
 go_wp2_with fail
 rw [<-hW4]
 refine bodyPost_ret (v:=.agg #[.int .i64 (x1:Nat),.int .i64 (x2:Nat),.int .i64 (x3:Nat)]) (by simp [results,Tryz.f168,go_sem,u0,u1,u2]) rfl ⟨rfl,HR4.out,HG4.out⟩
end Go.Proofs.YtpeoonnglnchnaaGreatDoor.Rd
namespace Go.Proofs.YtpeoonnglnchnaaGreatDoor.Rd
open Go Mrk Mut
def stOf (t:Nat × Nat × Nat):Stp:=⟨t.1,t.2.1,t.2.2⟩
def oversS (B:List Nat):Nat->S->List Stp × S
 | 0,s=>([],s)
 | n+1,s=>(stOf (getS B s).1::(oversS B n (getS B s).2).1,(oversS B n (getS B s).2).2)
theorem oversS_snoc (B:List Nat):∀ (n:Nat) (s:S),oversS B (n+1) s=((oversS B n s).1++[stOf (getS B (oversS B n s).2).1],(getS B (oversS B n s).2).2)
 | 0,s=>rfl
 | n+1,s=>by
  have h:=oversS_snoc B n (getS B s).2
  rw [oversS,h]
  rfl
def muZ:Mu:=⟨0,0,ByteArray.empty,ByteArray.empty,ByteArray.empty,0,⟨0,0,0⟩,[]⟩
def rawS (B:List Nat) (key:ByteArray) (s:S):Mu × S:=
 let a:=numS B s
 let b:=numS B a.2
 let c:=textS B 24 b.2
 let d:=textS B 64 c.2
 let e:=numS B d.2
 let f:=getS B e.2
 let g:=countS B 24 f.2
 let o:=oversS B g.1 g.2
 (⟨a.1,b.1,key,c.1,d.1,e.1,stOf f.1,o.1⟩,o.2)
def withS (B:List Nat) (key:ByteArray) (s:S):Mu × S:=
 let m:=rawS B key s
 let z:S:=if m.2.2=0/\rightF m.1=false then (m.2.1,70) else m.2
 if z.2=0 then (m.1,z) else (muZ,z)
def getM (B:List Nat) (s:S):Mu × S:=withS B (textS B 24 s).1 (textS B 24 s).2
def listG (B:List Nat):Nat->S->Option (List Mu) × S
 | 0,s=>(some [],s)
 | n+1,s=>if s.2=0 then ((listG B n (getM B s).2).1.map ((getM B s).1::·),(listG B n (getM B s).2).2) else (none,s)
def listS (B:List Nat) (most:Int) (s:S):List Mu × S:=
 let g:=countS B most s
 let o:=listG B g.1 g.2
 if o.2.2=0 then (o.1.getD [],o.2) else ([],o.2)
