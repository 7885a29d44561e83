/- PkTabRefMay. -/
import Derived.Test.YtpeoonnglnchnaaGreatDoorPkTabRefRows
set_option linter.unusedSectionVars false
set_option linter.unusedSimpArgs false
set_option linter.unusedVariables false
set_option maxHeartbeats 16000000
set_option maxRecDepth 100000
namespace Go.Proofs.YtpeoonnglnchnaaGreatDoor.Mut
open RowKit Mrk YtpeoonnglnchnaaGreatDoor.Spare
structure BitRow (w:World) (g N:Nat) (F:Nat->Bool):Prop where
 lt:g<w.heap.size
 cell:∀ j,j<N->w.cell? ⟨g,j,none⟩=some (.bool (F j))
theorem BitRow.below {w w':World} {g L:Nat} {F:Nat->Bool} (h:BitRow w g L F) (hb:Below w.heap.size w w'):BitRow w' g L F:=
 ⟨Nat.lt_of_lt_of_le h.lt hb.size,fun j hj=>(hb.cell (p:=⟨g,j,none⟩) h.lt).trans (h.cell j hj)⟩
def cutF (F:Nat->Bool) (i:Nat):Nat->Bool:=fun k=>decide (k<i) && F k
theorem byte8_add:∀ a b c d e f g h:Bool,byte8 true false false false false false false false=byte8 false false false false false false false false+1/\byte8 a true false false false false false false=byte8 a false false false false false false false+2/\byte8 a b true false false false false false=byte8 a b false false false false false false+4/\byte8 a b c true false false false false=byte8 a b c false false false false false+8/\byte8 a b c d true false false false=byte8 a b c d false false false false+16/\byte8 a b c d e true false false=byte8 a b c d e false false false+32/\byte8 a b c d e f true false=byte8 a b c d e f false false+64/\byte8 a b c d e f g true=byte8 a b c d e f g false+128:=by decide
theorem cut_none (F:Nat->Bool) (i:Nat) (h:F i=false):cutF F (i+1)=cutF F i:=by
 funext k
 unfold cutF
 by_cases e:k=i
 . subst e;rw [h];simp
 ·
  have:(decide (k<i+1))=decide (k<i):=by
   by_cases h2:k<i
   . rw [dt0 h2,dt0 (by omega)]
   . rw [df0 h2,df0 (by omega)]
  rw [this]
theorem cut_other (F:Nat->Bool) (q r j:Nat) (hr:r<8) (hj:j≠q):byteF (cutF F (8*q+r+1)) j=byteF (cutF F (8*q+r)) j:=by
 have h:∀ k,k<8->cutF F (8*q+r+1) (8*j+k)=cutF F (8*q+r) (8*j+k):=fun k hk=>by
  unfold cutF
  have e:decide (8*j+k<8*q+r+1)=decide (8*j+k<8*q+r):=by
   by_cases h2:8*j+k<8*q+r
   . rw [dt0 h2,dt0 (by omega)]
   . rw [df0 h2,df0 (by omega)]
  rw [e]
 unfold byteF
 have h0:cutF F (8*q+r+1) (8*j)=cutF F (8*q+r) (8*j):=h 0 (by decide)
 rw [h0,h 1 (by decide),h 2 (by decide),h 3 (by decide),h 4 (by decide),h 5 (by decide),h 6 (by decide),h 7 (by decide)]
theorem cut_add (F:Nat->Bool) (q r:Nat) (hr:r<8) (hf:F (8*q+r)=true):byteF (cutF F (8*q+r+1)) q=byteF (cutF F (8*q+r)) q+2 ^ r:=by
 obtain⟨h0,h1,h2,h3,h4,h5,h6,h7⟩:=byte8_add (F (8*q)) (F (8*q+1)) (F (8*q+2)) (F (8*q+3)) (F (8*q+4)) (F (8*q+5)) (F (8*q+6)) (F (8*q+7))
 have e:∀ a b,decide (8*q+a<8*q+b)=decide (a<b):=fun a b=>by
  by_cases h:a<b
  . rw [dt0 h,dt0 (by omega)]
  . rw [df0 h,df0 (by omega)]
 have e0:∀ b,decide (8*q<8*q+b)=decide (0<b):=fun b=>e 0 b
 have key:∀ b k,cutF F (8*q+b) (8*q+k)=(decide (k<b) && F (8*q+k)):=fun b k=>by unfold cutF;rw [e]
 have key0:∀ b,cutF F (8*q+b) (8*q)=(decide (0<b) && F (8*q)):=fun b=>by unfold cutF;rw [e0]
 unfold byteF
 rw [show 8*q+r+1=8*q+(r+1) by omega]
 simp only [key,key0]
 rcases r with _ | _ | _ | _ | _ | _ | _ | _ | r
 . rw [Nat.add_zero] at hf;rw [hf];simpa using h0
 . rw [hf];simpa using h1
 . rw [hf];simpa using h2
 . rw [hf];simpa using h3
 . rw [hf];simpa using h4
 . rw [hf];simpa using h5
 . rw [hf];simpa using h6
 . rw [hf];simpa using h7
 . omega
theorem cut_all (F:Nat->Bool) (N j:Nat) (hj:8*j+8<=N):byteF (cutF F N) j=byteF F j:=by
 have h:∀ k,k<8->cutF F N (8*j+k)=F (8*j+k):=fun k hk=>by
  unfold cutF
  rw [dt0 (by omega),Bool.true_and]
 unfold byteF
 have h0:=h 0 (by decide)
 rw [Nat.add_zero] at h0
 rw [h0,h 1 (by decide),h 2 (by decide),h 3 (by decide),h 4 (by decide),h 5 (by decide),h 6 (by decide),h 7 (by decide)]
theorem cut_zero (F:Nat->Bool) (j:Nat):byteF (cutF F 0) j=0:=by
 unfold byteF cutF
 simp [byte8]
end Go.Proofs.YtpeoonnglnchnaaGreatDoor.Mut
namespace Go.Proofs.YtpeoonnglnchnaaGreatDoor.Mut
open Go.Lib (hid)
open RowKit Mrk YtpeoonnglnchnaaGreatDoor.Spare
structure BtAt (w wr:World) (L:Nat) (F:Nat->Bool):Prop where
 below:Below w.heap.size w wr
 row:wr.rowIs w.heap.size 5 L (fun j=>.int .u8 (byteF F j:Nat))
 wor:∀ r,r<8->wr.cell? ⟨w.heap.size+1,r,none⟩=some (.int .u8 (2 ^ r:Nat))
 size:w.heap.size+1<wr.heap.size
theorem BtAt.after {w wr w':World} {L:Nat} {F:Nat->Bool} (h:BtAt w wr L F) (hb:Below wr.heap.size wr w'):BtAt w w' L F:=
 ⟨below_then h.below lr hb,h.row.of_block (hb.block _ h.row.lt),fun r hr=>(hb.cell (p:=⟨w.heap.size+1,r,none⟩) h.size).trans (h.wor r hr),Nat.lt_of_lt_of_le h.size hb.size⟩
theorem refbytes_any [Inhabited Lim] (g L bc:Nat) (F:Nat->Bool) (w:World) (hr:BitRow w g (8*L) F) (hL0:0<L) (hL1:L<=65536) :
  Calls Tryz.prog 63 #[.slice (some ⟨g,0,none⟩) (8*L) bc] w fun e w'=>∃ g',e=.returned (.slice (some ⟨g',0,none⟩) L L)/\w.heap.size<=g'/\w'.rowIs g' 5 L (fun j=>.int .u8 (byteF F j:Nat))/\Below w.heap.size w w':=by
 obtain⟨N,hN⟩:∃ N,N=8*L:=⟨_,rfl⟩
 rw [<-hN] at hr ⊢
 have hd:(N:Int) / 8=(L:Int):=by omega
 have hmk:∀ w:World,(Instr.makeSlice 31 (.int .i64 L) (.int .i64 L)).run Tryz.prog w=.ok (.slice (some ⟨w.heap.size,0,none⟩) L L) (w.alloc (.cells (madeCells #[.int .u8 0] L) 5)):=fun w=>
  run_make_row' (P:=Tryz.prog) 31 5 (.int .u8 0) 1 Tryz.underlying31 (by kernel_rfl) rfl .i64 .i64 L (by omega) (by omega) w
 have HR:=hid hr
 have HN:=hid hN
 have hN1:N<=524288:=by omega
 clear hr hN
 go_enter Tryz.func63,Tryz.ntmps63
 go_wp2_with fail
 clear hmk hd
 have HST:=hid (show BtAt w ((w.alloc (.cells (madeCells #[.int .u8 0] L) 5)).alloc (.cells #[.int .u8 1,.int .u8 2,.int .u8 4,.int .u8 8,.int .u8 16,.int .u8 32,.int .u8 64,.int .u8 128] 126)) L (cutF F 0) from
  ⟨((Below.refl _ w).alloc lr _).alloc (by simp) _,World.rowIs.congr ((World.rowIs_made w (.int .u8 0) L 5).alloc _) (fun j _=>by rw [cut_zero];rfl),fun r hr=>by
   rcases r with _ | _ | _ | _ | _ | _ | _ | _ | r
   . go_simp
   . go_simp
   . go_simp
   . go_simp
   . go_simp
   . go_simp
   . go_simp
   . go_simp
   . omega,by simp⟩)
 go_loopw [5] (fun iv wr=>∃ k:Nat,k<=N/\iv=.int .i64 k/\Hid (BtAt w wr L (cutF F k))) (fun iv _=>N - (intOf iv).toNat)
 case atStart=>exact⟨0,by omega,rfl,HST⟩
 case round=>
  obtain⟨k,hk,rfl,hst⟩:=hrel
  by_cases hlt:k<N
  ·
   have j0:(0:Int)<=(k:Int):=by omega
   have j1:(k:Int)<(N:Int):=by omega
   have cf:=(HR.out.below hst.out.below).cell k hlt
   cases hf:F k
   ·
    rw [hf] at cf
    have HK:=hid (show BtAt w wr L (cutF F (k+1)) from by rw [cut_none F k hf];exact hst.out)
    clear hf
    go_wp2_with fail
    go_roundw
    case rel=>exact⟨k+1,by omega,by go_num,HK⟩
    case measure=>simp [intOf];omega
   ·
    rw [hf] at cf
    obtain⟨q,r,hr,hpq⟩:∃ q r,r<8/\k=8*q+r:=⟨k / 8,k % 8,by omega,by omega⟩
    have hq:q<L:=by have:=HN.out;omega
    have e1:(k:Int) / 8=(q:Int):=by omega
    have e2:(k:Int) % 8=(r:Int):=by omega
    obtain⟨B,hB⟩:∃ B,B=byteF (cutF F k) q:=⟨_,rfl⟩
    obtain⟨W,hW⟩:∃ W,W=2 ^ r:=⟨_,rfl⟩
    have hadd:byteF (cutF F (k+1)) q=B+W:=by rw [hB,hW,hpq];exact cut_add F q r hr (by rw [<-hpq];exact hf)
    have hBW:B+W<256:=by rw [<-hadd];exact byteF_lt _ _
    have cb:wr.cell? ⟨w.heap.size,q,none⟩=some (.int .u8 (B:Nat)):=by rw [hB];exact World.rowIs.cell hst.out.row hq
    have cw:wr.cell? ⟨w.heap.size+1,r,none⟩=some (.int .u8 (W:Nat)):=by rw [hW];exact hst.out.wor r hr
    have h3:=hst.out.size
    have h3':w.heap.size<wr.heap.size:=by omega
    have j2:(0:Int)<=(q:Int):=by omega
    have j3:(q:Int)<(L:Int):=by omega
    have j4:(0:Int)<=(r:Int):=by omega
    have j5:(r:Int)<8:=by omega
    have HAD:=hid hadd
    have HPQ:=hid hpq
    clear hf hadd hpq hB hW
    go_upto_region 7 with fail
    refine wp_region_calm_tail 11 (by kernel_rfl) (by kernel_rfl) ?_
    simp only [List.take_succ_cons,List.take_zero,List.drop_succ_cons,List.drop_zero]
    repeat (go_big_quiet_step (fail))
    refine wpQuiet_nil ?_
    rintro _ ⟨z,rfl⟩
    obtain⟨w2,hw2⟩:∃ w2,w2=z.at:=⟨_,rfl⟩
    have hz:=z.below
    rw [<-hw2] at hz ⊢
    have HS2:=hid (hst.out.after hz)
    clear hw2 z hz cb cw
    have cb:=World.rowIs.cell HS2.out.row hq
    have fb:=World.rowIs.frozen HS2.out.row q
    have HNEW:=hid (show BtAt w (w2.setCell ⟨w.heap.size,q,none⟩ (.int .u8 ((B:Int)+(W:Int)))) L (cutF F (k+1)) from by
     have hs2:=HS2.out
     refine⟨hs2.below.setCell lr _,?_,fun r hr=>?_,by simpa using hs2.size⟩
     ·
      refine World.rowIs.congr (World.rowIs.set hs2.row q _) (fun j hj=>?_)
      by_cases e:j=q
      ·
       subst e
       rw [if_pos rfl,HAD.out];rfl
      . rw [if_neg e,HPQ.out,cut_other F q _ j (by omega) e]
     ·
      have:=hs2.wor r hr
      go_simp)
    go_wp2_with fail
    go_roundw
    case rel=>exact⟨k+1,by omega,by go_num,HNEW⟩
    case measure=>simp [intOf];omega
  ·
   obtain rfl:k=N:=by omega
   have HF:=hid (show BtAt w wr L F from by
    have h:=hst.out
    exact⟨h.below,World.rowIs.congr h.row (fun j hj=>by rw [cut_all F k j (by have:=HN.out;omega)]),h.wor,h.size⟩)
   clear hst
   go_wp2_with fail
   go_ret
   exact⟨_,rfl,Nat.le_refl _,HF.out.row,HF.out.below⟩
end Go.Proofs.YtpeoonnglnchnaaGreatDoor.Mut
namespace Go.Proofs.YtpeoonnglnchnaaGreatDoor.Rd
open Go.Lib (hid)
open RowKit YtpeoonnglnchnaaGreatDoor.Spare Mrk RegInv
theorem taken_any (r:Nat) (v:Value) (B:List Nat) (s:S) (fr:Nat) (w:World) (h:Rdr w r v B s) (hf:fr<=s.1) (h0:0<s.1) :
  Calls Tryz.prog 74 #[pR r,.int .i64 (fr:Nat)] w fun e w'=>∃ v',e=.returned v'/\OwnB w' w.heap.size v' ((B.drop fr).take (s.1 - fr))/\Below w.heap.size w w':=by
 have hat:=h.at_
 have hsm:=h.small
 obtain⟨ao,cap,rfl,hcb,-⟩:=Lst.form h.row
 obtain⟨g,off,rfl,hgw,hgc⟩:∃ g off,ao=some ⟨g,off,none⟩/\g<w.heap.size/\∀ j c,B[j]?=some c->w.cell? ⟨g,off+j,none⟩=some (.int .u8 (c:Nat)):=by
  obtain⟨b,o,e,hb,hc⟩:=Lst.get h.row (i:=0) (by omega)
  subst e
  refine⟨b,o,rfl,hb,fun j c hj=>?_⟩
  obtain⟨b2,o2,e2,-,h2⟩:=byte_at h.row hj
  cases e2
  exact h2
 obtain⟨i0,hi,hz0,hz1,hz2⟩:=info_parts_B
 have HI:=hid (And.intro hi (And.intro hz0 (And.intro hz1 hz2)))
 clear hi hz0 hz1 hz2
 obtain⟨a,y⟩:=s
 obtain⟨nb,hnb⟩:∃ k,k=B.length:=⟨_,rfl⟩
 obtain⟨n,hn⟩:∃ n,n=a - fr:=⟨_,rfl⟩
 obtain⟨L,hL⟩:∃ L,L=(B.drop fr).take (a - fr):=⟨_,rfl⟩
 have HLN:=hid (show L.length=n from by rw [hL,hn,List.length_take,List.length_drop];simp only [] at hat hf;omega)
 have HL3:=hid (show ∀ (W:World),Below w.heap.size w W->∀ (j:Nat) (u:Value),(L.flatMap enB)[j]?=some u->W.cell? ((⟨g,off+fr,none⟩:Addr).add j)=some u from fun W hb j u hu=>by
  rw [flat_enB,List.getElem?_map] at hu
  obtain⟨c,hc,rfl⟩:=Option.map_eq_some_iff.1 hu
  rw [hL,List.getElem?_take] at hc
  split at hc
  ·
   rw [List.getElem?_drop] at hc
   have h1:=hgc (fr+j) c hc
   rw [addr_add,Nat.add_assoc,World.cell?_of_block (a:=⟨g,off+(fr+j),none⟩) (hb.block g hgw)]
   exact h1
  . cases hc)
 simp only [] at hf h0 hat
 show Calls _ _ _ w fun e w'=>∃ v',e=.returned v'/\OwnB w' w.heap.size v' ((B.drop fr).take (a - fr))/\Below w.heap.size w w'
 rw [<-hL]
 have c0:=h.c0
 have c1:=h.c1
 simp only [] at c1
 rw [<-hnb] at c0 hcb hat hsm
 have HX:=hid (show ∀ (W:World),Below w.heap.size w W->W.cell? ⟨r,0,none⟩=some (.slice (some ⟨g,off,none⟩) nb cap)/\W.cell? ⟨r,1,none⟩=some (.int .i64 (a:Nat)) from fun W hb=>by
  have h2:=(h.below hb).c0
  rw [<-hnb] at h2
  exact⟨h2,(h.below hb).c1⟩)
 have h1:(0:Int)<=(fr:Int):=by omega
 have h2:¬ ((fr:Int) > (a:Int)):=by omega
 have h3:(fr:Int)<=(a:Int):=by omega
 have h4:(a:Int)<=(nb:Int):=by omega
 have h5:(a:Int)<=(cap:Int):=by omega
 have h6:a<=cap:=by omega
 have h7:(0:Int)<=(a:Int):=by omega
 clear h hL hgc hnb
 go_enter Tryz.func74,Tryz.ntmps74
 go_upto_region 3 with fail
 refine wp_region_told [] 11 [false,false,false,false,false,false,false,false,false,false,false,false,false,false,false,true,true,true,true,true,true,true,true,true,true,true]
  [sLit (.pointer (some ⟨r,0,none⟩)),
  sLit (.pointer (some ⟨r,0,none⟩)),
  sLit (.pointer (some ⟨r,0,none⟩)),
  sLit (.slice (some ⟨g,off,none⟩) nb cap),
  sLit (.int .i64 (fr:Nat)),
  sLit (.pointer (some ⟨r,0,none⟩)),
  sLit (.pointer (some ⟨r,0,none⟩)),
  sLit (.pointer (some ⟨r,1,none⟩)),
  sLit (.int .i64 (a:Nat)),
  sOne (fun v _=>∃ ad cc,v=.slice (some ad) n cc/\(n=0\/ad=⟨g,off+fr,none⟩)) (fun _ _ _ h _=>h),
  sOne (fun v W=>OwnB W w.heap.size v L) (fun _ _ _ h hb=>World.ownsRow.kept h (grown_below (row:=none) hb) (by simp;exact Classical.em _))] (by kernel_rfl) (by kernel_rfl) (by kernel_rfl) (fun F hF=>?_)
 simp only [over,overL,Nat.reduceAdd] at hF
 obtain rfl:=funext hF
 clear hF
 refine⟨⟨?_,?_,?_,?_,?_,?_,?_,?_,?_,?_,?_,trivial⟩,?_⟩
 ·
  intro V W hb hd K hK _
  clear hd
  go_wp2_with fail
  exact hK _ _ rfl br rfl trivial
 ·
  intro V W hb hd K hK _
  have h0:(V 15)=.pointer (some ⟨r,0,none⟩):=hd 0 (by kernel_rfl)
  clear hd
  go_wp2_with fail
  exact hK _ _ rfl br rfl trivial
 ·
  intro V W hb hd K hK _
  have h1:(V 16)=.pointer (some ⟨r,0,none⟩):=hd 1 (by kernel_rfl)
  clear hd
  go_wp2_with fail
  exact hK _ _ rfl br rfl trivial
 ·
  intro V W hb hd K hK _
  have h2:(V 17)=.pointer (some ⟨r,0,none⟩):=hd 2 (by kernel_rfl)
  clear hd
  obtain⟨s0,s1⟩:=HX.out W hb
  go_wp2_with fail
  exact hK _ _ rfl br rfl trivial
 ·
  intro V W hb hd K hK _
  clear hd
  go_wp2_with fail
  exact hK _ _ rfl br rfl trivial
 ·
  intro V W hb hd K hK _
  clear hd
  go_wp2_with fail
  exact hK _ _ rfl br rfl trivial
 ·
  intro V W hb hd K hK _
  have h5:(V 20)=.pointer (some ⟨r,0,none⟩):=hd 5 (by kernel_rfl)
  clear hd
  go_wp2_with fail
  exact hK _ _ rfl br rfl trivial
 ·
  intro V W hb hd K hK _
  have h6:(V 21)=.pointer (some ⟨r,0,none⟩):=hd 6 (by kernel_rfl)
  clear hd
  go_wp2_with fail
  exact hK _ _ rfl br rfl trivial
 ·
  intro V W hb hd K hK _
  have h7:(V 22)=.pointer (some ⟨r,1,none⟩):=hd 7 (by kernel_rfl)
  clear hd
  obtain⟨s0,s1⟩:=HX.out W hb
  go_wp2_with fail
  exact hK _ _ rfl br rfl trivial
 ·
  intro V W hb hd K hK _
  have h3:(V 18)=.slice (some ⟨g,off,none⟩) nb cap:=hd 3 (by kernel_rfl)
  have h4:(V 19)=.int .i64 (fr:Nat):=hd 4 (by kernel_rfl)
  have h8:(V 23)=.int .i64 (a:Nat):=hd 8 (by kernel_rfl)
  clear hd
  go_wp2_with fail
  all_goals
   refine hK _ _ ?_ ?_ ?_ ?_
   . rfl
   . exact Below.refl _ _
   . rw [hn];exact⟨_,_,rfl,by first | exact Or.inr rfl | (left;omega)⟩
   . trivial
 ·
  intro V W hb hd K hK _
  have h9:∃ ad cc,(V 24)=.slice (some ad) n cc/\(n=0\/ad=⟨g,off+fr,none⟩):=hd 9 (by kernel_rfl)
  clear hd
  obtain⟨ad,cc,e9,had⟩:=h9
  have hbw:w.heap.size<=W.heap.size:=hb.size
  have HCC:=hid hb
  go_wp2_with (at_builtin;refine wpList_append_spareAny rfl (.const (.slice none 0 0)) (.tmp 24) 31 rfl w.heap.size 5 i0 (.int .u8 0) [.int .u8 0] 1 Tryz.underlying31 HI.out.1 HI.out.2.1 rfl HI.out.2.2.1 HI.out.2.2.2 (by decide) (.slice none 0 0) 0 [] rfl (Spare.nil _ _ _ _) (some ad) n cc (L.flatMap enB) (by first | rfl | exact e9) (by rw [flat_enB,lm0,HLN.out];exact (Nat.mul_one _).symm) (had.imp id fun h0=>⟨_,rfl,by rw [h0];exact HL3.out _ HCC.out⟩) (by intro u hu;rw [flat_enB] at hu;obtain⟨c,_,rfl⟩:=List.mem_map.1 hu;rfl) (by unfold maxLen;omega) (by omega) hbw ?_)
  intro v1 w1 g1 g2 g3 g4
  have G1:=hid (show OwnB w1 w.heap.size v1 L from by have h:=g1.own;unfold OwnB;rw [HLN.out];first | exact h | simpa using h | (rw [hn];simpa using h))
  have G2:=hid (show Below W.heap.size W w1 from ⟨g2.os,g2.tape,g2.output,g2.size,fun j hj=>g2.block j hj (by simp [Value.ownBlock])⟩)
  clear g1 g2 g3 g4
  go_wp2_with fail
  refine hK _ _ ?_ ?_ ?_ ?_
  . rfl
  . exact G2.out
  . exact G1.out
  . trivial
 ·
  intro V W hb hd hap
  have h10:OwnB W w.heap.size (V 25) L:=hd 10 (by decide)
  clear hd hap
  simp only [List.drop_succ_cons,List.drop_zero]
  have H10:=hid h10
  have HB4:=hid hb
  clear h10 hb
  go_wp2_with fail
  go_ret
  exact⟨_,rfl,H10.out,HB4.out⟩
end Go.Proofs.YtpeoonnglnchnaaGreatDoor.Rd
namespace Go.Proofs.YtpeoonnglnchnaaGreatDoor.Rd
open RowKit Mrk RegInv Mut
variable [Inhabited Lim]
def GetP (r:Nat) (v:Value) (B:List Nat) (q:Con × S) (w:World) (e:Ending) (w':World):Prop:=
 ∃ v',e=.returned v'/\IsC q.1 v' w'/\Rdr w' r v B q.2/\w.grownBy w' (some r)
theorem conE_lies (w:World):Lies w (.slice none 0 0) (.slice none 0 0) (.slice none 0 0) conE:=by
 have h:Reads w (.slice none 0 0) []:=⟨[],rfl,⟨⟨none,0,rfl,Nat.le_refl _,Nat.zero_le _,Or.inl rfl⟩,fun x hx=>by cases hx⟩⟩
 exact⟨h,h,h⟩
theorem own_at0 {w:World} {base:Nat} {v:Value} {l:List Nat} (h:OwnB w base v l) (hl:l≠[]):∃ g cc,v=.slice (some ⟨g,0,none⟩) l.length cc/\∀ (j c:Nat),l[j]?=some c->w.cell? ((⟨g,0,none⟩:Addr).add j)=some (.int .u8 (c:Nat)):=by
 rcases h.2 with ⟨_,h0⟩ | ⟨g,cap,cur,rfl,h2,h3,h4,_⟩
 . exact absurd (List.eq_nil_of_length_eq_zero h0) hl
 ·
  refine⟨g,cap,rfl,fun j c hc=>?_⟩
  exact World.ownsRow.cells h (g:=g) rfl j (.int .u8 (c:Nat)) (by rw [flat_enB,List.getElem?_map,hc];rfl)
theorem c3_put {w:World} {k:Nat} {o1 o2 o3:Option Addr} {n1 n2 n3 k1 k2 k3:Nat} (h:C3 w k (.slice none 0 0) (.slice none 0 0) (.slice none 0 0)) (a b d:Value) (W:World) (hW:W=((w.setCell ⟨k,0,none⟩ a).setCell ⟨k,1,none⟩ b).setCell ⟨k,2,none⟩ d) :
  Plain3 w W/\w.grownBy W (some k)/\W.cell? ⟨k,0,none⟩=some a/\W.cell? ⟨k,1,none⟩=some b/\W.cell? ⟨k,2,none⟩=some d:=by
 have hp:=plain3 h a b d
 obtain⟨h0,h1,h2,h3,f1,f2,f3⟩:=h
 subst hW
 refine⟨hp,((grown_cell' w k 0 a).andThen (grown_cell' _ k 1 b) (fun j hj=>Or.inr hj)).andThen (grown_cell' _ k 2 d) (fun j hj=>Or.inr hj),by go_simp,by go_simp,by go_simp⟩
