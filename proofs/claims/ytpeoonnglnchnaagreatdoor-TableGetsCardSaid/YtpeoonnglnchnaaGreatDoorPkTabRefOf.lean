/- The document's filter: cenotaphref14.Of (layer 14). · The document's filter asked, and as bytes: cenotaphref14.May, Bytes (layer 14). · The document's filter as bytes: cenotaphref14.Bytes (layer 14). · wire.Reader.Taken (layer 3). PRINTED by wip/genrdtaken.py. · state.Get: a content out of a reader (layers 3, 8). PRINTED by wip/genrdstate.py. · The document's table: cenotaphref16.Put (layer 16). PRINTED by wip/gentabrefwrite.py. -/
import Derived.Test.YtpeoonnglnchnaaGreatDoorPkTabSieve
import Derived.Test.YtpeoonnglnchnaaGreatDoorPkRdMore
import Derived.Test.YtpeoonnglnchnaaGreatDoorPkAppendLoc
import Derived.Test.YtpeoonnglnchnaaGreatDoorPkSpareAny
import Derived.Test.YtpeoonnglnchnaaGreatDoorPkConArg
import Derived.Test.YtpeoonnglnchnaaGreatDoorPkTabSvPut
import Derived.Test.YtpeoonnglnchnaaGreatDoorPkTabKeys
import Derived.Test.YtpeoonnglnchnaaGreatDoorPkTabPut
set_option maxHeartbeats 16000000
set_option maxRecDepth 100000
set_option linter.unusedSimpArgs false
set_option linter.unusedVariables false
namespace Go.Proofs.YtpeoonnglnchnaaGreatDoor.Mut
open Go.Lib (hid)
open Go.RowKit Go.Proofs.YtpeoonnglnchnaaGreatDoor.Mrk Go.Proofs.YtpeoonnglnchnaaGreatDoor.Spare
structure RfAt (w wr:World) (N:Nat) (F:Nat→Bool):Prop where
 below:Below w.heap.size w wr
 row:wr.rowIs w.heap.size 4 N (fun j=>.bool (F j))
theorem RfAt.after {w wr w':World} {N:Nat} {F:Nat→Bool} (h:RfAt w wr N F) (hb:Below wr.heap.size wr w'):RfAt w w' N F:=
 ⟨below_then h.below (Nat.le_refl _) hb,h.row.of_block (hb.block _ h.row.lt)⟩
theorem RfAt.set {w wr:World} {N p:Nat} {F:Nat→Bool} (h:RfAt w wr N F):RfAt w (wr.setCell ⟨w.heap.size,p,none⟩ (.bool true)) N (setF F p):=
 ⟨h.below.setCell (Nat.le_refl _) _,World.rowIs.congr (World.rowIs.set h.row p _) (fun j hj=>by
  unfold setF
  by_cases e:j=p
  · rw [if_pos e,decide_eq_true e];rfl
  · rw [if_neg e,decide_eq_false e];rfl)⟩
theorem refsv_any [Inhabited Lim] (v:Value) (K:List ByteArray) (w:World) (hr:TxRow w v K) (hn:K.length≤50000) (hs:∀ k∈K,k.size≤1000000) :
  Calls Tryz.prog 56 #[v] w fun e w'=>∃ g,e=.returned (.slice (some ⟨g,0,none⟩) (8*sizeF K.length) (8*sizeF K.length))∧w.heap.size≤g∧w'.rowIs g 4 (8*sizeF K.length) (fun j=>.bool (ofF (8*sizeF K.length) K j))∧Below w.heap.size w w':=by
 obtain⟨ro,cap,rfl,-,-⟩:=hr.form
 obtain⟨n,hnr⟩:∃ k,k=K.length:=⟨_,rfl⟩
 rw [←hnr] at hr hn ⊢
 obtain⟨L,hL⟩:∃ L,L=sizeF n:=⟨_,rfl⟩
 rw [←hL]
 have hL0:0<L:=by rw [hL];unfold sizeF;omega
 have hL1:L≤65536:=by rw [hL];unfold sizeF;omega
 have hbig:1+10*n / 8=L:=by rw [hL];unfold sizeF;omega
 obtain⟨N,hN⟩:∃ N,N=8*L:=⟨_,rfl⟩
 rw [←hN]
 have hmk:∀ w:World,(Instr.makeSlice 94 (.int .i64 N) (.int .i64 N)).run Tryz.prog w=.ok (.slice (some ⟨w.heap.size,0,none⟩) N N) (w.alloc (.cells (madeCells #[.bool false] N) 4)):=fun w=>
  run_make_row' (P:=Tryz.prog) 94 4 (.bool false) 1 Tryz.underlying94 (by kernel_rfl) rfl .i64 .i64 N (by omega) (by omega) w
 have h8:(8:Int)*(L:Int)=(N:Int):=by omega
 have hN0:0<N:=by omega
 have hN1:N≤524288:=by omega
 have HPL:=hid (fun (s:ByteArray) (z:World) (h:s.size≤1000000)=>bits_any s N z h hN0 hN1)
 have HR:=hid hr
 have HN:=hid hnr
 have HSZ:=hid hs
 clear hr hnr hs hL hN
 have hq1:1+10*(n:Int) / 8=(L:Int):=by omega
 have hq2:¬ ((65536:Int)<(L:Int)):=by omega
 go_enter Tryz.func56,Tryz.ntmps56
 go_wp2_with fail
 have HST:=hid (show RfAt w (w.alloc (.cells (madeCells #[.bool false] N) 4)) N (fun _=>false) from
  ⟨(Below.refl _ w).alloc (Nat.le_refl _) _,World.rowIs_made w (.bool false) N 4⟩)
 clear hmk hq1 hq2
 go_loopw [5] (fun iv wr=>∃ k:Nat,k≤n∧iv=.int .i64 k∧Hid (RfAt w wr N (ofF N (K.take k)))) (fun iv _=>n - (intOf iv).toNat)
 case atStart=>exact⟨0,by omega,rfl,HST⟩
 case round=>
  obtain⟨k,hk,rfl,hst⟩:=hrel
  by_cases hlt:k<n
  ·
   obtain⟨x,hx⟩:∃ x,K[k]?=some x:=⟨_,List.getElem?_eq_getElem (by have:=HN.out;omega)⟩
   obtain⟨xb,xoff,hao,hxb,hxc⟩:=str_at (Lst.below HR.out hst.out.below) hx
   cases hao
   have HX:=hid hx
   have HSX:=hid (HSZ.out x (List.mem_of_getElem? hx))
   have j0:(0:Int)≤(k:Int):=by omega
   have j1:(k:Int)<(n:Int):=by omega
   clear hx
   go_wp2_with fail
   refine (HPL.out x _ HSX.out).mono ?_
   rintro e w1 ⟨v1,rfl,ho1,hb1⟩
   have HS1:=hid (hst.out.after hb1)
   obtain⟨lb,lc,rfl,hlb,hlt1,hcl⟩:∃ lb lc,v1=.slice (some ⟨lb,0,none⟩) 4 lc∧wr.heap.size≤lb∧lb<w1.heap.size∧∀ m,m<4→w1.cell? ⟨lb,m,none⟩=some (.int .i64 (ptF x N m:Nat)):=by
    have hl:=World.ownsRow.lt ho1
    have ho2:=ho1
    obtain⟨-,⟨h1,h2⟩ | ⟨g,cap,cur,h1,-⟩⟩:=ho2
    · exact absurd h2 (by simp [ptsF])
    ·
     subst h1
     refine⟨g,cap,rfl,(hl g rfl).1,(hl g rfl).2,fun m hm=>?_⟩
     have h:=World.ownsRow.cells ho1 (g:=g) rfl m (.int .i64 (ptF x N m:Nat)) (by
      rcases m with _ | _ | _ | _ | m
      · rfl
      · rfl
      · rfl
      · rfl
      · omega)
     rw [addr_add,Nat.zero_add] at h
     exact h
   have HLB:=hid (show w.heap.size≠lb from by have:=hst.out.row.lt;omega)
   clear ho1 hb1 hxb hxc hlb
   go_wp2_with fail
   have HF0:=hid (show RfAt w w1 N (setTo (ofF N (K.take k)) x N 0) from HS1.out)
   have HCL:=hid hcl
   clear hcl
   go_loopw [7] (fun iv wr=>∃ m:Nat,m≤4∧iv=.int .i64 m∧lb<wr.heap.size∧Hid (∀ m,m<4→wr.cell? ⟨lb,m,none⟩=some (.int .i64 (ptF x N m:Nat)))∧Hid (RfAt w wr N (setTo (ofF N (K.take k)) x N m))) (fun iv _=>4 - (intOf iv).toNat)
   case atStart=>exact⟨0,by omega,rfl,hlt1,HCL,HF0⟩
   case round=>
    obtain⟨m,hm,rfl,hlb2,hcl,hst⟩:=hrel
    by_cases hlt4:m<4
    ·
     have cm:=hcl.out m hlt4
     obtain⟨p,hp⟩:∃ p,p=ptF x N m:=⟨_,rfl⟩
     rw [←hp] at cm
     have hpN:p<N:=by rw [hp];exact pt_lt x N m hN0
     have cp:=World.rowIs.cell hst.out.row hpN
     have fp:=World.rowIs.frozen hst.out.row p
     have hgl:=hst.out.row.lt
     have HP:=hid hp
     have j2:(0:Int)≤(p:Int):=by omega
     have j3:(p:Int)<(N:Int):=by omega
     have j4:(0:Int)≤(m:Int):=by omega
     have j5:(m:Int)<4:=by omega
     have HNEW:=hid (show RfAt w (wr.setCell ⟨w.heap.size,p,none⟩ (.bool true)) N (setTo (ofF N (K.take k)) x N (m+1)) from by
      have h:=hst.out.set (p:=p)
      rw [hp] at h ⊢
      exact h)
     have HC2:=hid (show ∀ m,m<4→(wr.setCell ⟨w.heap.size,p,none⟩ (.bool true)).cell? ⟨lb,m,none⟩=some (.int .i64 (ptF x N m:Nat)) from fun m hm=>by
      have:=hcl.out m hm
      have:=HLB.out
      go_simp)
     clear hp
     go_wp2_with fail
     go_roundw
     case rel=>exact⟨m+1,by omega,by go_num,by simpa using hlb2,HC2,HNEW⟩
     case measure=>simp [intOf];omega
    ·
     obtain rfl:m=4:=by omega
     have HK:=hid (show RfAt w wr N (ofF N (K.take (k+1))) from by
      have e:ofF N (K.take (k+1))=setTo (ofF N (K.take k)) x N 4:=by
       unfold ofF
       rw [List.take_add_one,HX.out,List.foldl_append]
       rfl
      rw [e];exact hst.out)
     clear hst
     go_wp2_with fail
     go_roundw
     case rel=>exact⟨k+1,by omega,by go_num,HK⟩
     case measure=>simp [intOf];omega
  ·
   obtain rfl:k=n:=by omega
   have HF:=hid (show RfAt w wr N (ofF N K) from by
    have h:=hst.out
    rw [List.take_of_length_le (by have:=HN.out;omega)] at h
    exact h)
   clear hst
   go_wp2_with fail
   go_ret
   exact⟨_,rfl,Nat.le_refl _,HF.out.row,HF.out.below⟩
end Go.Proofs.YtpeoonnglnchnaaGreatDoor.Mut

namespace Go.Proofs.YtpeoonnglnchnaaGreatDoor.Mut
open Go.Lib (hid)
open Go.RowKit Go.Proofs.YtpeoonnglnchnaaGreatDoor.Mrk Go.Proofs.YtpeoonnglnchnaaGreatDoor.Spare
structure BitRow (w:World) (g N:Nat) (F:Nat→Bool):Prop where
 lt:g<w.heap.size
 cell:∀ j,j<N→w.cell? ⟨g,j,none⟩=some (.bool (F j))
theorem BitRow.below {w w':World} {g L:Nat} {F:Nat→Bool} (h:BitRow w g L F) (hb:Below w.heap.size w w'):BitRow w' g L F:=
 ⟨Nat.lt_of_lt_of_le h.lt hb.size,fun j hj=>(hb.cell (p:=⟨g,j,none⟩) h.lt).trans (h.cell j hj)⟩
theorem refmay_any [Inhabited Lim] (g N bc:Nat) (F:Nat→Bool) (s:ByteArray) (w:World) (hr:BitRow w g N F) (hN0:0<N) (hN1:N≤524288) (hs:s.size≤1000000) :
  Calls Tryz.prog 55 #[.slice (some ⟨g,0,none⟩) N bc,.string s] w fun e w'=>e=.returned (.bool (mayF F s N))∧Below w.heap.size w w':=by
 have HPL:=hid (bits_any s N w hs hN0 hN1)
 have HR:=hid hr
 have hLn:((N:Int) == 0)=false:=by simp;omega
 obtain⟨R,hR⟩:∃ b,b=mayF F s N:=⟨_,rfl⟩
 rw [←hR]
 have HRR:=hid hR
 clear hr hR
 go_enter Tryz.func55,Tryz.ntmps55
 go_wp2_with fail
 refine HPL.out.mono ?_
 rintro e w1 ⟨v1,rfl,ho1,hb1⟩
 have HB1:=hid hb1
 obtain⟨lb,lc,rfl,hcl⟩:∃ lb lc,v1=.slice (some ⟨lb,0,none⟩) 4 lc∧∀ m,m<4→w1.cell? ⟨lb,m,none⟩=some (.int .i64 (ptF s N m:Nat)):=by
  have ho2:=ho1
  obtain⟨-,⟨h1,h2⟩ | ⟨g,cap,cur,h1,-⟩⟩:=ho2
  · exact absurd h2 (by simp [ptsF])
  ·
   subst h1
   refine⟨g,cap,rfl,fun m hm=>?_⟩
   have h:=World.ownsRow.cells ho1 (g:=g) rfl m (.int .i64 (ptF s N m:Nat)) (by
    rcases m with _ | _ | _ | _ | m
    · rfl
    · rfl
    · rfl
    · rfl
    · omega)
   rw [addr_add,Nat.zero_add] at h
   exact h
 have HCL:=hid hcl
 clear ho1 hb1 hcl
 go_wp2_with fail
 go_loop [6] (fun iv=>∃ m:Nat,m≤4∧iv=.int .i64 m∧Hid (mayTo F s N m=true)) (fun iv=>4 - (intOf iv).toNat)
 case atStart=>exact⟨0,by omega,rfl,hid rfl⟩
 case round=>
  obtain⟨m,hm,rfl,hto⟩:=hrel
  by_cases hlt4:m<4
  ·
   have cm:=HCL.out m hlt4
   obtain⟨p,hp⟩:∃ p,p=ptF s N m:=⟨_,rfl⟩
   rw [←hp] at cm
   have hpN:p<N:=by rw [hp];exact pt_lt s N m hN0
   have cp:=(HR.out.below HB1.out).cell p hpN
   have HP:=hid hp
   have j2:(0:Int)≤(p:Int):=by omega
   have j3:(p:Int)<(N:Int):=by omega
   have j4:(0:Int)≤(m:Int):=by omega
   have j5:(m:Int)<4:=by omega
   clear hp
   cases hf:F p
   ·
    have hres:R=false:=by rw [HRR.out];exact may_false F s N m hlt4 (by rw [←HP.out];exact hf)
    subst hres
    rw [hf] at cp
    clear hf
    go_wp2_with fail
    go_ret
    exact⟨rfl,HB1.out⟩
   ·
    have HTO:=hid (show mayTo F s N (m+1)=true from by
     show (mayTo F s N m && F (ptF s N m))=true
     rw [hto.out,←HP.out,hf];rfl)
    rw [hf] at cp
    clear hf
    go_wp2_with fail
    go_round
    case rel=>exact⟨m+1,by omega,by go_num,HTO⟩
    case measure=>simp [intOf];omega
  ·
   obtain rfl:m=4:=by omega
   have hres:R=true:=by rw [HRR.out,mayF_to];exact hto.out
   subst hres
   go_wp2_with fail
   go_ret
   exact⟨rfl,HB1.out⟩
end Go.Proofs.YtpeoonnglnchnaaGreatDoor.Mut

namespace Go.Proofs.YtpeoonnglnchnaaGreatDoor.Mut
open Go.RowKit Go.Proofs.YtpeoonnglnchnaaGreatDoor.Mrk Go.Proofs.YtpeoonnglnchnaaGreatDoor.Spare
structure BtAt (w wr:World) (L:Nat) (F:Nat→Bool):Prop where
 below:Below w.heap.size w wr
 row:wr.rowIs w.heap.size 5 L (fun j=>.int .u8 (byteF F j:Nat))
 wor:∀ r,r<8→wr.cell? ⟨w.heap.size+1,r,none⟩=some (.int .u8 (2 ^ r:Nat))
 size:w.heap.size+1<wr.heap.size
end Go.Proofs.YtpeoonnglnchnaaGreatDoor.Mut

namespace Go.Proofs.YtpeoonnglnchnaaGreatDoor.Rd
open Go.Lib (hid)
open Go.RowKit Go.Proofs.YtpeoonnglnchnaaGreatDoor.Spare Go.Proofs.YtpeoonnglnchnaaGreatDoor.Mrk Go.Proofs.YtpeoonnglnchnaaGreatDoor.RegInv
theorem taken_any (r:Nat) (v:Value) (B:List Nat) (s:S) (fr:Nat) (w:World) (h:Rdr w r v B s) (hf:fr≤s.1) (h0:0<s.1) :
  Calls Tryz.prog 74 #[pR r,.int .i64 (fr:Nat)] w fun e w'=>∃ v',e=.returned v'∧OwnB w' w.heap.size v' ((B.drop fr).take (s.1 - fr))∧Below w.heap.size w w':=by
 have hat:=h.at_
 have hsm:=h.small
 obtain⟨ao,cap,rfl,hcb,-⟩:=Lst.form h.row
 obtain⟨g,off,rfl,hgw,hgc⟩:∃ g off,ao=some ⟨g,off,none⟩∧g<w.heap.size∧∀ j c,B[j]?=some c→w.cell? ⟨g,off+j,none⟩=some (.int .u8 (c:Nat)):=by
  obtain⟨b,o,e,hb,hc⟩:=Lst.get h.row (i:=0) (by omega)
  subst e
  refine⟨b,o,rfl,hb,fun j c hj=>?_⟩
  obtain⟨b2,o2,e2,-,h2⟩:=byte_at h.row hj
  cases e2
  exact h2
 obtain⟨i0,hi,hz0,hz1,hz2⟩:=info_parts_B
 have HI:=hid (And.intro hi (And.intro hz0 (And.intro hz1 hz2)))
 clear hi hz0 hz1 hz2
 obtain⟨a,y⟩:=s
 obtain⟨nb,hnb⟩:∃ k,k=B.length:=⟨_,rfl⟩
 obtain⟨n,hn⟩:∃ n,n=a - fr:=⟨_,rfl⟩
 obtain⟨L,hL⟩:∃ L,L=(B.drop fr).take (a - fr):=⟨_,rfl⟩
 have HLN:=hid (show L.length=n from by rw [hL,hn,List.length_take,List.length_drop];simp only [] at hat hf;omega)
 have HL3:=hid (show ∀ (W:World),Below w.heap.size w W→∀ (j:Nat) (u:Value),(L.flatMap enB)[j]?=some u→W.cell? ((⟨g,off+fr,none⟩:Addr).add j)=some u from fun W hb j u hu=>by
  rw [flat_enB,List.getElem?_map] at hu
  obtain⟨c,hc,rfl⟩:=Option.map_eq_some_iff.1 hu
  rw [hL,List.getElem?_take] at hc
  split at hc
  ·
   rw [List.getElem?_drop] at hc
   have h1:=hgc (fr+j) c hc
   rw [addr_add,Nat.add_assoc,World.cell?_of_block (a:=⟨g,off+(fr+j),none⟩) (hb.block g hgw)]
   exact h1
  · cases hc)
 simp only [] at hf h0 hat
 show Calls _ _ _ w fun e w'=>∃ v',e=.returned v'∧OwnB w' w.heap.size v' ((B.drop fr).take (a - fr))∧Below w.heap.size w w'
 rw [←hL]
 have c0:=h.c0
 have c1:=h.c1
 simp only [] at c1
 rw [←hnb] at c0 hcb hat hsm
 have HX:=hid (show ∀ (W:World),Below w.heap.size w W→W.cell? ⟨r,0,none⟩=some (.slice (some ⟨g,off,none⟩) nb cap)∧W.cell? ⟨r,1,none⟩=some (.int .i64 (a:Nat)) from fun W hb=>by
  have h2:=(h.below hb).c0
  rw [←hnb] at h2
  exact⟨h2,(h.below hb).c1⟩)
 have h1:(0:Int)≤(fr:Int):=by omega
 have h2:¬ ((fr:Int) > (a:Int)):=by omega
 have h3:(fr:Int)≤(a:Int):=by omega
 have h4:(a:Int)≤(nb:Int):=by omega
 have h5:(a:Int)≤(cap:Int):=by omega
 have h6:a≤cap:=by omega
 have h7:(0:Int)≤(a:Int):=by omega
 clear h hL hgc hnb
 go_enter Tryz.func74,Tryz.ntmps74
 go_upto_region 3 with fail
 refine wp_region_told [] 11 [false,false,false,false,false,false,false,false,false,false,false,false,false,false,false,true,true,true,true,true,true,true,true,true,true,true]
  [sLit (.pointer (some ⟨r,0,none⟩)),
  sLit (.pointer (some ⟨r,0,none⟩)),
  sLit (.pointer (some ⟨r,0,none⟩)),
  sLit (.slice (some ⟨g,off,none⟩) nb cap),
  sLit (.int .i64 (fr:Nat)),
  sLit (.pointer (some ⟨r,0,none⟩)),
  sLit (.pointer (some ⟨r,0,none⟩)),
  sLit (.pointer (some ⟨r,1,none⟩)),
  sLit (.int .i64 (a:Nat)),
  sOne (fun v _=>∃ ad cc,v=.slice (some ad) n cc∧(n=0∨ad=⟨g,off+fr,none⟩)) (fun _ _ _ h _=>h),
  sOne (fun v W=>OwnB W w.heap.size v L) (fun _ _ _ h hb=>World.ownsRow.kept h (grown_below (row:=none) hb) (by simp;exact Classical.em _))] (by kernel_rfl) (by kernel_rfl) (by kernel_rfl) (fun F hF=>?_)
 simp only [over,overL,Nat.reduceAdd] at hF
 obtain rfl:=funext hF
 clear hF
 refine⟨⟨?_,?_,?_,?_,?_,?_,?_,?_,?_,?_,?_,trivial⟩,?_⟩
 ·
  intro V W hb hd K hK _
  clear hd
  go_wp2_with fail
  exact hK _ _ rfl (Below.refl _ _) rfl trivial
 ·
  intro V W hb hd K hK _
  have h0:(V 15)=.pointer (some ⟨r,0,none⟩):=hd 0 (by kernel_rfl)
  clear hd
  go_wp2_with fail
  exact hK _ _ rfl (Below.refl _ _) rfl trivial
 ·
  intro V W hb hd K hK _
  have h1:(V 16)=.pointer (some ⟨r,0,none⟩):=hd 1 (by kernel_rfl)
  clear hd
  go_wp2_with fail
  exact hK _ _ rfl (Below.refl _ _) rfl trivial
 ·
  intro V W hb hd K hK _
  have h2:(V 17)=.pointer (some ⟨r,0,none⟩):=hd 2 (by kernel_rfl)
  clear hd
  obtain⟨s0,s1⟩:=HX.out W hb
  go_wp2_with fail
  exact hK _ _ rfl (Below.refl _ _) rfl trivial
 ·
  intro V W hb hd K hK _
  clear hd
  go_wp2_with fail
  exact hK _ _ rfl (Below.refl _ _) rfl trivial
 ·
  intro V W hb hd K hK _
  clear hd
  go_wp2_with fail
  exact hK _ _ rfl (Below.refl _ _) rfl trivial
 ·
  intro V W hb hd K hK _
  have h5:(V 20)=.pointer (some ⟨r,0,none⟩):=hd 5 (by kernel_rfl)
  clear hd
  go_wp2_with fail
  exact hK _ _ rfl (Below.refl _ _) rfl trivial
 ·
  intro V W hb hd K hK _
  have h6:(V 21)=.pointer (some ⟨r,0,none⟩):=hd 6 (by kernel_rfl)
  clear hd
  go_wp2_with fail
  exact hK _ _ rfl (Below.refl _ _) rfl trivial
 ·
  intro V W hb hd K hK _
  have h7:(V 22)=.pointer (some ⟨r,1,none⟩):=hd 7 (by kernel_rfl)
  clear hd
  obtain⟨s0,s1⟩:=HX.out W hb
  go_wp2_with fail
  exact hK _ _ rfl (Below.refl _ _) rfl trivial
 ·
  intro V W hb hd K hK _
  have h3:(V 18)=.slice (some ⟨g,off,none⟩) nb cap:=hd 3 (by kernel_rfl)
  have h4:(V 19)=.int .i64 (fr:Nat):=hd 4 (by kernel_rfl)
  have h8:(V 23)=.int .i64 (a:Nat):=hd 8 (by kernel_rfl)
  clear hd
  go_wp2_with fail
  all_goals
   refine hK _ _ ?_ ?_ ?_ ?_
   · rfl
   · exact Below.refl _ _
   · rw [hn];exact⟨_,_,rfl,by first | exact Or.inr rfl | (left;omega)⟩
   · trivial
 ·
  intro V W hb hd K hK _
  have h9:∃ ad cc,(V 24)=.slice (some ad) n cc∧(n=0∨ad=⟨g,off+fr,none⟩):=hd 9 (by kernel_rfl)
  clear hd
  obtain⟨ad,cc,e9,had⟩:=h9
  have hbw:w.heap.size≤W.heap.size:=hb.size
  have HCC:=hid hb
  go_wp2_with (at_builtin;refine wpList_append_spareAny rfl (.const (.slice none 0 0)) (.tmp 24) 31 rfl w.heap.size 5 i0 (.int .u8 0) [.int .u8 0] 1 Tryz.underlying31 HI.out.1 HI.out.2.1 rfl HI.out.2.2.1 HI.out.2.2.2 (by decide) (.slice none 0 0) 0 [] rfl (Spare.nil _ _ _ _) (some ad) n cc (L.flatMap enB) (by first | rfl | exact e9) (by rw [flat_enB,List.length_map,HLN.out];exact (Nat.mul_one _).symm) (had.imp id fun h0=>⟨_,rfl,by rw [h0];exact HL3.out _ HCC.out⟩) (by intro u hu;rw [flat_enB] at hu;obtain⟨c,_,rfl⟩:=List.mem_map.1 hu;rfl) (by unfold maxLen;omega) (by omega) hbw ?_)
  intro v1 w1 g1 g2 g3 g4
  have G1:=hid (show OwnB w1 w.heap.size v1 L from by have h:=g1.own;unfold OwnB;rw [HLN.out];first | exact h | simpa using h | (rw [hn];simpa using h))
  have G2:=hid (show Below W.heap.size W w1 from ⟨g2.os,g2.tape,g2.output,g2.size,fun j hj=>g2.block j hj (by simp [Value.ownBlock])⟩)
  clear g1 g2 g3 g4
  go_wp2_with fail
  refine hK _ _ ?_ ?_ ?_ ?_
  · rfl
  · exact G2.out
  · exact G1.out
  · trivial
 ·
  intro V W hb hd hap
  have h10:OwnB W w.heap.size (V 25) L:=hd 10 (by decide)
  clear hd hap
  simp only [List.drop_succ_cons,List.drop_zero]
  have H10:=hid h10
  have HB4:=hid hb
  clear h10 hb
  go_wp2_with fail
  go_ret
  exact⟨_,rfl,H10.out,HB4.out⟩
end Go.Proofs.YtpeoonnglnchnaaGreatDoor.Rd

namespace Go.Proofs.YtpeoonnglnchnaaGreatDoor.Rd
open Go.RowKit Go.Proofs.YtpeoonnglnchnaaGreatDoor.Mrk Go.Proofs.YtpeoonnglnchnaaGreatDoor.RegInv Go.Proofs.YtpeoonnglnchnaaGreatDoor.Mut
set_option linter.unusedSectionVars false
variable [Inhabited Lim]
def GetP (r:Nat) (v:Value) (B:List Nat) (q:Con × S) (w:World) (e:Ending) (w':World):Prop:=
 ∃ v',e=.returned v'∧IsC q.1 v' w'∧Rdr w' r v B q.2∧w.grownBy w' (some r)
theorem conE_lies (w:World):Lies w (.slice none 0 0) (.slice none 0 0) (.slice none 0 0) conE:=by
 have h:Reads w (.slice none 0 0) []:=⟨[],rfl,⟨⟨none,0,rfl,Nat.le_refl _,Nat.zero_le _,Or.inl rfl⟩,fun x hx=>by cases hx⟩⟩
 exact⟨h,h,h⟩
theorem own_at0 {w:World} {base:Nat} {v:Value} {l:List Nat} (h:OwnB w base v l) (hl:l≠[]):∃ g cc,v=.slice (some ⟨g,0,none⟩) l.length cc∧∀ (j c:Nat),l[j]?=some c→w.cell? ((⟨g,0,none⟩:Addr).add j)=some (.int .u8 (c:Nat)):=by
 rcases h.2 with ⟨_,h0⟩ | ⟨g,cap,cur,rfl,h2,h3,h4,_⟩
 · exact absurd (List.eq_nil_of_length_eq_zero h0) hl
 ·
  refine⟨g,cap,rfl,fun j c hc=>?_⟩
  exact World.ownsRow.cells h (g:=g) rfl j (.int .u8 (c:Nat)) (by rw [flat_enB,List.getElem?_map,hc];rfl)
theorem c3_put {w:World} {k:Nat} {o1 o2 o3:Option Addr} {n1 n2 n3 k1 k2 k3:Nat} (h:C3 w k (.slice none 0 0) (.slice none 0 0) (.slice none 0 0)) (a b d:Value) (W:World) (hW:W=((w.setCell ⟨k,0,none⟩ a).setCell ⟨k,1,none⟩ b).setCell ⟨k,2,none⟩ d) :
  Plain3 w W∧w.grownBy W (some k)∧W.cell? ⟨k,0,none⟩=some a∧W.cell? ⟨k,1,none⟩=some b∧W.cell? ⟨k,2,none⟩=some d:=by
 have hp:=plain3 h a b d
 obtain⟨h0,h1,h2,h3,f1,f2,f3⟩:=h
 subst hW
 refine⟨hp,((grown_cell' w k 0 a).andThen (grown_cell' _ k 1 b) (fun j hj=>Or.inr hj)).andThen (grown_cell' _ k 2 d) (fun j hj=>Or.inr hj),by go_simp,by go_simp,by go_simp⟩
end Go.Proofs.YtpeoonnglnchnaaGreatDoor.Rd

namespace Go.Proofs.YtpeoonnglnchnaaGreatDoor.Tab
open Go.RowKit Go.Proofs.YtpeoonnglnchnaaGreatDoor.Spare Go.Proofs.YtpeoonnglnchnaaGreatDoor.RegInv Go.Proofs.YtpeoonnglnchnaaGreatDoor.Mut Go.Proofs.YtpeoonnglnchnaaGreatDoor.Mrk Go.Proofs.YtpeoonnglnchnaaGreatDoor.Rd
set_option linter.unusedSectionVars false
variable [Inhabited Lim]
theorem rows_nodup {c:Con} {n:Nat} (h:Mut.Good c n):(c.cells++c.sibs).Nodup:=by
 have h1:=h.reps.nodup
 unfold Con.all at h1
 obtain⟨a1,a2,a3⟩:=List.nodup_append.1 h1
 obtain⟨b1,b2,b3⟩:=List.nodup_append.1 a2
 exact List.nodup_append.2 ⟨a1,b2,fun x hx y hy=>a3 x hx y (List.mem_append_right _ hy)⟩
end Go.Proofs.YtpeoonnglnchnaaGreatDoor.Tab
