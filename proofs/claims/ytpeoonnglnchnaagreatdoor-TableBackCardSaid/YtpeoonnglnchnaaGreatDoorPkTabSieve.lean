/- PkTabSieve. -/
import Derived.Test.YtpeoonnglnchnaaGreatDoorPkTabTx
set_option linter.unusedSimpArgs false
set_option linter.unusedVariables false
set_option maxHeartbeats 16000000
set_option maxRecDepth 100000
namespace Go.Proofs.YtpeoonnglnchnaaGreatDoor.Mut
open RowKit Mrk YtpeoonnglnchnaaGreatDoor.Spare
def byte8 (a b c d e f g h:Bool):Nat:=cond a 1 0+cond b 2 0+cond c 4 0+cond d 8 0+cond e 16 0+cond f 32 0+cond g 64 0+cond h 128 0
def byteF (F:Nat->Bool) (j:Nat):Nat:=byte8 (F (8*j)) (F (8*j+1)) (F (8*j+2)) (F (8*j+3)) (F (8*j+4)) (F (8*j+5)) (F (8*j+6)) (F (8*j+7))
def setF (F:Nat->Bool) (i:Nat):Nat->Bool:=fun k=>decide (k=i) || F k
def sizeF (n:Nat):Nat:=min (1+10*n / 8) 65536
def setTo (F:Nat->Bool) (s:ByteArray) (n:Nat):Nat->(Nat->Bool)
 | 0=>F
 | m+1=>setF (setTo F s n m) (ptF s n m)
def ofF (n:Nat) (ks:List ByteArray):Nat->Bool:=ks.foldl (fun F k=>setTo F k n 4) (fun _=>false)
def mayF (F:Nat->Bool) (s:ByteArray) (n:Nat):Bool:=F (ptF s n 0) && (F (ptF s n 1) && (F (ptF s n 2) && F (ptF s n 3)))
theorem byte8_lt:∀ a b c d e f g h:Bool,byte8 a b c d e f g h<256:=by decide
theorem byteF_lt (F:Nat->Bool) (j:Nat):byteF F j<256:=byte8_lt _ _ _ _ _ _ _ _
theorem byte8_or:∀ a b c d e f g h:Bool,byte8 true b c d e f g h=byte8 a b c d e f g h ||| 1/\byte8 a true c d e f g h=byte8 a b c d e f g h ||| 2/\byte8 a b true d e f g h=byte8 a b c d e f g h ||| 4/\byte8 a b c true e f g h=byte8 a b c d e f g h ||| 8/\byte8 a b c d true f g h=byte8 a b c d e f g h ||| 16/\byte8 a b c d e true g h=byte8 a b c d e f g h ||| 32/\byte8 a b c d e f true h=byte8 a b c d e f g h ||| 64/\byte8 a b c d e f g true=byte8 a b c d e f g h ||| 128:=by decide
theorem byte8_bit:∀ a b c d e f g h:Bool,byte8 a b c d e f g h / 1 % 2=cond a 1 0/\byte8 a b c d e f g h / 2 % 2=cond b 1 0/\byte8 a b c d e f g h / 4 % 2=cond c 1 0/\byte8 a b c d e f g h / 8 % 2=cond d 1 0/\byte8 a b c d e f g h / 16 % 2=cond e 1 0/\byte8 a b c d e f g h / 32 % 2=cond f 1 0/\byte8 a b c d e f g h / 64 % 2=cond g 1 0/\byte8 a b c d e f g h / 128 % 2=cond h 1 0:=by decide
theorem byte_set (F:Nat->Bool) (q r:Nat) (hr:r<8):byteF (setF F (8*q+r)) q=byteF F q ||| 2 ^ r:=by
 obtain⟨h0,h1,h2,h3,h4,h5,h6,h7⟩:=byte8_or (F (8*q)) (F (8*q+1)) (F (8*q+2)) (F (8*q+3)) (F (8*q+4)) (F (8*q+5)) (F (8*q+6)) (F (8*q+7))
 have hq:∀ a b:Nat,(8*q+a=8*q+b) ↔ a=b:=fun a b=>by omega
 have hq0:∀ b:Nat,(8*q=8*q+b) ↔ b=0:=fun b=>by omega
 rcases r with _ | _ | _ | _ | _ | _ | _ | _ | r
 . simpa [byteF,setF,hq,hq0] using h0
 . simpa [byteF,setF,hq,hq0] using h1
 . simpa [byteF,setF,hq,hq0] using h2
 . simpa [byteF,setF,hq,hq0] using h3
 . simpa [byteF,setF,hq,hq0] using h4
 . simpa [byteF,setF,hq,hq0] using h5
 . simpa [byteF,setF,hq,hq0] using h6
 . simpa [byteF,setF,hq,hq0] using h7
 . omega
theorem byte_other (F:Nat->Bool) (q r j:Nat) (hr:r<8) (hj:j≠q):byteF (setF F (8*q+r)) j=byteF F j:=by
 have h:∀ k,k<8->setF F (8*q+r) (8*j+k)=F (8*j+k):=fun k hk=>by
  unfold setF
  rw [df0 (by omega),Bool.false_or]
 unfold byteF
 have h0:=h 0 (by decide)
 rw [Nat.add_zero] at h0
 rw [h0,h 1 (by decide),h 2 (by decide),h 3 (by decide),h 4 (by decide),h 5 (by decide),h 6 (by decide),h 7 (by decide)]
theorem byte_get (F:Nat->Bool) (q r:Nat) (hr:r<8):byteF F q / 2 ^ r % 2=cond (F (8*q+r)) 1 0:=by
 obtain⟨h0,h1,h2,h3,h4,h5,h6,h7⟩:=byte8_bit (F (8*q)) (F (8*q+1)) (F (8*q+2)) (F (8*q+3)) (F (8*q+4)) (F (8*q+5)) (F (8*q+6)) (F (8*q+7))
 rcases r with _ | _ | _ | _ | _ | _ | _ | _ | r
 . exact h0
 . exact h1
 . exact h2
 . exact h3
 . exact h4
 . exact h5
 . exact h6
 . exact h7
 . omega
theorem pt_lt (s:ByteArray) (n i:Nat) (hn:0<n):ptF s n i<n:=Nat.mod_lt _ hn
end Go.Proofs.YtpeoonnglnchnaaGreatDoor.Mut
namespace Go.Proofs.YtpeoonnglnchnaaGreatDoor.Mut
open Go.Lib (hid)
open RowKit Mrk YtpeoonnglnchnaaGreatDoor.Spare
theorem idx_any (x:ByteArray) (N m:Nat) (hm:m<4) (W:World):(Instr.index 114 (.agg #[.int .i64 (ptF x N 0:Nat),.int .i64 (ptF x N 1:Nat),.int .i64 (ptF x N 2:Nat),.int .i64 (ptF x N 3:Nat)]) (.int .i64 (m:Int))).run Tryz.prog W=.ok (.int .i64 (ptF x N m:Nat)) W:=by
 have h:=Tryz.underlying114
 rcases m with _ | _ | _ | _ | m
 . simp [Instr.index,run_underlying h,asIntOf,go_sem]
 . simp [Instr.index,run_underlying h,asIntOf,go_sem]
 . simp [Instr.index,run_underlying h,asIntOf,go_sem]
 . simp [Instr.index,run_underlying h,asIntOf,go_sem]
 . omega
structure SvAt (w wr:World) (L:Nat) (F:Nat->Bool):Prop where
 below:Below w.heap.size w wr
 row:wr.rowIs (w.heap.size+1) 5 L (fun j=>.int .u8 (byteF F j:Nat))
 t3:wr.cell? ⟨w.heap.size+1+1,0,none⟩=some (.slice (some ⟨w.heap.size+1,0,none⟩) L L)
 t2:wr.cell? ⟨w.heap.size,0,none⟩=some (.slice none 0 0)
 f2:wr.frozen? ⟨w.heap.size,0,none⟩=false
 size:w.heap.size+1+1<wr.heap.size
theorem SvAt.after {w wr w':World} {L:Nat} {F:Nat->Bool} (h:SvAt w wr L F) (hb:Below wr.heap.size wr w'):SvAt w w' L F:=
 ⟨below_then h.below lr hb,h.row.of_block (hb.block _ (by have:=h.size;omega)),(hb.cell (p:=⟨w.heap.size+1+1,0,none⟩) h.size).trans h.t3,(hb.cell (p:=⟨w.heap.size,0,none⟩) (by have:=h.size;show w.heap.size<_;omega)).trans h.t2,(hb.frozen (p:=⟨w.heap.size,0,none⟩) (by have:=h.size;show w.heap.size<_;omega)).trans h.f2,Nat.lt_of_lt_of_le h.size hb.size⟩
theorem svof_any [Inhabited Lim] (v:Value) (K:List ByteArray) (w:World) (hr:TxRow w v K) (hn:K.length<=100000) (hs:∀ k∈K,k.size<=1000000) :
  Calls Tryz.prog 47 #[v] w fun e w'=>∃ g,e=.returned (.agg #[.slice (some ⟨g,0,none⟩) (sizeF K.length) (sizeF K.length)])/\w.heap.size<=g/\w'.rowIs g 5 (sizeF K.length) (fun j=>.int .u8 (byteF (ofF (8*sizeF K.length) K) j:Nat))/\Below w.heap.size w w':=by
 obtain⟨ro,cap,rfl,-,-⟩:=hr.form
 obtain⟨n,hnr⟩:∃ k,k=K.length:=⟨_,rfl⟩
 rw [<-hnr] at hr hn ⊢
 obtain⟨L,hL⟩:∃ L,L=sizeF n:=⟨_,rfl⟩
 rw [<-hL]
 have hL0:0<L:=by rw [hL];unfold sizeF;omega
 have hL1:L<=65536:=by rw [hL];unfold sizeF;omega
 have hmin:min (1+10*(n:Int) / 8) 65536=(L:Int):=by rw [hL];unfold sizeF;omega
 have hmk:∀ w:World,(Instr.makeSlice 31 (.int .i64 L) (.int .i64 L)).run Tryz.prog w=.ok (.slice (some ⟨w.heap.size,0,none⟩) L L) (w.alloc (.cells (madeCells #[.int .u8 0] L) 5)):=fun w=>
  run_make_row' (P:=Tryz.prog) 31 5 (.int .u8 0) 1 Tryz.underlying31 (by kernel_rfl) rfl .i64 .i64 L (by omega) (by omega) w
 obtain⟨N,hN⟩:∃ N,N=8*L:=⟨_,rfl⟩
 rw [<-hN]
 have HPL:=hid (fun (s:ByteArray) (z:World) (h:s.size<=1000000) (bo:Option Addr) (bc:Nat)=>show Calls Tryz.prog 83 #[.agg #[.slice bo L bc],.string s] z _ from by
  have h:=places_any s bo L bc z h hL0 hL1
  rw [<-hN] at h
  exact h)
 have HR:=hid hr
 have HN:=hid hnr
 have HSZ:=hid hs
 have HL:=hid hL
 have HN8:=hid hN
 clear hr hnr hs hL hN
 go_enter Tryz.func47,Tryz.ntmps47
 go_wp2_with fail
 clear hmk hmin
 have hb0:=((((Below.refl _ w).alloc lr (.cells #[.slice none 0 0] 67)).alloc (by simp) (.cells (madeCells #[.int .u8 0] L) 5))).alloc (by simp;omega) (.cells #[.slice (some ⟨w.heap.size+1,0,none⟩) L L] 67)
 have HRow:=hid (show (((w.alloc (.cells #[.slice none 0 0] 67)).alloc (.cells (madeCells #[.int .u8 0] L) 5)).alloc (.cells #[.slice (some ⟨w.heap.size+1,0,none⟩) L L] 67)).rowIs (w.heap.size+1) 5 L (fun _=>.int .u8 0) from by
  have h:=(World.rowIs_made (w.alloc (.cells #[.slice none 0 0] 67)) (.int .u8 0) L 5).alloc (.cells #[.slice (some ⟨w.heap.size+1,0,none⟩) L L] 67)
  simpa using h)
 have HST:=hid (show SvAt w (((w.alloc (.cells #[.slice none 0 0] 67)).alloc (.cells (madeCells #[.int .u8 0] L) 5)).alloc (.cells #[.slice (some ⟨w.heap.size+1,0,none⟩) L L] 67)) L (fun _=>false) from
  ⟨hb0,HRow.out,by go_simp,by go_simp,by go_simp,by simp⟩)
 clear hb0 HRow
 go_loopw [18] (fun iv wr=>∃ k:Nat,k<=n/\iv=.int .i64 k/\Hid (SvAt w wr L (ofF N (K.take k)))) (fun iv _=>n - (intOf iv).toNat)
 case atStart=>exact⟨0,by omega,rfl,HST⟩
 case round=>
  obtain⟨k,hk,rfl,hst⟩:=hrel
  by_cases hlt:k<n
  ·
   obtain⟨x,hx⟩:∃ x,K[k]?=some x:=⟨_,ge0 (by have:=HN.out;omega)⟩
   obtain⟨xb,xoff,hao,hxb,hxc⟩:=str_at (Lst.below HR.out hst.out.below) hx
   cases hao
   have HX:=hid hx
   have HSX:=hid (HSZ.out x (mg0 hx))
   have j0:(0:Int)<=(k:Int):=by omega
   have j1:(k:Int)<(n:Int):=by omega
   have c3:=hst.out.t3
   clear hx
   go_wp2_with fail
   refine (HPL.out x _ HSX.out _ _).mono ?_
   rintro e w1 ⟨rfl,hb1⟩
   have HS1:=hid (hst.out.after hb1)
   clear hb1 c3 hxb hxc
   go_wp2_with fail
   have HF0:=hid (show SvAt w w1 L (setTo (ofF N (K.take k)) x N 0) from HS1.out)
   go_loopw [25] (fun iv wr=>∃ m:Nat,m<=4/\iv=.int .i64 m/\Hid (SvAt w wr L (setTo (ofF N (K.take k)) x N m))) (fun iv _=>4 - (intOf iv).toNat)
   case atStart=>exact⟨0,by omega,rfl,HF0⟩
   case round=>
    obtain⟨m,hm,rfl,hst⟩:=hrel
    by_cases hlt4:m<4
    ·
     obtain⟨p,hp⟩:∃ p,p=ptF x N m:=⟨_,rfl⟩
     have hidx:=idx_any x N m hlt4
     rw [<-hp] at hidx
     have hpN:p<8*L:=by rw [hp,<-HN8.out];exact pt_lt x N m (by have:=HN8.out;omega)
     obtain⟨q,r,hr,rfl⟩:∃ q r,r<8/\p=8*q+r:=⟨p / 8,p % 8,by omega,by omega⟩
     have hq:q<L:=by omega
     have HP:=hid hp
     have e1:(((8*q+r:Nat):Int)) / 8=(q:Int):=by omega
     have e2:(((8*q+r:Nat):Int)) % 8=(r:Int):=by omega
     obtain⟨B,hB⟩:∃ B,B=byteF (setTo (ofF N (K.take k)) x N m) q:=⟨_,rfl⟩
     have hBl:B<256:=by rw [hB];exact byteF_lt _ _
     have cb:wr.cell? ⟨w.heap.size+1,q,none⟩=some (.int .u8 (B:Nat)):=by rw [hB];exact World.rowIs.cell hst.out.row hq
     have HB:=hid hB
     clear hB
     have fb:=World.rowIs.frozen hst.out.row q
     have c3:=hst.out.t3
     have h3:=hst.out.size
     have h3':w.heap.size+1<wr.heap.size:=by omega
     have j2:(0:Int)<=(q:Int):=by omega
     have j3:(q:Int)<(L:Int):=by omega
     have j4:(0:Int)<=(r:Int):=by omega
     have j5:(r:Int)<8:=by omega
     obtain⟨P,hP⟩:∃ P,P=8*q+r:=⟨_,rfl⟩
     rw [<-hP] at e1 e2 hidx HP
     have hP0:(0:Int)<=(P:Int):=by omega
     have HPQ:=hid hP
     clear hp hpN hP
     go_upto_region 8 with fail
     refine wp_region_calm_tail 11 (by kernel_rfl) (by kernel_rfl) ?_
     simp only [List.take_succ_cons,List.take_zero,List.drop_succ_cons,List.drop_zero]
     repeat (go_big_quiet_step (fail))
     refine wpQuiet_nil ?_
     rintro _ ⟨z,rfl⟩
     obtain⟨w2,hw2⟩:∃ w2,w2=z.at:=⟨_,rfl⟩
     have hz:=z.below
     rw [<-hw2] at hz ⊢
     have HS2:=hid (hst.out.after hz)
     clear hw2 z hz cb fb c3
     have hv:bits .or .u8 (B:Int) (2 ^ r % 256)=((B ||| 2 ^ r:Nat):Int):=by
      have h2:2 ^ r<256:=Nat.lt_of_lt_of_le (Nat.pow_lt_pow_right (by decide) hr) (by decide)
      have e:((2:Int) ^ r % 256)=((2 ^ r:Nat):Int):=by
       rw [Int.natCast_pow]
       have:((2 ^ r:Nat):Int)<256:=by omega
       rw [Int.natCast_pow] at this
       exact Int.emod_eq_of_lt (by have:=Int.natCast_nonneg (2 ^ r);rw [Int.natCast_pow] at this;exact this) this
      rw [e]
      exact u8_or_nat B (2 ^ r) hBl h2
     have cb:=World.rowIs.cell HS2.out.row hq
     have fb:=World.rowIs.frozen HS2.out.row q
     have HNEW:=hid (show SvAt w (w2.setCell ⟨w.heap.size+1,q,none⟩ (.int .u8 (bits .or .u8 (B:Int) (2 ^ r % 256)))) L (setTo (ofF N (K.take k)) x N (m+1)) from by
      have hs2:=HS2.out
      refine⟨hs2.below.setCell (by show w.heap.size<=w.heap.size+1;omega) _,?_,?_,?_,?_,by simpa using hs2.size⟩
      ·
       rw [hv]
       refine World.rowIs.congr (World.rowIs.set hs2.row q _) (fun j hj=>?_)
       show (if j=q then _ else _)=Value.int .u8 (byteF (setF (setTo (ofF N (K.take k)) x N m) (ptF x N m)) j:Nat)
       rw [<-HP.out,HPQ.out]
       by_cases e:j=q
       ·
        subst e
        rw [if_pos rfl,byte_set _ _ _ hr,<-HB.out]
       . rw [if_neg e,byte_other _ _ _ _ hr e]
      . have:=hs2.t3;go_simp
      . have:=hs2.t2;go_simp
      . have:=hs2.f2;go_simp)
     clear hv
     go_wp2_with fail
     go_roundw
     case rel=>exact⟨m+1,by omega,by go_num,HNEW⟩
     case measure=>simp [intOf];omega
    ·
     obtain rfl:m=4:=by omega
     have HK:=hid (show SvAt w wr L (ofF N (K.take (k+1))) from by
      have e:ofF N (K.take (k+1))=setTo (ofF N (K.take k)) x N 4:=by
       unfold ofF
       rw [List.take_add_one,HX.out,List.foldl_append]
       rfl
      rw [e];exact hst.out)
     clear hst
     go_wp2_with fail
     go_roundw
     case rel=>exact⟨k+1,by omega,by go_num,HK⟩
     case measure=>simp [intOf];omega
  ·
   obtain rfl:k=n:=by omega
   have c3:=hst.out.t3
   have c2:=hst.out.t2
   have f2:=hst.out.f2
   have hsz:=hst.out.size
   have HF:=hid (show SvAt w wr L (ofF N K) from by
    have h:=hst.out
    rw [List.take_of_length_le (by have:=HN.out;omega)] at h
    exact h)
   clear hst
   go_wp2_with fail
   have e0:(wr.setCell ⟨w.heap.size,0,none⟩ (.slice (some ⟨w.heap.size+1,0,none⟩) L L)).cell? ⟨w.heap.size,0,none⟩=some (.slice (some ⟨w.heap.size+1,0,none⟩) L L):=by go_simp
   refine bodyPost_ret (v:=.agg #[.slice (some ⟨w.heap.size+1,0,none⟩) L L]) (by simp [results,Tryz.f47,go_sem,e0]) rfl ?_
   refine⟨_,rfl,by omega,HF.out.row.setOther (by simp) _,HF.out.below.setCell (by simp) _⟩
structure SvRow (w:World) (g L:Nat) (F:Nat->Bool):Prop where
 lt:g<w.heap.size
 cell:∀ j,j<L->w.cell? ⟨g,j,none⟩=some (.int .u8 (byteF F j:Nat))
theorem SvRow.below {w w':World} {g L:Nat} {F:Nat->Bool} (h:SvRow w g L F) (hb:Below w.heap.size w w'):SvRow w' g L F:=
 ⟨Nat.lt_of_lt_of_le h.lt hb.size,fun j hj=>(hb.cell (p:=⟨g,j,none⟩) h.lt).trans (h.cell j hj)⟩
def mayTo (F:Nat->Bool) (s:ByteArray) (n:Nat):Nat->Bool
 | 0=>true
 | m+1=>mayTo F s n m && F (ptF s n m)
theorem mayF_to (F:Nat->Bool) (s:ByteArray) (n:Nat):mayF F s n=mayTo F s n 4:=by
 unfold mayF mayTo mayTo mayTo mayTo mayTo
 cases F (ptF s n 0) <;> cases F (ptF s n 1) <;> cases F (ptF s n 2) <;> cases F (ptF s n 3) <;> rfl
theorem may_false (F:Nat->Bool) (s:ByteArray) (n m:Nat) (hm:m<4) (h:F (ptF s n m)=false):mayF F s n=false:=by
 unfold mayF
 rcases m with _ | _ | _ | _ | m
 . rw [h];rfl
 . rw [h];simp
 . rw [h];simp
 . rw [h];simp
 . omega
theorem svmay_any [Inhabited Lim] (g L bc:Nat) (F:Nat->Bool) (s:ByteArray) (w:World) (hr:SvRow w g L F) (hL0:0<L) (hL1:L<=65536) (hs:s.size<=1000000) :
  Calls Tryz.prog 53 #[.agg #[.slice (some ⟨g,0,none⟩) L bc],.string s] w fun e w'=>e=.returned (.bool (mayF F s (8*L)))/\Below w.heap.size w w':=by
 obtain⟨N,hN⟩:∃ N,N=8*L:=⟨_,rfl⟩
 rw [<-hN]
 have HPL:=hid (fun (z:World)=>show Calls Tryz.prog 83 #[.agg #[.slice (some ⟨g,0,none⟩) L bc],.string s] z _ from by
  have h:=places_any s (some ⟨g,0,none⟩) L bc z hs hL0 hL1
  rw [<-hN] at h
  exact h)
 have HR:=hid hr
 have HN8:=hid hN
 have hLn:((L:Int) == 0)=false:=by simp;omega
 obtain⟨R,hR⟩:∃ b,b=mayF F s N:=⟨_,rfl⟩
 rw [<-hR]
 have HRR:=hid hR
 clear hr hN hR
 go_enter Tryz.func53,Tryz.ntmps53
 go_wp2_with fail
 have hb0:=(Below.refl _ w).alloc lr (.cells #[.slice (some ⟨g,0,none⟩) L bc] 67)
 refine (HPL.out _).mono ?_
 rintro e w1 ⟨rfl,hb1⟩
 have HB1:=hid (below_then hb0 lr hb1)
 have c2:w1.cell? ⟨w.heap.size,0,none⟩=some (.slice (some ⟨g,0,none⟩) L bc):=(hb1.cell (p:=⟨w.heap.size,0,none⟩) (by simp)).trans (by go_simp)
 have HC:=hid c2
 clear hb0 hb1 c2
 go_wp2_with fail
 go_loop [14] (fun iv=>∃ m:Nat,m<=4/\iv=.int .i64 m/\Hid (mayTo F s N m=true)) (fun iv=>4 - (intOf iv).toNat)
 case atStart=>exact⟨0,by omega,rfl,hid rfl⟩
 case round=>
  obtain⟨m,hm,rfl,hto⟩:=hrel
  by_cases hlt4:m<4
  ·
   obtain⟨p,hp⟩:∃ p,p=ptF s N m:=⟨_,rfl⟩
   have hidx:=idx_any s N m hlt4
   rw [<-hp] at hidx
   have hpN:p<8*L:=by rw [hp,<-HN8.out];exact pt_lt s N m (by have:=HN8.out;omega)
   obtain⟨q,r,hr,hpq⟩:∃ q r,r<8/\p=8*q+r:=⟨p / 8,p % 8,by omega,by omega⟩
   have hq:q<L:=by omega
   have HP:=hid hp
   have e1:(p:Int) / 8=(q:Int):=by omega
   have e2:(p:Int) % 8=(r:Int):=by omega
   obtain⟨B,hB⟩:∃ B,B=byteF F q:=⟨_,rfl⟩
   have hBl:B<256:=by rw [hB];exact byteF_lt _ _
   have cb:w1.cell? ⟨g,q,none⟩=some (.int .u8 (B:Nat)):=by rw [hB];exact (HR.out.below HB1.out).cell q hq
   have HG:=hid (show B / 2 ^ r % 2=cond (F p) 1 0 from by rw [hB,hpq];exact byte_get F q r hr)
   have c2:=HC.out
   have j2:(0:Int)<=(q:Int):=by omega
   have j3:(q:Int)<(L:Int):=by omega
   have j4:(0:Int)<=(r:Int):=by omega
   have j5:(r:Int)<8:=by omega
   have hP0:(0:Int)<=(p:Int):=by omega
   clear hp hpN hpq hB
   have ht:(bits .and .u8 ((B:Int) / 2 ^ r) 1 == 0)=!F p:=by
    have e:((B:Int) / 2 ^ r)=((B / 2 ^ r:Nat):Int):=by rw [Int.natCast_ediv,Int.natCast_pow];rfl
    have h2:B / 2 ^ r<256:=Nat.lt_of_le_of_lt (Nat.div_le_self _ _) hBl
    rw [e]
    have h3:bits .and .u8 ((B / 2 ^ r:Nat):Int) ((1:Nat):Int)=((B / 2 ^ r &&& 1:Nat):Int):=u8_and_nat (B / 2 ^ r) 1 h2 (by decide)
    rw [show (1:Int)=((1:Nat):Int) from rfl,h3,Nat.and_one_is_mod,HG.out]
    cases F p <;> rfl
   cases hf:F p
   ·
    have hres:R=false:=by rw [HRR.out];exact may_false F s N m hlt4 (by rw [<-HP.out];exact hf)
    subst hres
    rw [hf] at ht
    simp only [Bool.not_false] at ht
    clear hf
    go_wp2_with fail
    go_ret
    exact⟨rfl,HB1.out⟩
   ·
    have HTO:=hid (show mayTo F s N (m+1)=true from by
     show (mayTo F s N m && F (ptF s N m))=true
     rw [hto.out,<-HP.out,hf];rfl)
    rw [hf] at ht
    simp only [Bool.not_true] at ht
    clear hf
    go_wp2_with fail
    go_round
    case rel=>exact⟨m+1,by omega,by go_num,HTO⟩
    case measure=>simp [intOf];omega
  ·
   obtain rfl:m=4:=by omega
   have hres:R=true:=by rw [HRR.out,mayF_to];exact hto.out
   subst hres
   go_wp2_with fail
   go_ret
   exact⟨rfl,HB1.out⟩
