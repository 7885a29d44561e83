/- PkTabTx. -/
import Derived.Test.YtpeoonnglnchnaaGreatDoorPkAppendLoc
set_option linter.unusedSectionVars false
set_option linter.unusedSimpArgs false
set_option linter.unusedVariables false
set_option maxHeartbeats 16000000
set_option maxRecDepth 100000
namespace Go.Proofs.YtpeoonnglnchnaaGreatDoor.Mut
open RowKit Go.Sort Go.Shelf YtpeoonnglnchnaaGreatDoor.Ord YtpeoonnglnchnaaGreatDoor.Spare
variable [Inhabited Lim]
abbrev enTx (s:ByteArray):List Value:=[.string s]
abbrev TxRow (w:World) (v:Value) (l:List ByteArray):Prop:=Lst 1 enTx w v l
theorem str_at {w:World} {ao:Option Addr} {n cap:Nat} {l:List ByteArray} {k:Nat} {x:ByteArray} (h:TxRow w (.slice ao n cap) l) (hk:l[k]?=some x) :
  ∃ b off,ao=some ⟨b,off,none⟩/\b<w.heap.size/\w.cell? ⟨b,off+k,none⟩=some (.string x):=by
 obtain⟨hlt,he⟩:=gs0.1 hk
 obtain⟨b,off,ha,hb,hc⟩:=Lst.get h hlt
 have:=hc 0 (by decide)
 rw [he,Nat.mul_one] at this
 exact⟨b,off,ha,hb,this⟩
theorem flat_enS:∀ l:List ByteArray,l.flatMap enTx=l.map Value.string
 | []=>rfl
 | x::t=>by rw [List.flatMap_cons,List.map_cons,flat_enS t];rfl
theorem info_T:(Tryz.prog.info? 9).map (fun i=>(i.zero,i.size,i.bytes))=some (some (.string ByteArray.empty),1,16):=by kernel_rfl
theorem info_parts_T:∃ i:TypeInfo,Tryz.prog.info? 9=some i/\i.zero=some (.string ByteArray.empty)/\i.size=1/\i.bytes=16:=by
 have h:=info_T
 cases hq:Tryz.prog.info? 9 with
 | none=>simp [hq] at h
 | some i=>simp [hq] at h;exact⟨i,rfl,h.1,h.2.1,h.2.2⟩
def OwnT (w:World) (base:Nat) (v:Value) (l:List ByteArray):Prop:=w.ownsRow base 9 1 v l.length (l.flatMap enTx)
theorem enTx_len (x:ByteArray):(enTx x).length=1:=rfl
theorem OwnT.row {w:World} {base:Nat} {v:Value} {l:List ByteArray} (h:OwnT w base v l):TxRow w v l:=Lst.owned enTx_len (by decide) rfl h
theorem flat_enT_len (l:List ByteArray):(l.flatMap enTx).length=l.length:=by rw [flat_enS,lm0]
theorem news_one {w:World} {g:Nat} {k:ByteArray} (h:w.cell? ⟨g,0,none⟩=some (.string k)):∀ (j:Nat) (u:Value),([Value.string k]:List Value)[j]?=some u->w.cell? ((⟨g,0,none⟩:Addr).add j)=some u:=by
 intro j u hu
 cases j with
 | zero=>simp at hu;subst hu;rw [addr_add];exact h
 | succ j=>simp at hu
theorem new_cell (w:World) (x:Value) (t:TypeId):(w.alloc (.cells #[x] t)).cell? ⟨w.heap.size,0,none⟩=some x:=by
 have h:=new_cells w [x] t 0 x rfl
 rw [addr_add] at h
 exact h
end Go.Proofs.YtpeoonnglnchnaaGreatDoor.Mut
namespace Go.Proofs.YtpeoonnglnchnaaGreatDoor.Mut
open Go.Lib (hid)
open RowKit Mrk YtpeoonnglnchnaaGreatDoor.Spare
def ptF (s:ByteArray) (n i:Nat):Nat:=((sumA s+i*sumB s) % 4294967296) % n
def ptsF (s:ByteArray) (n:Nat):List Nat:=[ptF s n 0,ptF s n 1,ptF s n 2,ptF s n 3]
abbrev enN (n:Nat):List Value:=[.int .i64 (n:Nat)]
theorem info_I2:∃ i:TypeInfo,Tryz.prog.info? 3=some i/\i.zero=some (.int .i64 0)/\i.size=1/\i.bytes=8:=by
 have h:(Tryz.prog.info? 3).map (fun i=>(i.zero,i.size,i.bytes))=some (some (.int .i64 0),1,8):=by kernel_rfl
 cases hq:Tryz.prog.info? 3 with
 | none=>simp [hq] at h
 | some i=>simp [hq] at h;exact⟨i,rfl,h.1,h.2.1,h.2.2⟩
theorem pt_int (a b n k:Nat):(((a:Int)+(k:Int)*(b:Int)) % 4294967296) % (n:Int)=((((a+k*b) % 4294967296) % n:Nat):Int):=by
 rw [Int.natCast_emod,Int.natCast_emod,Int.natCast_add,Int.natCast_mul]
 rfl
theorem new_cellN (w:World) (x:Value) (t:TypeId):∀ (j:Nat) (u:Value),([x]:List Value)[j]?=some u->(w.alloc (.cells #[x] t)).cell? ((⟨w.heap.size,0,none⟩:Addr).add j)=some u:=new_cells w [x] t
def OwnN (w:World) (base:Nat) (v:Value) (l:List Nat):Prop:=w.ownsRow base 3 1 v l.length (l.flatMap enN)
theorem bits_any (s:ByteArray) (N:Nat) (w:World) (hs:s.size<=1000000) (hN:0<N) (hN2:N<=524288):Calls Tryz.prog 97 #[.string s,.int .i64 N] w fun e w'=>∃ v',e=.returned v'/\OwnN w' w.heap.size v' (ptsF s N)/\Below w.heap.size w w':=by
 obtain⟨G,C,hcv,hG,hC⟩:=runes_row (P:=Tryz.prog) 9 150 21 s Tryz.underlying9 Tryz.underlying150 Tryz.underlying21 (by omega)
 have hln:=runesOf_len s
 have hbd:=runesOf_bound s
 obtain⟨P1,hP1⟩:∃ L,L=s1F 2166136261 ((runesOf s).map Int.toNat):=⟨_,rfl⟩
 obtain⟨P2,hP2⟩:∃ L,L=s2F 5381 ((runesOf s).map Int.toNat):=⟨_,rfl⟩
 have hA:sumA s=P1 ^^^ (P1 / 8192):=by rw [hP1];rfl
 have hB:sumB s=if P2 % 2=0 then P2+1 else P2:=by rw [hP2,<-or_one];rfl
 have hl1:P1<4294967296:=by rw [hP1];exact s1F_lt (by decide) _
 have hl2:P2<4294967296:=by rw [hP2];exact s2F_lt (by decide) _
 obtain⟨A0,hA0⟩:∃ a,a=sumA s:=⟨_,rfl⟩
 obtain⟨B0,hB0⟩:∃ a,a=sumB s:=⟨_,rfl⟩
 have hAl:A0<4294967296:=by rw [hA0];exact sumA_lt s
 have hBl:B0<4294967296:=by rw [hB0];exact sumB_lt s
 rw [<-hA0] at hA
 rw [<-hB0] at hB
 have hx1:bits .xor .u32 (P1:Int) ((P1:Int) / 8192)=(A0:Int):=by
  rw [show (P1:Int) / 8192=((P1 / 8192:Nat):Int) by omega,hA]
  exact u32_xor_nat P1 (P1 / 8192) hl1 (by omega)
 have HX1:=hid hx1
 have HB:=hid hB
 have HPT:=hid (show ptsF s N=[((A0+0*B0) % 4294967296) % N,((A0+1*B0) % 4294967296) % N,((A0+2*B0) % 4294967296) % N,((A0+3*B0) % 4294967296) % N] from by
  unfold ptsF ptF;rw [hA0,hB0])
 obtain⟨PT,hPT⟩:∃ l,l=ptsF s N:=⟨_,rfl⟩
 rw [<-hPT] at HPT ⊢
 obtain⟨n,hn⟩:∃ n,n=(runesOf s).length:=⟨_,rfl⟩
 obtain⟨L,hL⟩:∃ L,L=runesOf s:=⟨_,rfl⟩
 rw [<-hL] at hC hcv hn hG hbd hln hP1 hP2
 rw [<-hn] at hcv hG hln
 have HG:=hid hG
 have HC:=hid hC
 have HN:=hid hn
 have HBD:=hid hbd
 have HP:=hid (And.intro hP1 hP2)
 obtain⟨i0,hI⟩:=info_I2
 have HI:=hid hI
 clear hG hC hn hL hbd hP1 hP2 hA hB hx1 hA0 hB0 hPT hI
 have hnm:n<=1000000:=by omega
 go_enter Tryz.func97,Tryz.ntmps97
 obtain⟨W1,hW1⟩:∃ W1,W1=(w.alloc (.cells (C w) 21)).drew:=⟨_,rfl⟩
 have HW1:=hid hW1
 have HB1:=hid (show Below w.heap.size w W1 from by rw [hW1];exact (br.alloc lr _).drew)
 have HCL:=hid (show ∀ (i:Nat) (x:Int),L[i]?=some x->W1.cell? ⟨w.heap.size,i,none⟩=some (.int .i32 x) from fun i x hx=>by
  rw [hW1]
  have:=HC.out w i x hx
  go_simp)
 have hgl:w.heap.size<W1.heap.size:=by rw [hW1];simp
 have HGL:=hid (HG.out w)
 obtain⟨gc,hgc⟩:∃ g,g=G w:=⟨_,rfl⟩
 clear hW1
 go_wp2_with fail
 rw [<-HW1.out,<-hgc]
 rw [<-hgc] at HGL
 clear HW1 hcv HG HC hgc
 go_loop [5,6,8] (fun av bv iv=>∃ (k a b:Nat),iv=.int .i64 k/\av=.int .u32 a/\bv=.int .u32 b/\k<=n/\a<4294967296/\b<4294967296/\Hid (s1F a ((L.drop k).map Int.toNat)=P1/\s2F b ((L.drop k).map Int.toNat)=P2)) (fun _ _ iv=>n - (intOf iv).toNat)
 case atStart=>exact⟨0,_,_,rfl,rfl,rfl,by omega,by decide,by decide,hid (by rw [List.drop_zero];exact⟨HP.out.1.symm,HP.out.2.symm⟩)⟩
 case round=>
  obtain⟨k,a,b,rfl,rfl,rfl,hkn,ha,hb,hs⟩:=hrel
  by_cases hlt:k<n
  ·
   have hkl:k<L.length:=by have:=HN.out;omega
   obtain⟨c,hc⟩:∃ c,L[k]?=some c:=⟨_,ge0 hkl⟩
   have hcell:=HCL.out k c hc
   obtain⟨hb0,hb1⟩:=HBD.out c (mg0 hc)
   obtain⟨r,rfl⟩:∃ r:Nat,c=(r:Int):=⟨c.toNat,by omega⟩
   have hu:=u32_nat r (by omega)
   have hstep:=step1_eq a r ha (by omega)
   have HS2:=hid (step2_eq' b r)
   have HS:=hid (show s1F (s1 a r) ((L.drop (k+1)).map Int.toNat)=P1/\s2F (s2 b r) ((L.drop (k+1)).map Int.toNat)=P2 from by
    have h:=hs.out
    rw [dg0 hkl] at h
    have e:L[k]=(r:Int):=(gs0.1 hc).2
    rw [e,List.map_cons] at h
    exact h)
   have hz:=s1_lt a r
   have hz2:=s2_lt b r
   obtain⟨z,hze⟩:∃ z,z=s1 a r:=⟨_,rfl⟩
   obtain⟨y,hye⟩:∃ z,z=s2 b r:=⟨_,rfl⟩
   rw [<-hze] at hstep HS hz
   rw [<-hye] at HS2 HS hz2
   clear hc hs hze hye
   have hgc:=HGL.out.1
   go_wp2_with fail
   go_round
   case rel=>exact⟨k+1,z,y,by go_num,rfl,congrArg (Value.int .u32) HS2.out,by omega,hz,hz2,HS⟩
   case measure=>simp [intOf];omega
  ·
   obtain rfl:k=n:=by omega
   have he:a=P1/\b=P2:=by have h:=hs.out;rw [List.drop_of_length_le (by have:=HN.out;omega)] at h;exact h
   obtain⟨rfl,rfl⟩:=he
   have hx1:=HX1.out
   clear hs
   have hN0:¬ ((N:Int)=0):=by omega
   have huN:IntKind.u32.wrap (N:Int)=N:=u32_nat N (by omega)
   have hNN:0<=(N:Int)/\(N:Int)<4294967296:=by omega
   rcases Nat.mod_two_eq_zero_or_one b with h2 | h2
   ·
    have hq:(b:Int) % 2=0:=by omega
    have HQ:=hid (show (b:Int)+1=(B0:Int) from by have:=HB.out;rw [if_pos h2] at this;omega)
    have hw:IntKind.u32.wrap ((b:Int)+1)=(B0:Int):=by rw [HQ.out];exact u32_nat B0 hBl
    clear h2
    go_wp2_with fail
    clear hw hq hx1
    go_loopw [9,10] (fun ov iv wr=>∃ (m:Nat) (oo:Option Addr) (oc:Nat),m<=4/\iv=.int .i64 m/\ov=.slice oo m oc/\Hid (wr.ownsRow w.heap.size 3 1 (.slice oo m oc) m ((PT.take m).flatMap enN))/\Hid (Below w.heap.size w wr)) (fun _ iv _=>4 - (intOf iv).toNat)
    case atStart=>exact⟨0,none,0,by omega,rfl,rfl,hid (World.ownsRow_nil _ _ _ _),HB1⟩
    case round=>
     obtain⟨m,oo,oc,hm,rfl,rfl,ho,hbw⟩:=hrel
     by_cases hlt:m<4
     ·
      have hpt:=pt_int A0 B0 N m
      obtain⟨q,hq⟩:∃ q,q=(A0+m*B0) % 4294967296 % N:=⟨_,rfl⟩
      have hqN:q<N:=by rw [hq];exact Nat.mod_lt _ (by omega)
      have HT:=hid (show (PT.take (m+1)).flatMap enN=(PT.take m).flatMap enN++[.int .i64 (q:Int)] from by
       rw [hq,HPT.out]
       rcases m with _ | _ | _ | _ | m
       . simp
       . simp
       . simp
       . simp
       . omega)
      rw [<-hq] at hpt
      have HW64:=hid (show wrap64 (((A0:Int)+(m:Int)*(B0:Int)) % 4294967296 % (N:Int))=q from by rw [hpt];unfold wrap64;omega)
      have hum:IntKind.u32.wrap (m:Int)=m:=u32_nat m (by omega)
      clear hq hpt
      go_wp2_with (at_builtin;refine wpList_append_own_loc rfl _ _ 123 rfl w.heap.size 3 i0 (.int .i64 0) [.int .i64 0] 8 Tryz.underlying123 HI.out.1 HI.out.2.1 rfl HI.out.2.2.1 HI.out.2.2.2 (by decide) (.slice oo m oc) m ((PT.take m).flatMap enN) rfl (ho.out.alloc _) ⟨_,0,none⟩ 1 1 [.int .i64 (wrap64 (((A0:Int)+(m:Int)*(B0:Int)) % 4294967296 % (N:Int)))] rfl (by decide) rfl (new_cellN _ _ _) (by intro u hu;simp at hu;subst hu;rfl) (by unfold maxLen;omega) (by omega) (by have:=hbw.out.size;simp;omega) ?_)
      intro v1 w2 g1 g2 g3
      obtain⟨o1,c1,rfl⟩:∃ o1 c1,v1=.slice o1 (m+1) c1:=by
       rcases g1.2 with ⟨h1,h0⟩ | ⟨g,cap,cur,h1,_⟩
       . omega
       . exact⟨_,_,h1⟩
      have HB3:=hid (show Below w.heap.size w w2 from (hbw.out.alloc hbw.out.size _).grown g2 (by have:=hbw.out.size;simp;omega) (fun q hq=>(World.ownsRow.lt ho.out q hq).1))
      have HO3:=hid (show w2.ownsRow w.heap.size 3 1 (.slice o1 (m+1) c1) (m+1) ((PT.take (m+1)).flatMap enN) from by rw [HT.out,<-HW64.out];exact g1)
      clear g1 g2 g3
      go_wp2_with fail
      go_roundw
      case rel=>exact⟨m+1,o1,c1,by omega,by go_num,rfl,HO3,HB3⟩
      case measure=>simp [intOf];omega
     ·
      obtain rfl:m=4:=by omega
      have HF:=hid (show OwnN wr w.heap.size (.slice oo 4 oc) PT from by
       have h:=ho.out
       have e:PT.length=4:=by rw [HPT.out];rfl
       rw [List.take_of_length_le (by rw [e];exact Nat.le_refl _)] at h
       unfold OwnN
       rw [e];exact h)
      go_wp2_with fail
      go_ret
      exact⟨_,rfl,HF.out,hbw.out⟩
   ·
    have hq:(b:Int) % 2=1:=by omega
    obtain rfl:B0=b:=by have:=HB.out;rw [if_neg (by omega)] at this;exact this
    clear h2
    go_wp2_with fail
    clear hq hx1
    go_loopw [9,10] (fun ov iv wr=>∃ (m:Nat) (oo:Option Addr) (oc:Nat),m<=4/\iv=.int .i64 m/\ov=.slice oo m oc/\Hid (wr.ownsRow w.heap.size 3 1 (.slice oo m oc) m ((PT.take m).flatMap enN))/\Hid (Below w.heap.size w wr)) (fun _ iv _=>4 - (intOf iv).toNat)
    case atStart=>exact⟨0,none,0,by omega,rfl,rfl,hid (World.ownsRow_nil _ _ _ _),HB1⟩
    case round=>
     obtain⟨m,oo,oc,hm,rfl,rfl,ho,hbw⟩:=hrel
     by_cases hlt:m<4
     ·
      have hpt:=pt_int A0 B0 N m
      obtain⟨q,hq⟩:∃ q,q=(A0+m*B0) % 4294967296 % N:=⟨_,rfl⟩
      have hqN:q<N:=by rw [hq];exact Nat.mod_lt _ (by omega)
      have HT:=hid (show (PT.take (m+1)).flatMap enN=(PT.take m).flatMap enN++[.int .i64 (q:Int)] from by
       rw [hq,HPT.out]
       rcases m with _ | _ | _ | _ | m
       . simp
       . simp
       . simp
       . simp
       . omega)
      rw [<-hq] at hpt
      have HW64:=hid (show wrap64 (((A0:Int)+(m:Int)*(B0:Int)) % 4294967296 % (N:Int))=q from by rw [hpt];unfold wrap64;omega)
      have hum:IntKind.u32.wrap (m:Int)=m:=u32_nat m (by omega)
      clear hq hpt
      go_wp2_with (at_builtin;refine wpList_append_own_loc rfl _ _ 123 rfl w.heap.size 3 i0 (.int .i64 0) [.int .i64 0] 8 Tryz.underlying123 HI.out.1 HI.out.2.1 rfl HI.out.2.2.1 HI.out.2.2.2 (by decide) (.slice oo m oc) m ((PT.take m).flatMap enN) rfl (ho.out.alloc _) ⟨_,0,none⟩ 1 1 [.int .i64 (wrap64 (((A0:Int)+(m:Int)*(B0:Int)) % 4294967296 % (N:Int)))] rfl (by decide) rfl (new_cellN _ _ _) (by intro u hu;simp at hu;subst hu;rfl) (by unfold maxLen;omega) (by omega) (by have:=hbw.out.size;simp;omega) ?_)
      intro v1 w2 g1 g2 g3
      obtain⟨o1,c1,rfl⟩:∃ o1 c1,v1=.slice o1 (m+1) c1:=by
       rcases g1.2 with ⟨h1,h0⟩ | ⟨g,cap,cur,h1,_⟩
       . omega
       . exact⟨_,_,h1⟩
      have HB3:=hid (show Below w.heap.size w w2 from (hbw.out.alloc hbw.out.size _).grown g2 (by have:=hbw.out.size;simp;omega) (fun q hq=>(World.ownsRow.lt ho.out q hq).1))
      have HO3:=hid (show w2.ownsRow w.heap.size 3 1 (.slice o1 (m+1) c1) (m+1) ((PT.take (m+1)).flatMap enN) from by rw [HT.out,<-HW64.out];exact g1)
      clear g1 g2 g3
      go_wp2_with fail
      go_roundw
      case rel=>exact⟨m+1,o1,c1,by omega,by go_num,rfl,HO3,HB3⟩
      case measure=>simp [intOf];omega
     ·
      obtain rfl:m=4:=by omega
      have HF:=hid (show OwnN wr w.heap.size (.slice oo 4 oc) PT from by
       have h:=ho.out
       have e:PT.length=4:=by rw [HPT.out];rfl
       rw [List.take_of_length_le (by rw [e];exact Nat.le_refl _)] at h
       unfold OwnN
       rw [e];exact h)
      go_wp2_with fail
      go_ret
      exact⟨_,rfl,HF.out,hbw.out⟩
structure A4 (w:World) (k:Nat) (a b c d:Value):Prop where
 lt:k<w.heap.size
 c0:w.cell? ⟨k,0,none⟩=some a
 c1:w.cell? ⟨k,1,none⟩=some b
 c2:w.cell? ⟨k,2,none⟩=some c
 c3:w.cell? ⟨k,3,none⟩=some d
 f0:w.frozen? ⟨k,0,none⟩=false
 f1:w.frozen? ⟨k,1,none⟩=false
 f2:w.frozen? ⟨k,2,none⟩=false
 f3:w.frozen? ⟨k,3,none⟩=false
theorem A4.below {w w':World} {k:Nat} {a b c d:Value} (h:A4 w k a b c d) (hb:Below w.heap.size w w'):A4 w' k a b c d:=by
 have e:∀ o,w'.cell? ⟨k,o,none⟩=w.cell? ⟨k,o,none⟩:=fun o=>hb.cell (p:=⟨k,o,none⟩) h.lt
 have f:∀ o,w'.frozen? ⟨k,o,none⟩=w.frozen? ⟨k,o,none⟩:=fun o=>hb.frozen (p:=⟨k,o,none⟩) h.lt
 obtain⟨h0,h1,h2,h3,h4,h5,h6,h7,h8⟩:=h
 exact⟨Nat.lt_of_lt_of_le h0 hb.size,(e _).trans h1,(e _).trans h2,(e _).trans h3,(e _).trans h4,(f _).trans h5,(f _).trans h6,(f _).trans h7,(f _).trans h8⟩
theorem A4.new (w:World) (t:TypeId) (a b c d:Value):A4 (w.alloc (.cells #[a,b,c,d] t)) w.heap.size a b c d:=
 ⟨by simp,by go_simp,by go_simp,by go_simp,by go_simp,by go_simp,by go_simp,by go_simp,by go_simp⟩
theorem A4.set0 {w:World} {k:Nat} {a b c d:Value} (h:A4 w k a b c d) (x:Value):A4 (w.setCell ⟨k,0,none⟩ x) k x b c d:=by
 obtain⟨h0,h1,h2,h3,h4,h5,h6,h7,h8⟩:=h
 exact⟨by simpa using h0,by go_simp,by go_simp,by go_simp,by go_simp,by go_simp,by go_simp,by go_simp,by go_simp⟩
theorem A4.set1 {w:World} {k:Nat} {a b c d:Value} (h:A4 w k a b c d) (x:Value):A4 (w.setCell ⟨k,1,none⟩ x) k a x c d:=by
 obtain⟨h0,h1,h2,h3,h4,h5,h6,h7,h8⟩:=h
 exact⟨by simpa using h0,by go_simp,by go_simp,by go_simp,by go_simp,by go_simp,by go_simp,by go_simp,by go_simp⟩
theorem A4.set2 {w:World} {k:Nat} {a b c d:Value} (h:A4 w k a b c d) (x:Value):A4 (w.setCell ⟨k,2,none⟩ x) k a b x d:=by
 obtain⟨h0,h1,h2,h3,h4,h5,h6,h7,h8⟩:=h
 exact⟨by simpa using h0,by go_simp,by go_simp,by go_simp,by go_simp,by go_simp,by go_simp,by go_simp,by go_simp⟩
theorem A4.set3 {w:World} {k:Nat} {a b c d:Value} (h:A4 w k a b c d) (x:Value):A4 (w.setCell ⟨k,3,none⟩ x) k a b c x:=by
 obtain⟨h0,h1,h2,h3,h4,h5,h6,h7,h8⟩:=h
 exact⟨by simpa using h0,by go_simp,by go_simp,by go_simp,by go_simp,by go_simp,by go_simp,by go_simp,by go_simp⟩
theorem A4.other {w:World} {k g o:Nat} {a b c d:Value} (h:A4 w k a b c d) (hk:k≠g) (x:Value):A4 (w.setCell ⟨g,o,none⟩ x) k a b c d:=by
 obtain⟨h0,h1,h2,h3,h4,h5,h6,h7,h8⟩:=h
 exact⟨by simpa using h0,by go_simp,by go_simp,by go_simp,by go_simp,by go_simp,by go_simp,by go_simp,by go_simp⟩
theorem A4.cast {w:World} {k:Nat} {a b c d a' b' c' d':Value} (h:A4 w k a b c d) (e0:a=a') (e1:b=b') (e2:c=c') (e3:d=d'):A4 w k a' b' c' d':=by
 subst e0 e1 e2 e3;exact h
def arrF (s:ByteArray) (n m j:Nat):Value:=.int .i64 (if j<m then (ptF s n j:Int) else 0)
theorem places_any (s:ByteArray) (bo:Option Addr) (L bc:Nat) (w:World) (hs:s.size<=1000000) (hL:0<L) (hL2:L<=65536) :
  Calls Tryz.prog 83 #[.agg #[.slice bo L bc],.string s] w fun e w'=>e=.returned (.agg #[.int .i64 (ptF s (8*L) 0:Nat),.int .i64 (ptF s (8*L) 1:Nat),.int .i64 (ptF s (8*L) 2:Nat),.int .i64 (ptF s (8*L) 3:Nat)])/\Below w.heap.size w w':=by
 have HS:=hid (fun (z:World)=>sum_any s z hs)
 obtain⟨A0,hA0⟩:∃ a,a=sumA s:=⟨_,rfl⟩
 obtain⟨B0,hB0⟩:∃ a,a=sumB s:=⟨_,rfl⟩
 have hAl:A0<4294967296:=by rw [hA0];exact sumA_lt s
 have hBl:B0<4294967296:=by rw [hB0];exact sumB_lt s
 rw [<-hA0,<-hB0] at HS
 obtain⟨N,hN⟩:∃ N,N=8*L:=⟨_,rfl⟩
 have HPT:=hid (show ∀ i,ptF s N i=((A0+i*B0) % 4294967296) % N from fun i=>by unfold ptF;rw [hA0,hB0])
 rw [<-hN]
 have hNi:(8:Int)*(L:Int)=(N:Int):=by omega
 have hN0:0<N:=by omega
 have hN1:N<=524288:=by omega
 clear hA0 hB0 hN
 go_enter Tryz.func83,Tryz.ntmps83
 go_wp2_with fail
 have hb0:=(((Below.refl _ w).alloc lr (.cells #[.slice bo L bc] 67)).alloc (by simp) (.cells #[.int .i64 0,.int .i64 0,.int .i64 0,.int .i64 0] 114)).alloc (by simp;omega) (.cells #[.int .i64 0,.int .i64 0,.int .i64 0,.int .i64 0] 114)
 have hA5:A4 (((w.alloc (.cells #[.slice bo L bc] 67)).alloc (.cells #[.int .i64 0,.int .i64 0,.int .i64 0,.int .i64 0] 114)).alloc (.cells #[.int .i64 0,.int .i64 0,.int .i64 0,.int .i64 0] 114)) (w.heap.size+1+1) (.int .i64 0) (.int .i64 0) (.int .i64 0) (.int .i64 0):=by
  have h:=A4.new ((w.alloc (.cells #[.slice bo L bc] 67)).alloc (.cells #[.int .i64 0,.int .i64 0,.int .i64 0,.int .i64 0] 114)) 114 (.int .i64 0) (.int .i64 0) (.int .i64 0) (.int .i64 0)
  simpa using h
 have hA4:A4 (((w.alloc (.cells #[.slice bo L bc] 67)).alloc (.cells #[.int .i64 0,.int .i64 0,.int .i64 0,.int .i64 0] 114)).alloc (.cells #[.int .i64 0,.int .i64 0,.int .i64 0,.int .i64 0] 114)) (w.heap.size+1) (.int .i64 0) (.int .i64 0) (.int .i64 0) (.int .i64 0):=by
  have h:=(A4.new (w.alloc (.cells #[.slice bo L bc] 67)) 114 (.int .i64 0) (.int .i64 0) (.int .i64 0) (.int .i64 0)).below (br.alloc lr (.cells #[.int .i64 0,.int .i64 0,.int .i64 0,.int .i64 0] 114))
  simpa using h
 have hF:(((w.alloc (.cells #[.slice bo L bc] 67)).alloc (.cells #[.int .i64 0,.int .i64 0,.int .i64 0,.int .i64 0] 114)).alloc (.cells #[.int .i64 0,.int .i64 0,.int .i64 0,.int .i64 0] 114)).cell? ⟨w.heap.size,0,none⟩=some (.slice bo L bc):=by go_simp
 refine (HS.out _).mono ?_
 rintro e w1 ⟨rfl,hb1⟩
 have HB1:=hid (below_then hb0 lr hb1)
 have HA5:=hid (hA5.below hb1)
 have HA4:=hid (hA4.below hb1)
 have hf1:w1.cell? ⟨w.heap.size,0,none⟩=some (.slice bo L bc):=(hb1.cell (p:=⟨w.heap.size,0,none⟩) (by simp;omega)).trans hF
 clear hb0 hb1 hA5 hA4 hF
 have huN:IntKind.u32.wrap (N:Int)=N:=u32_nat N (by omega)
 go_wp2_with fail
 go_loopw [6,20] (fun av iv wr=>∃ (m a:Nat),m<=4/\iv=.int .i64 m/\av=.int .u32 a/\a<4294967296/\Hid (a=(A0+m*B0) % 4294967296)/\Hid (A4 wr (w.heap.size+1+1) (arrF s N m 0) (arrF s N m 1) (arrF s N m 2) (arrF s N m 3))/\Hid (A4 wr (w.heap.size+1) (.int .i64 0) (.int .i64 0) (.int .i64 0) (.int .i64 0))/\Hid (Below w.heap.size w wr)) (fun _ iv _=>4 - (intOf iv).toNat)
 case atStart=>exact⟨0,A0,by omega,rfl,rfl,hAl,hid (by omega),HA5,HA4,HB1⟩
 case round=>
  obtain⟨m,a,hm,rfl,rfl,ha,hae,hA5,hA4,hB⟩:=hrel
  by_cases hlt:m<4
  ·
   have hN0':¬ ((N:Int)=0):=by omega
   have HAn:=hid (show ((a:Int)+(B0:Int)) % 4294967296=(((A0+(m+1)*B0) % 4294967296:Nat):Int) from by
    rw [hae.out]
    have:A0+(m+1)*B0=(A0+m*B0)+B0:=by rw [Nat.add_mul,Nat.one_mul];omega
    rw [this];omega)
   obtain⟨a2,ha2⟩:∃ a2,a2=(A0+(m+1)*B0) % 4294967296:=⟨_,rfl⟩
   have ha2l:a2<4294967296:=by rw [ha2];exact Nat.mod_lt _ (by decide)
   have HA2:=hid ha2
   rw [<-ha2] at HAn
   have HP:=hid (show wrap64 ((a:Int) % (N:Int))=(ptF s N m:Int) from by
    have h:(a:Int) % (N:Int)=(ptF s N m:Int):=by rw [HPT.out,<-hae.out];exact (Int.natCast_emod a N).symm
    have h2:ptF s N m<N:=by rw [HPT.out];exact Nat.mod_lt _ hN0
    rw [h];unfold wrap64;omega)
   have hA5':=hA5.out
   obtain⟨h0,h1,h2,h3,h4,h5,h6,h7,h8⟩:=hA5'
   have hne:w.heap.size+1≠w.heap.size+1+1:=by omega
   clear ha2
   rcases m with _ | _ | _ | _ | m
   ·
    go_wp2_with fail
    go_roundw
    case rel=>exact⟨1,a2,by omega,by go_num,congrArg (Value.int .u32) HAn.out,ha2l,HA2,hid ((hA5.out.set0 _).cast (by rw [HP.out];simp [arrF]) (by simp [arrF]) (by simp [arrF]) (by simp [arrF])),hid (hA4.out.other hne _),hid (hB.out.setCell (by simp;omega) _)⟩
    case measure=>simp [intOf]
   ·
    go_wp2_with fail
    go_roundw
    case rel=>exact⟨2,a2,by omega,by go_num,congrArg (Value.int .u32) HAn.out,ha2l,HA2,hid ((hA5.out.set1 _).cast (by simp [arrF]) (by rw [HP.out];simp [arrF]) (by simp [arrF]) (by simp [arrF])),hid (hA4.out.other hne _),hid (hB.out.setCell (by simp;omega) _)⟩
    case measure=>simp [intOf]
   ·
    go_wp2_with fail
    go_roundw
    case rel=>exact⟨3,a2,by omega,by go_num,congrArg (Value.int .u32) HAn.out,ha2l,HA2,hid ((hA5.out.set2 _).cast (by simp [arrF]) (by simp [arrF]) (by rw [HP.out];simp [arrF]) (by simp [arrF])),hid (hA4.out.other hne _),hid (hB.out.setCell (by simp;omega) _)⟩
    case measure=>simp [intOf]
   ·
    go_wp2_with fail
    go_roundw
    case rel=>exact⟨4,a2,by omega,by go_num,congrArg (Value.int .u32) HAn.out,ha2l,HA2,hid ((hA5.out.set3 _).cast (by simp [arrF]) (by simp [arrF]) (by simp [arrF]) (by rw [HP.out];simp [arrF])),hid (hA4.out.other hne _),hid (hB.out.setCell (by simp;omega) _)⟩
    case measure=>simp [intOf]
   . omega
  ·
   obtain rfl:m=4:=by omega
   obtain⟨h0,h1,h2,h3,h4,h5,h6,h7,h8⟩:=hA5.out
   obtain⟨g0,g1,g2,g3,g4,g5,g6,g7,g8⟩:=hA4.out
   have HE:=hid (show arrF s N 4 0=.int .i64 (ptF s N 0:Nat)/\arrF s N 4 1=.int .i64 (ptF s N 1:Nat)/\arrF s N 4 2=.int .i64 (ptF s N 2:Nat)/\arrF s N 4 3=.int .i64 (ptF s N 3:Nat) from ⟨by simp [arrF],by simp [arrF],by simp [arrF],by simp [arrF]⟩)
   rw [HE.out.1] at h1
   rw [HE.out.2.1] at h2
   rw [HE.out.2.2.1] at h3
   rw [HE.out.2.2.2] at h4
   go_wp2_with fail
   obtain⟨-,e0,e1,e2,e3,-⟩:=(((hA4.out.set0 (.int .i64 (ptF s N 0:Nat))).set1 (.int .i64 (ptF s N 1:Nat))).set2 (.int .i64 (ptF s N 2:Nat))).set3 (.int .i64 (ptF s N 3:Nat))
   refine bodyPost_ret (v:=.agg #[.int .i64 (ptF s N 0:Nat),.int .i64 (ptF s N 1:Nat),.int .i64 (ptF s N 2:Nat),.int .i64 (ptF s N 3:Nat)]) (by simp [results,Tryz.f83,go_sem,e0,e1,e2,e3]) rfl ?_
   exact⟨rfl,(((hB.out.setCell (by simp) _).setCell (by simp) _).setCell (by simp) _).setCell (by simp) _⟩
