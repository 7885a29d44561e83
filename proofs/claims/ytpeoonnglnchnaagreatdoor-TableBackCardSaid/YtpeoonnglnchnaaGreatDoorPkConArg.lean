/- PkConArg. -/
import Derived.Test.YtpeoonnglnchnaaGreatDoorConMore
import Derived.Laws.BitsAllLaws
import Derived.Laws.Bits64
import Derived.Laws.Bits128
import Derived.Laws.AppendOwn
set_option linter.unusedSectionVars false
set_option linter.unusedSimpArgs false
set_option linter.unusedVariables false
set_option maxHeartbeats 16000000
set_option maxRecDepth 100000
namespace Go.Proofs.YtpeoonnglnchnaaGreatDoor.Mut
open Go.ChangeShapes Go.WideShapes Go.ChangeAt RowKit Go.Deep Kit YtpeoonnglnchnaaGreatDoor.Ord
variable [Inhabited Lim]
theorem rd_lst {H:Type} {enc:TypeId × Value->H} {P:Program} {W:World} {α:Type} [Inhabited α] {t e:TypeId} {sz:Nat} {en:α->List Value} {good:α->Prop} {cs:List Value} (ht:P.underlying t=some (.slice e)) (hC:P.cellsOf e=sz) (hsz:0<sz)
  (hrd:∀ cs,Rd enc P W e cs->∃ x,cs=en x/\good x) (h:Rd enc P W t cs):∃ ao cap l,cs=[.slice ao (List.length l) cap]/\Lst sz en W (.slice ao (List.length l) cap) l/\∀ x∈l,good x:=by
 rcases rd_slice ht h with rfl | ⟨a,len,cap,rfl,hl,hc,hel⟩
 . exact⟨none,0,[],rfl,Lst.nil _,by simp⟩
 rcases cells_slice (by rw [hC];omega) hl hc (Or.inr ⟨a,rfl,hel⟩) with h0 | ⟨b,off,F,h1,h2,h3,h4,h5,h6⟩
 ·
  subst h0
  exact⟨some a,cap,[],rfl,⟨some a,cap,rfl,by simp,hc,Or.inl rfl⟩,by simp⟩
 ·
  cases h1
  rw [hC] at h6
  obtain⟨q,hq⟩:=choose_lt' (α:=α) (n:=len) (p:=fun i x=>F i=en x/\good x) (fun i hi=>hrd _ (h6 i (by omega)).2.1)
  have hn:((List.range len).map q).length=len:=by simp
  refine⟨_,cap,(List.range len).map q,by rw [hn],⟨_,cap,rfl,by rw [hn];exact hl,hc,Or.inr ⟨b,off,rfl,h5,fun i x hi j hj=>?_⟩⟩,fun x hx=>?_⟩
  ·
   have hlt:i<len:=by have:=(gs0.1 hi).1;simpa using this
   have hx:q i=x:=by simpa [hlt] using hi
   rw [(h6 i (by omega)).2.2 j hj,(hq i hlt).1,hx]
  ·
   obtain⟨i,hi,rfl⟩:=List.mem_map.1 hx
   exact (hq i (List.mem_range.1 hi)).2
instance:Inhabited Stp:=⟨⟨0,0,0⟩⟩
instance:Inhabited Mu:=⟨⟨0,0,ByteArray.empty,ByteArray.empty,ByteArray.empty,0,⟨0,0,0⟩,[]⟩⟩
instance:Inhabited Ro:=⟨default,.slice none 0 0⟩
structure Sizes (m:Mu):Prop where
 key:m.key.size<=maxLen
 fin:m.fin.size<=maxLen
 val:m.val.size<=maxLen
theorem rd_stp {H:Type} {enc:TypeId × Value->H} {W:World} {cs:List Value} (h:Rd enc Tryz.prog W 39 cs):∃ s:Stp,cs=enS s/\True:=by
 obtain⟨v0,v1,v2,rfl,r0,r1,r2⟩:=rd_struct3 Tryz.underlying39 (by kernel_rfl) (by kernel_rfl) h
 obtain⟨a,rfl,_,_⟩:=rd_i64 Tryz.underlying3 r0
 obtain⟨b,rfl,_,_⟩:=rd_i64 Tryz.underlying3 r1
 obtain⟨c,rfl,_,_⟩:=rd_i64 Tryz.underlying3 r2
 exact⟨⟨a,b,c⟩,rfl,trivial⟩
theorem rd_mut {H:Type} {enc:TypeId × Value->H} {W:World} {cs:List Value} (h:Rd enc Tryz.prog W 42 cs) (hN:W.heap.size<=(default:Lim).n):∃ x:Ro,cs=enM x/\(Over W x/\Sizes x.1):=by
 obtain⟨hl,hf⟩:=rd_struct Tryz.underlying42 h
 rw [show Tryz.prog.cellsOf 42=10 by kernel_rfl] at hl
 match cs,hl with
 | [c0,c1,c2,c3,c4,c5,c6,c7,c8,c9],_=>
  have h0:Rd enc Tryz.prog W 36 (List.take (Tryz.prog.cellsOf 36) (List.drop 0 [c0,c1,c2,c3,c4,c5,c6,c7,c8,c9])):=hf 0 _ rfl
  have h1:Rd enc Tryz.prog W 37 (List.take (Tryz.prog.cellsOf 37) (List.drop 1 [c0,c1,c2,c3,c4,c5,c6,c7,c8,c9])):=hf 1 _ rfl
  have h2:Rd enc Tryz.prog W 9 (List.take (Tryz.prog.cellsOf 9) (List.drop 2 [c0,c1,c2,c3,c4,c5,c6,c7,c8,c9])):=hf 2 _ rfl
  have h3:Rd enc Tryz.prog W 9 (List.take (Tryz.prog.cellsOf 9) (List.drop 3 [c0,c1,c2,c3,c4,c5,c6,c7,c8,c9])):=hf 3 _ rfl
  have h4:Rd enc Tryz.prog W 9 (List.take (Tryz.prog.cellsOf 9) (List.drop 4 [c0,c1,c2,c3,c4,c5,c6,c7,c8,c9])):=hf 4 _ rfl
  have h5:Rd enc Tryz.prog W 3 (List.take (Tryz.prog.cellsOf 3) (List.drop 5 [c0,c1,c2,c3,c4,c5,c6,c7,c8,c9])):=hf 5 _ rfl
  have h6:Rd enc Tryz.prog W 39 (List.take (Tryz.prog.cellsOf 39) (List.drop 6 [c0,c1,c2,c3,c4,c5,c6,c7,c8,c9])):=hf 6 _ rfl
  have h7:Rd enc Tryz.prog W 40 (List.take (Tryz.prog.cellsOf 40) (List.drop 9 [c0,c1,c2,c3,c4,c5,c6,c7,c8,c9])):=hf 7 _ rfl
  simp only [show Tryz.prog.cellsOf 36=1 by kernel_rfl,show Tryz.prog.cellsOf 37=1 by kernel_rfl,show Tryz.prog.cellsOf 9=1 by kernel_rfl,show Tryz.prog.cellsOf 3=1 by kernel_rfl,show Tryz.prog.cellsOf 39=3 by kernel_rfl,show Tryz.prog.cellsOf 40=1 by kernel_rfl,
   List.drop_succ_cons,List.drop_zero,List.take_succ_cons,List.take_zero] at h0 h1 h2 h3 h4 h5 h6 h7
  obtain⟨tb,rfl,_,_⟩:=rd_i64 Tryz.underlying36 h0
  obtain⟨kd,rfl,_,_⟩:=rd_i64 Tryz.underlying37 h1
  obtain⟨key,e2,k2⟩:=rd_string Tryz.underlying9 h2
  obtain⟨fin,e3,k3⟩:=rd_string Tryz.underlying9 h3
  obtain⟨val,e4,k4⟩:=rd_string Tryz.underlying9 h4
  obtain⟨ex,rfl,_,_⟩:=rd_i64 Tryz.underlying3 h5
  obtain⟨s,e6,_⟩:=rd_stp h6
  obtain⟨ao,cap,l,e7,hlst,_⟩:=rd_lst (α:=Stp) (sz:=3) (en:=enS) (good:=fun _=>True) Tryz.underlying40 (by kernel_rfl) (by decide) (fun cs h=>rd_stp h) h7
  unfold enS at e6
  cases e2;cases e3;cases e4;cases e6;cases e7
  exact⟨(⟨tb,kd,key,fin,val,ex,s,l⟩,.slice ao l.length cap),rfl,⟨hlst,ZN.came hlst hN⟩,⟨k2,k3,k4⟩⟩
theorem arg_muts {H:Type} {enc:TypeId × Value->H} {W:World} {v:Value} (h:Arg enc Tryz.prog W 22 v) (hN:W.heap.size<=(default:Lim).n:=by exact Nat.le_refl _):∃ R:List Ro,MRow W v R/\∀ x∈R,Sizes x.1:=by
 obtain⟨ao,cap,l,rfl,h2,-,h4⟩:=arg_lst (α:=Ro) (en:=enM) (good:=fun x=>Over W x/\Sizes x.1) Tryz.underlying22 (show Tryz.prog.cellsOf 42=10 by kernel_rfl) (by decide) (fun cs hr=>rd_mut hr hN) h
 exact⟨l,⟨h2,fun x hx=>(h4 x hx).1⟩,fun x hx=>(h4 x hx).2⟩
end Go.Proofs.YtpeoonnglnchnaaGreatDoor.Mut
namespace Go.Proofs.YtpeoonnglnchnaaGreatDoor.Mrk
def low (n:Nat):List Nat:=n % 128::(if n / 128=0 then [] else low (n / 128))
termination_by n
decreasing_by omega
def hi (l:List Nat):List Nat:=l.map (·+128)
def putF (n:Nat):List Nat:=hi (low n).tail.reverse++[n % 128]
theorem low_small {n:Nat} (h:n<128):low n=[n]:=by
 rw [low,if_pos (by omega),Nat.mod_eq_of_lt h]
theorem low_big {n:Nat} (h:128<=n):low n=n % 128::low (n / 128):=by
 rw [low,if_neg (by omega)]
theorem low_ne (n:Nat):low n≠[]:=by rw [low];simp
theorem low_lt (n:Nat):∀ c∈low n,c<128:=by
 induction n using Nat.strongRecOn with
 | _ n ih=>
  rw [low]
  intro c hc
  rcases List.mem_cons.1 hc with rfl | hc
  . omega
  ·
   split at hc
   . cases hc
   . exact ih _ (by omega) c hc
theorem low_len:∀ (k n:Nat),n<128 ^ (k+1)->(low n).length<=k+1
 | 0,n,h=>by rw [low_small (by simpa using h)];simp
 | k+1,n,h=>by
  by_cases hs:n<128
  . rw [low_small hs];simp
  ·
   rw [low_big (by omega),List.length_cons]
   have:n / 128<128 ^ (k+1):=by rw [Nat.div_lt_iff_lt_mul (by decide)];rw [Nat.pow_succ] at h;exact h
   have:=low_len k (n / 128) this
   omega
theorem low_ten {n:Nat} (h:n<18446744073709551616):(low n).length<=10:=low_len 9 n (Nat.lt_of_lt_of_le h (by decide))
theorem low_head (n:Nat):(low n).head?=some (n % 128):=by rw [low];rfl
theorem putF_small {n:Nat} (h:n<128):putF n=[n]:=by
 unfold putF;rw [low_small h,Nat.mod_eq_of_lt h];rfl
theorem putF_big {n:Nat} (h:128<=n):∃ l x,putF (n / 128)=l++[x]/\putF n=l++[x+128]++[n % 128]/\x<128:=by
 refine⟨hi (low (n / 128)).tail.reverse,n / 128 % 128,rfl,?_,by omega⟩
 unfold putF
 rw [low_big h,List.tail_cons]
 congr 1
 conv=>lhs;rw [low]
 rw [List.reverse_cons]
 unfold hi
 rw [List.map_append]
 have:(if n / 128 / 128=0 then [] else low (n / 128 / 128))=(low (n / 128)).tail:=by
  conv=>rhs;rw [low]
  rfl
 rw [this]
 rfl
theorem putF_lt (n:Nat):∀ c∈putF n,c<256:=by
 intro c hc
 unfold putF hi at hc
 rw [List.mem_append,List.mem_map] at hc
 rcases hc with ⟨a,ha,rfl⟩ | hc
 ·
  have:=low_lt n a (List.mem_of_mem_tail (List.mem_reverse.1 ha))
  omega
 . have:=List.mem_singleton.1 hc;omega
theorem putF_len {n:Nat}:(putF n).length=(low n).length:=by
 unfold putF hi
 have:=List.length_pos_iff.2 (low_ne n)
 simp
 omega
end Go.Proofs.YtpeoonnglnchnaaGreatDoor.Mrk
namespace Go.Proofs.YtpeoonnglnchnaaGreatDoor.Mrk
open RowKit
abbrev enB (n:Nat):List Value:=[.int .u8 n]
theorem enB_len (n:Nat):(enB n).length=1:=rfl
abbrev BRow (w:World) (v:Value) (l:List Nat):Prop:=Lst 1 enB w v l
theorem info_B:(Tryz.prog.info? 5).map (fun i=>(i.zero,i.size,i.bytes))=some (some (.int .u8 0),1,1):=by kernel_rfl
theorem flat_enB (l:List Nat):l.flatMap enB=l.map (fun c:Nat=>Value.int .u8 c):=by induction l <;> simp_all
theorem byte_at {w:World} {ao:Option Addr} {n cap:Nat} {l:List Nat} {k:Nat} {x:Nat} (h:BRow w (.slice ao n cap) l) (hk:l[k]?=some x) :
  ∃ b off,ao=some ⟨b,off,none⟩/\b<w.heap.size/\w.cell? ⟨b,off+k,none⟩=some (.int .u8 x):=by
 obtain⟨hlt,he⟩:=gs0.1 hk
 obtain⟨b,off,ha,hb,hc⟩:=Lst.get h hlt
 have:=hc 0 (by decide)
 rw [he,Nat.mul_one] at this
 exact⟨b,off,ha,hb,this⟩
def BPost (w:World) (l:List Nat) (e:Ending) (w':World):Prop:=∃ v,e=.returned v/\w'.ownsRow w.heap.size 5 1 v l.length (l.flatMap enB)/\Below w.heap.size w w'
theorem info_parts_B:∃ i:TypeInfo,Tryz.prog.info? 5=some i/\i.zero=some (.int .u8 0)/\i.size=1/\i.bytes=1:=by
 have h:=info_B
 cases hq:Tryz.prog.info? 5 with
 | none=>simp [hq] at h
 | some i=>simp [hq] at h;exact⟨i,rfl,h.1,h.2.1,h.2.2⟩
theorem u8_nat (c:Nat) (h:c<256):IntKind.u8.wrap (c:Int)=c:=by rw [IntKind.wrap_u8'];omega
theorem or128:∀ c:Nat,c<128->c ||| 128=c+128:=by decide
end Go.Proofs.YtpeoonnglnchnaaGreatDoor.Mrk
namespace Go.Proofs.YtpeoonnglnchnaaGreatDoor.Mrk
open Go.Lib (hid)
open RowKit
theorem refput_small (n:Nat) (w:World) (h:n<128):Calls Tryz.prog 60 #[.int .i64 n] w (BPost w (putF n)):=by
 have e3:=u8_nat n (by omega)
 rw [putF_small h]
 go_enter Tryz.func60,Tryz.ntmps60
 go_wp2_with fail
 go_ret
 exact⟨_,rfl,World.ownsRow_lit w #[.int .u8 n] 1 lr (by decide) rfl,br.alloc lr _⟩
theorem refput_big (n:Nat) (w:World) (h:128<=n) (hn:n<9223372036854775808) (hc:Calls Tryz.prog 60 #[.int .i64 (n / 128:Nat)] w (BPost w (putF (n / 128)))) :
  Calls Tryz.prog 60 #[.int .i64 n] w (BPost w (putF n)):=by
 obtain⟨i0,hi,hz0,hz1,hz2⟩:=info_parts_B
 have HI:=hid hi
 have HZ0:=hid hz0
 have HZ1:=hid hz1
 have HZ2:=hid hz2
 obtain⟨l,x,h1,h2,h3⟩:=putF_big h
 have hlen:l.length<=10:=by
  have:=putF_len (n:=n / 128)
  rw [h1] at this
  have:=low_ten (n:=n / 128) (by omega)
  simp at *;omega
 rw [h1] at hc
 obtain⟨q,hq⟩:∃ q,q=n / 128:=⟨_,rfl⟩
 obtain⟨c,hcc⟩:∃ c,c=n % 128:=⟨_,rfl⟩
 obtain⟨p,hp⟩:∃ p,p=l.length:=⟨_,rfl⟩
 rw [<-hq] at hc
 rw [<-hcc] at h2
 have e1:(n:Int) / 128=(q:Int):=by omega
 have e2:(n:Int) % 128=(c:Int):=by omega
 have e3:=u8_nat c (by omega)
 have e4:IntKind.u8.wrap ((x:Int)+128)=((x+128:Nat):Int):=by have:=u8_nat (x+128) (by omega);rw [<-this];rfl
 obtain⟨x',hx'⟩:∃ x',x'=x+128:=⟨_,rfl⟩
 rw [<-hx'] at e4 h2
 have hp1:IntKind.i64.wrap (((p+1:Nat):Int) - 1)=(p:Int):=by rw [IntWalk.i64_in _ (by omega)];omega
 have hp2:IntKind.i64.wrap ((p:Int)+1 - 1)=(p:Int):=by rw [IntWalk.i64_in _ (by omega)];omega
 rw [h2]
 have HC:=hid hc
 have HP:=hid hp
 have hp10:p<=10:=by omega
 clear hc hp hq hcc h1 h2 hlen hx' hi hz0 hz1 hz2
 go_enter Tryz.func60,Tryz.ntmps60
 go_wp2_with fail
 refine HC.out.mono ?_
 rintro e w1 ⟨v,rfl,hown0,hb1⟩
 have hown:w1.ownsRow w.heap.size 5 1 v (p+1) ((l++[x]).flatMap enB):=by have h:=hown0;rw [la0,<-HP.out] at h;exact h
 obtain⟨g,cap,rfl,hg1,hg2⟩:=World.ownsRow.form hown (by omega)
 obtain⟨ho2,hgr⟩:=hown.stored p (.int .u8 x')
 have hcl:=hown.cellAt p (by omega)
 have hfz:=hown.frozenAt p
 have hat:((l++[x]).flatMap enB)[p]?=some (.int .u8 x):=by
  rw [flat_enB,List.getElem?_map,List.getElem?_append_right (by have:=HP.out;omega)]
  have:p - l.length=0:=by have:=HP.out;omega
  rw [this];rfl
 rw [hat] at hcl
 have hset:((l++[x]).flatMap enB).set p (.int .u8 x')=(l++[x']).flatMap enB:=by
  rw [flat_enB,flat_enB,List.map_append,List.map_append,List.set_append_right _ _ (by rw [lm0,<-HP.out];omega)]
  have:p - (l.map fun c:Nat=>Value.int .u8 c).length=0:=by rw [lm0,<-HP.out];omega
  rw [this];rfl
 rw [hset] at ho2
 obtain⟨w2,hw2⟩:∃ w2,w2=w1.setCell ⟨g,p,none⟩ (.int .u8 x'):=⟨_,rfl⟩
 rw [<-hw2] at ho2 hgr
 have hb2:Below w.heap.size w w2:=below_row hb1 lr hg1 hgr
 have HW2:=hid hw2
 have HO:=hid ho2
 have hsw:=hb2.size
 clear hown hown0 hat hset hgr
 go_upto_region 7 with fail
 rw [<-hw2]
 clear hcl hfz hw2
 go_wp2_with (at_builtin;refine wpList_append_own _ rfl _ _ 31 rfl w.heap.size 5 i0 (.int .u8 0) 1 1 Tryz.underlying31 HI.out HZ0.out HZ1.out HZ2.out rfl (by decide) (.slice (some ⟨g,0,none⟩) (p+1) cap) _ _ rfl (HO.out.alloc _) ⟨_,0,none⟩ 1 1 (enB c) rfl rfl ?c1 ?c2 ?c3 ?c4 ?c5 ?_)
 case c1=>exact new_cells _ (enB c) _
 case c2=>intro u hu;simp at hu;subst hu;rfl
 case c3=>unfold maxLen;omega
 case c4=>omega
 case c5=>simp;omega
 intro v' w3 hown3 hgrow3 _
 have hbl3:Below w.heap.size w w3:=(hb2.alloc hsw _).grown hgrow3 (by simp;omega) (fun k hk=>(World.ownsRow.lt HO.out k hk).1)
 rcases hown3.2 with ⟨_,h00⟩ | ⟨gg,gc,cur,rfl,hrest⟩
 . omega
 have R:=hid hown3
 clear hown3 hgrow3 hrest
 go_wp2_with fail
 go_ret
 refine⟨_,rfl,?_,hbl3⟩
 have h:=R.out
 have e1:(l++[x']++[c]).length=p+1+1:=by simp [HP.out]
 have e2:(l++[x']++[c]).flatMap enB=l.flatMap enB++Value.int .u8 x'::enB c:=by simp
 have h':w3.ownsRow w.heap.size 5 1 (.slice (some ⟨gg,0,none⟩) (p+1+1) gc) (l++[x']++[c]).length ((l++[x']++[c]).flatMap enB):=by rw [e1,e2];exact h
 exact h'
theorem refput_any (n:Nat):∀ (w:World),n<9223372036854775808->Calls Tryz.prog 60 #[.int .i64 n] w (BPost w (putF n)):=by
 induction n using Nat.strongRecOn with
 | _ n ih=>
  intro w hn
  by_cases h:n<128
  . exact refput_small n w h
  . exact refput_big n w (by omega) hn (ih (n / 128) (by omega) w (by omega))
end Go.Proofs.YtpeoonnglnchnaaGreatDoor.Mrk
namespace Go.Proofs.YtpeoonnglnchnaaGreatDoor.Mrk
open RowKit
theorem row_of {w:World} {base:Nat} {v:Value} {l:List Nat} (h:w.ownsRow base 5 1 v l.length (l.flatMap enB)):BRow w v l:=Lst.owned enB_len (by decide) rfl h
theorem putF_ten {n:Nat} (h:n<18446744073709551616):(putF n).length<=10:=by rw [putF_len];exact low_ten h
end Go.Proofs.YtpeoonnglnchnaaGreatDoor.Mrk
namespace Go.Proofs.YtpeoonnglnchnaaGreatDoor.Mut
open Go.Lib (hid)
open RowKit Mrk
def s1 (a r:Nat):Nat:=((a ^^^ r)*16777619) % 4294967296
def s2 (b r:Nat):Nat:=(b*33+r) % 4294967296
def s1F (a:Nat) (l:List Nat):Nat:=l.foldl s1 a
def s2F (b:Nat) (l:List Nat):Nat:=l.foldl s2 b
theorem s1_lt (a r:Nat):s1 a r<4294967296:=by unfold s1;omega
theorem s2_lt (a r:Nat):s2 a r<4294967296:=by unfold s2;omega
theorem s1F_lt {a:Nat} (h:a<4294967296):∀ l,s1F a l<4294967296
 | []=>h
 | r::l=>s1F_lt (a:=s1 a r) (s1_lt a r) l
theorem s2F_lt {a:Nat} (h:a<4294967296):∀ l,s2F a l<4294967296
 | []=>h
 | r::l=>s2F_lt (a:=s2 a r) (s2_lt a r) l
def sumA (s:ByteArray):Nat:=s1F 2166136261 ((runesOf s).map Int.toNat) ^^^ (s1F 2166136261 ((runesOf s).map Int.toNat) / 8192)
def sumB (s:ByteArray):Nat:=s2F 5381 ((runesOf s).map Int.toNat) ||| 1
theorem xor_lt (a b:Nat) (ha:a<4294967296) (hb:b<4294967296):a ^^^ b<4294967296:=Nat.xor_lt_two_pow (n:=32) ha hb
theorem or_lt (a b:Nat) (ha:a<4294967296) (hb:b<4294967296):a ||| b<4294967296:=Nat.or_lt_two_pow (n:=32) ha hb
theorem sumA_lt (s:ByteArray):sumA s<4294967296:=by
 have h:=s1F_lt (a:=2166136261) (by decide) ((runesOf s).map Int.toNat)
 exact xor_lt _ _ h (by omega)
theorem sumB_lt (s:ByteArray):sumB s<4294967296:=or_lt _ _ (s2F_lt (a:=5381) (by decide) _) (by decide)
theorem or_one (b:Nat):b ||| 1=if b % 2=0 then b+1 else b:=by
 apply Nat.eq_of_testBit_eq
 intro i
 rw [Nat.testBit_or]
 split
 ·
  rename_i h
  cases i with
  | zero=>simp [Nat.testBit_zero];omega
  | succ i=>
   rw [Nat.testBit_succ,Nat.testBit_succ,Nat.testBit_succ,show (b+1) / 2=b / 2 by omega]
   simp
 ·
  rename_i h
  cases i with
  | zero=>simp [Nat.testBit_zero];omega
  | succ i=>rw [Nat.testBit_succ,Nat.testBit_succ];simp
theorem runes_cons (s:ByteArray) (f:Nat) {pos:Nat} (h:pos<s.size):(runesFrom s (f+1) pos).map Int.toNat=(Utf8.decode s pos).1::(runesFrom s f (pos+(Utf8.decode s pos).2)).map Int.toNat:=by
 rw [runesFrom_step s f h,List.map_cons]
 rfl
theorem rune_le (s:ByteArray) {pos:Nat} (h:pos<s.size):(Utf8.decode s pos).1<=2147483647:=by
 have:=runesFrom_bound s 1 pos ((Utf8.decode s pos).1:Int) (by rw [runesFrom_step s 0 h];exact List.mem_cons_self ..)
 omega
theorem u32_nat (n:Nat) (h:n<4294967296):IntKind.u32.wrap (n:Int)=n:=by rw [IntKind.wrap_u32];omega
theorem step1_eq (a r:Nat) (ha:a<4294967296) (hr:r<4294967296):IntKind.u32.wrap (bits .xor .u32 (a:Int) (r:Int)*16777619)=((s1 a r:Nat):Int):=by
 rw [u32_xor_nat a r ha hr,IntKind.wrap_u32]
 unfold s1
 omega
theorem step2_eq (b r:Nat):((b:Int)*33 % 4294967296+(r:Int)) % 4294967296=((s2 b r:Nat):Int):=by
 unfold s2
 omega
theorem step2_eq' (b r:Nat):(33*(b:Int) % 4294967296+(r:Int)) % 4294967296=((s2 b r:Nat):Int):=by
 unfold s2
 omega
theorem sum_any (s:ByteArray) (w:World) (hs:s.size<=1000000):Calls Tryz.prog 115 #[.string s] w fun e w'=>e=.returned (.tuple #[.int .u32 (sumA s:Nat),.int .u32 (sumB s:Nat)])/\Below w.heap.size w w':=by
 obtain⟨L,hL⟩:∃ L,L=s1F 2166136261 ((runesOf s).map Int.toNat):=⟨_,rfl⟩
 obtain⟨M,hM⟩:∃ L,L=s2F 5381 ((runesOf s).map Int.toNat):=⟨_,rfl⟩
 have hA:sumA s=L ^^^ (L / 8192):=by rw [hL];rfl
 have hB:sumB s=M ||| 1:=by rw [hM];rfl
 rw [hA,hB]
 have HL:=hid hL
 have HM:=hid hM
 have hLl:L<4294967296:=by rw [hL];exact s1F_lt (by decide) _
 have hMl:M<4294967296:=by rw [hM];exact s2F_lt (by decide) _
 have hx1:bits .xor .u32 (L:Int) ((L:Int) / 8192)=((L ^^^ (L / 8192):Nat):Int):=by
  rw [show (L:Int) / 8192=((L / 8192:Nat):Int) by omega]
  exact u32_xor_nat L (L / 8192) hLl (by omega)
 have hx2:bits .or .u32 (M:Int) 1=((M ||| 1:Nat):Int):=u32_or_nat M 1 hMl (by decide)
 have HX1:=hid hx1
 have HX2:=hid hx2
 clear hL hM hA hB hx1 hx2
 go_enter Tryz.func115,Tryz.ntmps115
 go_wp2_with fail
 go_loopw [4,5] (fun av bv wr=>∃ (pos fuel a b:Nat),wr.heap[w.heap.size]?=some (.stringIter s pos)/\Hid (Below w.heap.size w wr)/\av=.int .u32 a/\bv=.int .u32 b/\a<4294967296/\b<4294967296 /\
  Hid (s1F a ((runesFrom s fuel pos).map Int.toNat)=L/\s2F b ((runesFrom s fuel pos).map Int.toNat)=M)/\s.size<=pos+fuel) (fun _ _ wr=>s.size - wr.iterPos w.heap.size)
 case atStart=>exact⟨0,s.size,_,_,World.iter_heap w s 0,hid (br.alloc lr _),rfl,rfl,by decide,by decide,hid ⟨HL.out.symm,HM.out.symm⟩,by omega⟩
 case round=>
  obtain⟨pos,fuel,a,b,hit,hB,rfl,rfl,ha,hb,hon,hf⟩:=hrel
  have hpos0:=iter_pos hit
  by_cases hp:pos<s.size
  ·
   have hnx:∀ ty,(Instr.next (.pointer (some ⟨w.heap.size,0,none⟩)) true ty).run Tryz.prog wr=_:=fun ty=>Lib.run_next_any_at wr w.heap.size s pos ty hit hp
   have hwd:=width_pos s pos hp
   obtain⟨fuel,rfl⟩:∃ f',fuel=f'+1:=⟨fuel - 1,by omega⟩
   have hst:=runes_cons s fuel hp
   have hrl:=rune_le s hp
   obtain⟨W1,hW1⟩:∃ W1,W1=wr.iterAt w.heap.size s (pos+(Utf8.decode s pos).2):=⟨_,rfl⟩
   have hit2:W1.heap[w.heap.size]?=some (.stringIter s (pos+(Utf8.decode s pos).2)):=by rw [hW1];exact Lib.iterAt_heap wr w.heap.size s pos _ hit
   have hB1:Below w.heap.size w W1:=by rw [hW1];exact Lib.below_iterAt hB.out lr s _
   rw [<-hW1] at hnx
   have hon2:=hon.out
   rw [hst] at hon2
   have hlt2:pos<pos+(Utf8.decode s pos).2:=by omega
   generalize (Utf8.decode s pos).1=r at *
   generalize pos+(Utf8.decode s pos).2=pos2 at *
   have HI2:=hid hit2
   have HB1:=hid hB1
   have HP0:=hid hpos0
   have hu:=u32_nat r (by omega)
   have hstep:=step1_eq a r ha (by omega)
   have hstep2:=step2_eq b r
   have hz:=s1_lt a r
   have hz2:=s2_lt b r
   obtain⟨z,hze⟩:∃ z,z=s1 a r:=⟨_,rfl⟩
   obtain⟨y,hye⟩:∃ y,y=s2 b r:=⟨_,rfl⟩
   have HON:=hid (show s1F z ((runesFrom s fuel pos2).map Int.toNat)=L/\s2F y ((runesFrom s fuel pos2).map Int.toNat)=M from by rw [hze,hye];exact hon2)
   rw [<-hze] at hstep hz
   rw [<-hye] at hstep2 hz2
   have HS2:=hid hstep2
   clear hW1 hit hB hit2 hB1 hst hwd hpos0 hon hon2 hze hye hstep2
   go_wp2_with fail
   go_roundw
   case rel=>exact⟨pos2,fuel,z,y,HI2.out,HB1,rfl,congrArg (Value.int .u32) HS2.out,hz,hz2,HON,by omega⟩
   case measure=>rw [iter_pos HI2.out,HP0.out];omega
  ·
   have hnx:∀ ty,(Instr.next (.pointer (some ⟨w.heap.size,0,none⟩)) true ty).run Tryz.prog wr=_:=fun ty=>Lib.run_next_end_at wr w.heap.size s pos ty hit hp
   have hh:a=L/\b=M:=by have h:=hon.out;rw [runesFrom_end s fuel hp] at h;exact h
   obtain⟨rfl,rfl⟩:=hh
   have hx1:=HX1.out
   have hx2:=HX2.out
   clear hit hpos0 hon
   go_wp2_with fail
   go_ret2
   exact⟨by rfl,hB.out⟩
end Go.Proofs.YtpeoonnglnchnaaGreatDoor.Mut
namespace Go.Proofs.YtpeoonnglnchnaaGreatDoor.Spare
open Go RowKit
structure Spare (w:World) (base:Nat) (e:TypeId) (zs:List Value) (v:Value) (n:Nat) (xs:List Value):Prop where
 own:w.ownsRow base e zs.length v n xs
 rest:∀ g m cap o u,v=.slice (some ⟨g,0,none⟩) m cap->n*zs.length<=o->w.cell? ⟨g,o,none⟩=some u->zs[o % zs.length]?=some u
def Kept (w w':World) (zs:List Value) (v:Value) (n:Nat):Prop:=∀ b o u,w.cell? ⟨b,o,none⟩=some u->w'.cell? ⟨b,o,none⟩=some u\/(v.ownBlock=some b/\n*zs.length<=o/\zs[o % zs.length]?=some u)
def SpareLoc (w:World) (v v':Value):Prop:=∀ g,v'.ownBlock=some g->v.ownBlock=some g\/w.heap.size<=g
theorem Spare.nil (w:World) (base:Nat) (e:TypeId) (zs:List Value):Spare w base e zs (.slice none 0 0) 0 []:=⟨World.ownsRow_nil _ _ _ _,fun g m cap o u h=>by cases h⟩
theorem zeroCells_get (zc:Array Value) (k j:Nat) (u:Value) (h:(Builtin.zeroCells zc k)[j]?=some u):zc[j % zc.size]?=some u:=by
 obtain⟨hj,he⟩:=ag0.1 h
 simp only [Builtin.zeroCells,Array.size_map,Array.size_range] at hj
 simp only [Builtin.zeroCells,Array.getElem_map,Array.getElem_range] at he
 have hpos:0<zc.size:=by
  rcases Nat.eq_zero_or_pos zc.size with h0 | h0
  . rw [h0,Nat.mul_zero] at hj;omega
  . exact h0
 have hlt:=Nat.mod_lt j hpos
 rw [getElem!_pos zc _ hlt] at he
 rw [Array.getElem?_eq_getElem hlt,he]
section
variable {P : Program}
theorem fresh_spare (w:World) (base:Nat) (e:TypeId) (zs:List Value) (hpos:0<zs.length) (n cap:Nat) (xs:List Value) (hx:xs.length=n*zs.length) (hc:n<=cap) (hm:cap<=maxLen) (hb:base<=w.heap.size) :
  Spare (w.alloc (.cells (xs.toArray++Builtin.zeroCells zs.toArray (cap - n)) e)) base e zs (.slice (some ⟨w.heap.size,0,none⟩) n cap) n xs:=by
 refine⟨⟨hx,.inr ⟨w.heap.size,cap,_,rfl,hb,heap_alloc_new w _,hc,hm,?_,?_⟩⟩,fun g m c o u hv ho hcell=>?_⟩
 ·
  simp only [Array.size_append,List.size_toArray,size_zeroCells,hx,<-Nat.add_mul]
  congr 1
  omega
 ·
  simp only [Array.toList_append]
  rw [<-hx]
  exact List.take_left
 ·
  cases hv
  rw [cell_of_row _ _ _ _ _ _ (heap_alloc_new w _),Array.getElem?_append] at hcell
  simp only [List.size_toArray,hx] at hcell
  rw [if_neg (by omega)] at hcell
  have h1:=zeroCells_get _ _ _ _ hcell
  simp only [List.size_toArray,List.getElem?_toArray] at h1
  rw [<-h1]
  congr 1
  have:o=n*zs.length+(o - n*zs.length):=by omega
  rw [this,Nat.add_sub_cancel_left,Nat.add_comm,Nat.add_mul_mod_self_right]
theorem run_append_spare (w:World) (base:Nat) (t ty e:TypeId) (i:TypeInfo) (z:Value) (zs:List Value) (bytes:Nat) (ht:P.underlying t=some (.slice e)) (hi:P.info? e=some i) (hz:i.zero=some z)
  (hzc:z.cells=zs.toArray) (hsize:i.size=zs.length) (hby:i.bytes=bytes) (hpos:0<zs.length)
  (v:Value) (n:Nat) (xs:List Value) (hs:Spare w base e zs v n xs)
  (a:Addr) (m c:Nat) (news:List Value) (hm0:0<m\/v≠.slice none 0 0) (hl:news.length=m*zs.length) (hnews:∀ j u,news[j]?=some u->w.cell? (a.add j)=some u) (h1:∀ u∈news,u.oneCell'=true)
  (h63:n+m<=maxLen) (hbytes:(n+m)*bytes<=140737488355328) (hbase:base<=w.heap.size) :
  ∃ v' w',(Builtin.append_ #[t,t] ty #[v,.slice (some a) m c]).run P w=.ok v' w'/\Spare w' base e zs v' (n+m) (xs++news)/\w.grownBy w' v.ownBlock/\Kept w w' zs v n/\SpareLoc w v v':=by
 subst hby
 have hsmall:n+m<=9223372036854775807:=by simp only [maxLen] at h63;omega
 have hown:=hs.own
 have hlen:(xs++news).length=(n+m)*zs.length:=by rw [la0,hown.1,hl,Nat.add_mul]
 have anew:∀ (old:Nat),∃ w',w'=w.drew.alloc (.cells ((xs++news).toArray++Builtin.zeroCells zs.toArray (grownCap w (n+m) old e - (n+m))) e) /\
   Spare w' base e zs (.slice (some ⟨w.heap.size,0,none⟩) (n+m) (grownCap w (n+m) old e)) (n+m) (xs++news)/\w.grownBy w' v.ownBlock/\Kept w w' zs v n/\SpareLoc w v (.slice (some ⟨w.heap.size,0,none⟩) (n+m) (grownCap w (n+m) old e)):=fun old=>
  ⟨_,rfl,fresh_spare w.drew base e zs hpos (n+m) _ (xs++news) hlen (grownCap_ge w (n+m) old e) (grownCap_le_maxLen w (n+m) old e h63) hbase,
   ⟨rfl,rfl,rfl,by simp,fun k hk _=>heap_alloc_old w.drew _ hk⟩,
   fun b o u hc=>.inl ((World.cell?_of_block (a:=⟨b,o,none⟩) (heap_alloc_old w.drew _ (World.block_lt_of_cell? w ⟨b,o,none⟩ hc))).trans hc),fun g hg=>.inr (by simp [Value.ownBlock] at hg;omega)⟩
 rcases hown.2 with ⟨rfl,rfl⟩ | ⟨g,cap,cur,rfl,hbg,hg,hnc,hcm,hcs,htake⟩
 ·
  have hx:xs=[]:=List.eq_nil_of_length_eq_zero (by simpa using hown.1)
  subst hx
  have hr:=run_append_nil (P:=P) w t ty e i z ht hi hz a m c news (by rw [hsize];exact hl) hnews (hm0.elim id fun h=>absurd rfl h) (by omega) (by have hb:=hbytes;rw [Nat.zero_add] at hb;omega)
  obtain⟨w',hw,q1,q2,q3,q4⟩:=anew 0
  refine⟨_,w',?_,q1,q2,q3,q4⟩
  rw [hr,hw,hzc]
  simp only [Nat.zero_add,List.nil_append]
 ·
  by_cases hroom:n+m<=cap
  ·
   have hfit:n*zs.length+news.length<=cur.size:=by rw [hl,hcs,<-Nat.add_mul];exact Nat.mul_le_mul_right _ hroom
   have hr:=run_append_room (P:=P) w t ty e i ht hi g n cap cur hg a m c news (by rw [hsize];exact hl) hnews h1 hroom (by rw [hsize];exact hfit)
   rw [hsize] at hr
   have hnew:=setRow_heap w g cur (cur.toList.take (n*zs.length)++news++cur.toList.drop (n*zs.length+news.length)).toArray e (0,0) hg
   have htl:(cur.toList.take (n*zs.length)).length=n*zs.length:=by rw [List.length_take,Array.length_toList];exact Nat.min_eq_left (Nat.le_trans (Nat.le_add_right _ _) hfit)
   refine⟨_,_,hr,⟨⟨hlen,.inr ⟨g,cap,_,rfl,hbg,hnew,hroom,hcm,?_,?_⟩⟩,fun g' m' c' o u hv ho hcell=>?_⟩,⟨rfl,rfl,rfl,by simp [World.setRow],fun k _ hk=>setRow_other w g k _ (fun e=>hk (by simp [Value.ownBlock,e]))⟩,fun b o u hc=>?_,fun g hg=>.inl hg⟩
   ·
    simp only [List.size_toArray,la0,List.length_take,List.length_drop,Array.length_toList]
    omega
   ·
    rw [htake,<-hlen]
    exact List.take_left
   ·
    cases hv
    rw [cell_of_row _ _ _ _ _ _ hnew] at hcell
    simp only [List.getElem?_toArray] at hcell
    rw [List.getElem?_append_right (by rw [la0,htl,hl,<-Nat.add_mul];exact ho),List.getElem?_drop,la0,htl] at hcell
    have ho2:(n+m)*zs.length=n*zs.length+news.length:=by rw [hl,<-Nat.add_mul]
    rw [show n*zs.length+news.length+(o - (n*zs.length+news.length))=o by omega] at hcell
    exact hs.rest g n cap o u rfl (by omega) (by rw [cell_of_row _ _ _ _ _ _ hg];simpa using hcell)
   ·
    by_cases hbg2:b=g
    ·
     subst hbg2
     by_cases ho:o<n*zs.length
     ·
      refine .inl ?_
      rw [cell_of_row _ _ _ _ _ _ hnew]
      rw [cell_of_row _ _ _ _ _ _ hg] at hc
      simp only [List.getElem?_toArray]
      rw [List.append_assoc,List.getElem?_append_left (by omega),List.getElem?_take,if_pos ho]
      simpa using hc
     . exact .inr ⟨rfl,by omega,hs.rest b n cap o u rfl (by omega) hc⟩
    . exact .inl ((World.cell?_of_block (a:=⟨b,o,none⟩) (setRow_other w g b _ hbg2)).trans hc)
  ·
   have holds:∀ j u,xs[j]?=some u->w.cell? ((⟨g,0,none⟩:Addr).add j)=some u:=hown.cells (g:=g) rfl
   have hr:=run_append_grow (P:=P) w t ty e i z ht hi hz ⟨g,0,none⟩ n cap xs (by rw [hsize];exact hown.1) holds a m c news (by rw [hsize];exact hl) hnews (by omega) (by omega) (growslice_fits (by omega) hbytes)
   obtain⟨w',hw,q1,q2,q3,q4⟩:=anew cap
   refine⟨_,w',?_,q1,q2,q3,q4⟩
   rw [hr,hw,hzc]
   simp only [List.append_toArray]
end
