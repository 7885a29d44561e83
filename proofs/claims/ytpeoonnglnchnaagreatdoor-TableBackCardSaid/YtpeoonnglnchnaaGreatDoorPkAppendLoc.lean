/- PkAppendLoc. -/
import Derived.Test.YtpeoonnglnchnaaGreatDoorPkConArg
import Derived.Lib.AppendStr
import Derived.Maps.Range
set_option linter.unusedSimpArgs false
set_option linter.unusedVariables false
set_option maxHeartbeats 16000000
set_option maxRecDepth 100000
namespace Go.Proofs.YtpeoonnglnchnaaGreatDoor.Spare
open Go RowKit Go.Lib
section
variable {P : Program}
theorem run_append_own_loc (w:World) (base:Nat) (t ty e:TypeId) (i:TypeInfo) (z:Value) (zs:List Value) (bytes:Nat) (ht:P.underlying t=some (.slice e)) (hi:P.info? e=some i) (hz:i.zero=some z)
  (hzc:z.cells=zs.toArray) (hsize:i.size=zs.length) (hby:i.bytes=bytes) (hpos:0<zs.length)
  (v:Value) (n:Nat) (xs:List Value) (hown:w.ownsRow base e zs.length v n xs)
  (a:Addr) (m c:Nat) (news:List Value) (hm0:0<m) (hl:news.length=m*zs.length) (hnews:∀ j u,news[j]?=some u->w.cell? (a.add j)=some u) (h1:∀ u∈news,u.oneCell'=true)
  (h63:n+m<=maxLen) (hbytes:(n+m)*bytes<=140737488355328) (hbase:base<=w.heap.size) :
  ∃ v' w',(Builtin.append_ #[t,t] ty #[v,.slice (some a) m c]).run P w=.ok v' w'/\w'.ownsRow base e zs.length v' (n+m) (xs++news)/\w.grownBy w' v.ownBlock/\SpareLoc w v v':=by
 subst hby
 have hsmall:n+m<=9223372036854775807:=by simp only [maxLen] at h63;omega
 have hlen:(xs++news).length=(n+m)*zs.length:=by rw [la0,hown.1,hl,Nat.add_mul]
 have anew:∀ (old:Nat),∃ w',w'=w.drew.alloc (.cells ((xs++news).toArray++Builtin.zeroCells zs.toArray (grownCap w (n+m) old e - (n+m))) e) /\
   w'.ownsRow base e zs.length (.slice (some ⟨w.heap.size,0,none⟩) (n+m) (grownCap w (n+m) old e)) (n+m) (xs++news)/\w.grownBy w' v.ownBlock/\SpareLoc w v (.slice (some ⟨w.heap.size,0,none⟩) (n+m) (grownCap w (n+m) old e)):=fun old=>
  ⟨_,rfl,(fresh_spare w.drew base e zs hpos (n+m) _ (xs++news) hlen (grownCap_ge w (n+m) old e) (grownCap_le_maxLen w (n+m) old e h63) hbase).own,
   ⟨rfl,rfl,rfl,by simp,fun k hk _=>heap_alloc_old w.drew _ hk⟩,fun g hg=>.inr (by simp [Value.ownBlock] at hg;omega)⟩
 rcases hown.2 with ⟨rfl,rfl⟩ | ⟨g,cap,cur,rfl,hbg,hg,hnc,hcm,hcs,htake⟩
 ·
  have hx:xs=[]:=List.eq_nil_of_length_eq_zero (by simpa using hown.1)
  subst hx
  have hr:=run_append_nil (P:=P) w t ty e i z ht hi hz a m c news (by rw [hsize];exact hl) hnews hm0 (by omega) (by have hb:=hbytes;rw [Nat.zero_add] at hb;omega)
  obtain⟨w',hw,q1,q2,q4⟩:=anew 0
  refine⟨_,w',?_,q1,q2,q4⟩
  rw [hr,hw,hzc]
  simp only [Nat.zero_add,List.nil_append]
 ·
  by_cases hroom:n+m<=cap
  ·
   have hfit:n*zs.length+news.length<=cur.size:=by rw [hl,hcs,<-Nat.add_mul];exact Nat.mul_le_mul_right _ hroom
   have hr:=run_append_room (P:=P) w t ty e i ht hi g n cap cur hg a m c news (by rw [hsize];exact hl) hnews h1 hroom (by rw [hsize];exact hfit)
   rw [hsize] at hr
   have hnew:=setRow_heap w g cur (cur.toList.take (n*zs.length)++news++cur.toList.drop (n*zs.length+news.length)).toArray e (0,0) hg
   refine⟨_,_,hr,⟨hlen,.inr ⟨g,cap,_,rfl,hbg,hnew,hroom,hcm,?_,?_⟩⟩,⟨rfl,rfl,rfl,by simp [World.setRow],fun k _ hk=>setRow_other w g k _ (fun e=>hk (by simp [Value.ownBlock,e]))⟩,fun g hg=>.inl hg⟩
   ·
    simp only [List.size_toArray,la0,List.length_take,List.length_drop,Array.length_toList]
    omega
   ·
    rw [htake,<-hlen]
    exact List.take_left
  ·
   have holds:∀ j u,xs[j]?=some u->w.cell? ((⟨g,0,none⟩:Addr).add j)=some u:=hown.cells (g:=g) rfl
   have hr:=run_append_grow (P:=P) w t ty e i z ht hi hz ⟨g,0,none⟩ n cap xs (by rw [hsize];exact hown.1) holds a m c news (by rw [hsize];exact hl) hnews (by omega) (by omega) (growslice_fits (by omega) hbytes)
   obtain⟨w',hw,q1,q2,q4⟩:=anew cap
   refine⟨_,w',?_,q1,q2,q4⟩
   rw [hr,hw,hzc]
   simp only [List.append_toArray]
theorem wpList_append_own_loc {w:World} {ops:Array Oper} {rest:List Oper} {o:Oper} {a:Act} {Q:Exit->Act->World->Prop} (hgd:o.guard=none) (s x:Operand) (t:TypeId)
  (ho:o.op=.call { callee:=.builtin .append,args:=#[s,x],argTypes:=#[t,t] })
  (base:Nat) (e:TypeId) (i:TypeInfo) (z:Value) (zs:List Value) (bytes:Nat) (ht:P.underlying t=some (.slice e)) (hi:P.info? e=some i) (hz:i.zero=some z)
  (hzc:z.cells=zs.toArray) (hsize:i.size=zs.length) (hby:i.bytes=bytes) (hpos:0<zs.length)
  (v:Value) (n:Nat) (xs:List Value) (hs:a.eval s=v) (hown:w.ownsRow base e zs.length v n xs)
  (ad:Addr) (m c:Nat) (news:List Value) (hx:a.eval x=.slice (some ad) m c) (hm0:0<m) (hl:news.length=m*zs.length) (hnews:∀ j u,news[j]?=some u->w.cell? (ad.add j)=some u) (h1:∀ u∈news,u.oneCell'=true)
  (h63:n+m<=maxLen) (hbytes:(n+m)*bytes<=140737488355328) (hbase:base<=w.heap.size)
  (h:∀ v' w',w'.ownsRow base e zs.length v' (n+m) (xs++news)->w.grownBy w' v.ownBlock->SpareLoc w v v'->wpList P ops Q rest (a.put o.dst v') w'):wpList P ops Q (o::rest) a w:=by
 refine wpList_plain hgd fun K hK=>?_
 obtain⟨v',w',hr,q1,q2,q4⟩:=run_append_own_loc (P:=P) w base t o.type e i z zs bytes ht hi hz hzc hsize hby hpos v n xs hown ad m c news hm0 hl hnews h1 h63 hbytes hbase
 unfold Oper.wp execOp
 simp only [ho,resolve,invoke,builtin,Sem.run_bind,Sem.run_pure,Result.andThen_ok,List.map_toArray,List.map_cons,List.map_nil,hs,hx,hr]
 exact hK _ _ (h v' w' q1 q2 q4)
theorem run_append_string_loc (w:World) (base:Nat) (t u ty e:TypeId) (i:TypeInfo) (ht:P.underlying t=some (.slice e)) (hu:P.underlying u=some .string) (hi:P.info? e=some i) (hz:i.zero=some (.int .u8 0))
  (hsize:i.size=1) (hby:i.bytes=1)
  (v:Value) (n:Nat) (xs:List Value) (hown:w.ownsRow base e 1 v n xs) (s:ByteArray)
  (h63:n+s.size<=maxLen) (hbytes:n+s.size<=140737488355328) (hbase:base<=w.heap.size) :
  ∃ v' w',(Builtin.append_ #[t,u] ty #[v,.string s]).run P w=.ok v' w'/\w'.ownsRow base e 1 v' (n+s.size) (xs++strCells s)/\w.grownBy w' v.ownBlock/\SpareLoc w v v':=by
 have hsmall:n+s.size<=9223372036854775807:=by simp only [maxLen] at h63;omega
 have hxl:xs.length=n:=by simpa using hown.1
 have hlen:(xs++strCells s).length=(n+s.size)*1:=by rw [la0,hxl,strCells_length,Nat.mul_one]
 have hzz:(Value.int IntKind.u8 0).cells=([.int .u8 0]:List Value).toArray:=rfl
 have anew:∀ (old:Nat),∃ w',w'=w.drew.alloc (.cells (xs.toArray++(strCells s).toArray++Builtin.zeroCells (Value.int .u8 0).cells (grownCap w (n+s.size) old e - (n+s.size))) e) /\
   w'.ownsRow base e 1 (.slice (some ⟨w.heap.size,0,none⟩) (n+s.size) (grownCap w (n+s.size) old e)) (n+s.size) (xs++strCells s)/\w.grownBy w' v.ownBlock/\SpareLoc w v (.slice (some ⟨w.heap.size,0,none⟩) (n+s.size) (grownCap w (n+s.size) old e)):=fun old=>by
  refine⟨_,rfl,?_,⟨rfl,rfl,rfl,by simp,fun k hk _=>heap_alloc_old w.drew _ hk⟩,fun g hg=>.inr (by simp [Value.ownBlock] at hg;omega)⟩
  have:=(fresh_spare w.drew base e [.int .u8 0] (by decide) (n+s.size) (grownCap w (n+s.size) old e) (xs++strCells s) hlen (grownCap_ge w (n+s.size) old e) (grownCap_le_maxLen w (n+s.size) old e h63) hbase).own
  have e2:xs.toArray++(strCells s).toArray=(xs++strCells s).toArray:=by simp
  rw [e2,hzz]
  exact this
 rcases hown.2 with ⟨rfl,rfl⟩ | ⟨g,cap,cur,rfl,hbg,hg,hnc,hcm,hcs,htake⟩
 ·
  have hx:xs=[]:=List.eq_nil_of_length_eq_zero hxl
  subst hx
  by_cases hm:s.size=0
  ·
   have hn:strCells s=[]:=List.eq_nil_of_length_eq_zero (by rw [strCells_length];exact hm)
   refine⟨.slice none 0 0,w,?_,by rw [hm,hn];exact World.ownsRow_nil w base e 1,⟨rfl,rfl,rfl,Nat.le_refl _,fun _ _ _=>rfl⟩,fun g hg=>Or.inl hg⟩
   have hf:=run_firstCells_string (P:=P) w 1 s
   rw [hm] at hf
   simp [Builtin.append_,run_underlying ht,run_underlying hu,sizeOf,typeInfo,hi,hsize,Builtin.lenOf,hm,hf]
  ·
   have hr:=run_append_nil_string (P:=P) w t u ty e i (.int .u8 0) ht hu hi hz s (by omega) (by omega) (by rw [hby];omega)
   obtain⟨w',hw,q1,q2,q4⟩:=anew 0
   have e1:(s.data.map fun b=>Value.int .u8 b.toNat)=(strCells s).toArray:=by
    apply Array.ext'
    simp [strCells]
   rw [e1] at hr
   refine⟨_,w',?_,q1,q2,q4⟩
   rw [hr,hw]
   simp only [Nat.zero_add,List.nil_append,Array.empty_append]
 ·
  by_cases hroom:n+s.size<=cap
  ·
   have hcs':cur.size=cap:=by simpa using hcs
   have hr:=run_append_room_string (P:=P) w t u ty e i ht hu hi hsize g n cap cur hg s hroom (by omega)
   refine⟨_,_,hr,⟨hlen,.inr ⟨g,cap,_,rfl,hbg,setRow_heap w g cur _ e _ hg,hroom,hcm,?_,?_⟩⟩,⟨rfl,rfl,rfl,by simp,fun k _ hk=>setRow_other w g k _ (fun e=>hk (by simp [Value.ownBlock,e]))⟩,fun g hg=>.inl hg⟩
   ·
    simp only [List.size_toArray,la0,List.length_take,List.length_drop,Array.length_toList,strCells_length]
    omega
   ·
    have ht':cur.toList.take n=xs:=by simpa using htake
    rw [ht',<-hlen]
    exact List.take_left
  ·
   have holds:∀ j u,xs[j]?=some u->w.cell? ((⟨g,0,none⟩:Addr).add j)=some u:=hown.cells (g:=g) rfl
   have hr:=run_append_grow_string (P:=P) w t u ty e i (.int .u8 0) ht hu hi hz ⟨g,0,none⟩ n cap xs (by rw [hsize];simpa using hxl) holds s (by omega) (by omega) (by rw [hby];exact growslice_fits (by omega) (by omega))
   obtain⟨w',hw,q1,q2,q4⟩:=anew cap
   refine⟨_,w',?_,q1,q2,q4⟩
   rw [hr,hw]
theorem wpList_append_string_loc {w:World} {ops:Array Oper} {rest:List Oper} {o:Oper} {a:Act} {Q:Exit->Act->World->Prop} (hgd:o.guard=none) (sl x:Operand) (t u:TypeId)
  (ho:o.op=.call { callee:=.builtin .append,args:=#[sl,x],argTypes:=#[t,u] })
  (base:Nat) (e:TypeId) (i:TypeInfo) (ht:P.underlying t=some (.slice e)) (hu:P.underlying u=some .string) (hi:P.info? e=some i) (hz:i.zero=some (.int .u8 0))
  (hsize:i.size=1) (hby:i.bytes=1)
  (v:Value) (n:Nat) (xs:List Value) (hs:a.eval sl=v) (hown:w.ownsRow base e 1 v n xs) (s:ByteArray) (hx:a.eval x=.string s)
  (h63:n+s.size<=maxLen) (hbytes:n+s.size<=140737488355328) (hbase:base<=w.heap.size)
  (h:∀ v' w',w'.ownsRow base e 1 v' (n+s.size) (xs++strCells s)->w.grownBy w' v.ownBlock->SpareLoc w v v'->wpList P ops Q rest (a.put o.dst v') w'):wpList P ops Q (o::rest) a w:=by
 refine wpList_plain hgd fun K hK=>?_
 obtain⟨v',w',hr,h2,h3,h4⟩:=run_append_string_loc (P:=P) w base t u o.type e i ht hu hi hz hsize hby v n xs hown s h63 hbytes hbase
 unfold Oper.wp execOp
 simp only [ho,resolve,invoke,builtin,Sem.run_bind,Sem.run_pure,Result.andThen_ok,List.map_toArray,List.map_cons,List.map_nil,hs,hx,hr]
 exact hK _ _ (h v' w' h2 h3 h4)
end
end Go.Proofs.YtpeoonnglnchnaaGreatDoor.Spare
namespace Go.Proofs.YtpeoonnglnchnaaGreatDoor.Mrk
open Go.Lib (hid)
open RowKit YtpeoonnglnchnaaGreatDoor.Spare
def OwnB (w:World) (base:Nat) (v:Value) (l:List Nat):Prop:=w.ownsRow base 5 1 v l.length (l.flatMap enB)
def OnPost (base:Nat) (v:Value) (l:List Nat) (w:World) (e:Ending) (w':World):Prop:=∃ v',e=.returned v'/\OwnB w' base v' l/\w.grownBy w' v.ownBlock/\SpareLoc w v v'
theorem OwnB.form {w:World} {base:Nat} {v:Value} {l:List Nat} (h:OwnB w base v l):∃ ao cap,v=.slice ao l.length cap:=by
 rcases h.2 with ⟨rfl,h0⟩ | ⟨g,cap,cur,rfl,_⟩
 . rw [h0];exact⟨_,_,rfl⟩
 . exact⟨_,_,rfl⟩
theorem low_of {w:World} {base:Nat} {e:TypeId} {bb boff n cap:Nat} {xs:List Value} (h:w.ownsRow base e 1 (.slice (some ⟨bb,boff,none⟩) n cap) n xs):base<=bb/\bb<w.heap.size:=by
 rcases h.2 with ⟨h1,_⟩ | ⟨g,cap',cur,h1,h2,h3,_⟩
 . cases h1
 ·
  cases h1
  exact⟨h2,(ag0.1 h3).1⟩
theorem grown_below {w w':World} {row:Option Nat} (h:Below w.heap.size w w'):w.grownBy w' row:=⟨h.os,h.tape,h.output,h.size,fun k hk _=>h.block k hk⟩
theorem put_onto (n base:Nat) (v:Value) (bs:List Nat) (w:World) (hn:n<9223372036854775808) (hv:OwnB w base v bs) (hbase:base<=w.heap.size) (hbs:bs.length<=1000000) :
  Calls Tryz.prog 43 #[v,.int .i64 n] w (OnPost base v (bs++putF n) w):=by
 obtain⟨vo,vc,rfl⟩:=hv.form
 obtain⟨kb,hkb⟩:∃ k,k=bs.length:=⟨_,rfl⟩
 rw [<-hkb] at hv hbs ⊢
 have HKB:=hid hkb
 have HV:=hid hv
 have HVB:=hid (show ∀ k,(Value.slice vo kb vc).ownBlock=some k->base<=k/\k<w.heap.size from fun k hk=>World.ownsRow.lt hv k hk)
 clear hv hkb
 obtain⟨i0,hi,hz0,hz1,hz2⟩:=info_parts_B
 have HI:=hid hi
 have HZ0:=hid hz0
 have HZ1:=hid hz1
 have HZ2:=hid hz2
 have hten:=low_ten (n:=n) (by omega)
 obtain⟨L,hL⟩:∃ L,L=low n:=⟨_,rfl⟩
 rw [<-hL] at hten
 have HLL:=hid hL
 have HT:=hid hten
 have hm0:max (n:Int) 0=n:=by omega
 clear hi hz0 hz1 hz2 hL hten
 go_enter Tryz.func43,Tryz.ntmps43
 go_wp2_with fail
 go_loopw [1,5,6] (fun nv lv kv wr=>∃ (m k:Nat) (done:List Nat) (ok:Bool) (ao:Option Addr) (cap:Nat),nv=.int .i64 m/\lv=.slice ao k cap/\kv=.bool ok/\m<=n/\Hid (done.length=k)/\Hid (if ok then L=done++low m else L=done) /\
  Hid (wr.ownsRow w.heap.size 5 1 (.slice ao k cap) k (done.flatMap enB))/\Below w.heap.size w wr) (fun nv _ kv _=>2*(intOf nv).toNat+(match kv with | .bool true=>1 | _=>0))
 case atStart=>exact⟨n,0,[],true,none,0,rfl,rfl,rfl,by omega,hid rfl,hid (by rw [HLL.out];simp),hid (World.ownsRow_nil _ _ _ _),Below.refl _ _⟩
 case round=>
  obtain⟨m,k,done,ok,ao,cap,rfl,rfl,rfl,hmn,hdl,hrest,hown,hbl⟩:=hrel
  have hsz:=hbl.size
  cases ok
  ·
   have hLd:L=done:=hrest.out
   have hl:BRow wr (.slice ao k cap) L:=by rw [hLd];exact Lst.owned enB_len (by decide) hdl.out.symm hown.out
   have hkl:L.length=k:=by rw [hLd];exact hdl.out
   have hpos:0<k:=by
    have:=List.length_pos_iff.2 (low_ne n)
    rw [<-HLL.out] at this;omega
   obtain⟨p,rfl⟩:∃ p,k=p+1:=⟨k - 1,by omega⟩
   obtain⟨W1,rfl⟩:∃ W1:World,W1=wr:=⟨_,rfl⟩
   have HL:=hid hl
   have HLO:=hid (show ∀ bb boff,ao=some ⟨bb,boff,none⟩->w.heap.size<=bb from fun bb boff e=>by
    have h:=hown.out
    rw [e] at h
    exact (low_of h).1)
   have HV1:=hid (show OwnB W1 base (.slice vo kb vc) bs from World.ownsRow.kept HV.out (row:=none) ⟨hbl.os,hbl.tape,hbl.output,hbl.size,fun k hk _=>hbl.block k hk⟩ (by cases (Value.slice vo kb vc).ownBlock <;> simp))
   have HKL:=hid hkl
   have hp10:p<10:=by have:=HT.out;omega
   have hlow:∀ c∈L,c<128:=by rw [HLL.out];exact low_lt n
   have HLOW:=hid hlow
   have hp1:IntKind.i64.wrap (((p+1:Nat):Int) - 1)=(p:Int):=by rw [IntWalk.i64_in _ (by omega)];omega
   have hp2:IntKind.i64.wrap ((p:Int)+1 - 1)=(p:Int):=by rw [IntWalk.i64_in _ (by omega)];omega
   clear hl hkl hlow hrest hown hdl hLd
   go_wp2_with fail
   go_loopw [0,7] (fun bv iv wr=>∃ (i k:Nat) (done:List Nat) (ao:Option Addr) (cap:Nat),iv=.int .i64 i/\bv=.slice ao (kb+k) cap/\i<=p/\k<=10/\Hid (done.length=k/\done=hi (L.drop (i+1)).reverse) /\
    Hid (wr.ownsRow base 5 1 (.slice ao (kb+k) cap) (kb+k) ((bs++done).flatMap enB))/\Hid (W1.grownBy wr (Value.slice vo kb vc).ownBlock)/\Hid (SpareLoc W1 (.slice vo kb vc) (.slice ao (kb+k) cap))) (fun _ iv _=>(intOf iv).toNat)
   case atStart=>exact⟨p,0,[],vo,vc,by first | rfl | rw [hp1] | rw [hp2],rfl,by omega,by omega,hid ⟨rfl,by rw [List.drop_of_length_le (by have:=HKL.out;omega)];rfl⟩,hid (by rw [List.append_nil];have h:=HV1.out;unfold OwnB at h;rw [<-HKB.out] at h;exact h),hid (World.grownBy.refl _ _),hid (fun g hg=>Or.inl hg)⟩
   case round=>
    obtain⟨i,k,done,bo,bc,rfl,rfl,hip,hk10,hd,hown,hg1,hlc⟩:=hrel
    have hil:i<L.length:=by have:=HKL.out;omega
    have hs1:=hg1.out.size
    have hbw:base<=wr.heap.size:=by omega
    obtain⟨c,hc⟩:∃ c,L[i]?=some c:=⟨_,ge0 hil⟩
    have hce:L[i]=c:=(gs0.1 hc).2
    obtain⟨bb,boff,rfl,hbb,hcell0⟩:=byte_at HL.out hc
    have hcell:wr.cell? ⟨bb,boff+i,none⟩=some (.int .u8 c):=(World.cell?_of_block (a:=⟨bb,boff+i,none⟩) (hg1.out.block bb hbb (fun e=>by have h1:=(HVB.out bb e.symm).2;have h2:=HLO.out bb boff rfl;omega))).trans hcell0
    have hc128:=HLOW.out c (mg0 hc)
    by_cases hpos:0<i
    ·
     have hor:bits .or .u8 (c:Int) 128=((c+128:Nat):Int):=by rw [<-or128 c hc128];exact u8_or_nat c 128 (by omega) (by decide)
     have hd':(done++[c+128]).length=k+1/\done++[c+128]=hi (L.drop (i - 1+1)).reverse:=by
      refine⟨by rw [la0,hd.out.1];rfl,?_⟩
      rw [show i - 1+1=i by omega,dg0 hil,hce,List.reverse_cons]
      unfold hi
      rw [List.map_append,hd.out.2]
      rfl
     obtain⟨c',hc'⟩:∃ c',c'=c+128:=⟨_,rfl⟩
     rw [<-hc'] at hor hd'
     have hk1:k+1<=10:=by
      have e:(done++[c']).length<=L.length:=by
       rw [hd'.2];unfold Mrk.hi;rw [lm0,List.length_reverse,List.length_drop];omega
      rw [hd'.1] at e
      have:=HT.out
      omega
     obtain⟨j,hj⟩:∃ j,i=j+1:=⟨i - 1,by omega⟩
     subst hj
     rw [Nat.add_sub_cancel] at hd'
     have HD:=hid hd'
     have hw:IntKind.i64.wrap (((j+1:Nat):Int) - 1)=(j:Int):=by rw [IntWalk.i64_in _ (by omega)];omega
     have hw2:IntKind.i64.wrap ((j:Int)+1 - 1)=(j:Int):=by rw [IntWalk.i64_in _ (by omega)];omega
     clear hcell0 hc hce hil hd hd' hc'
     go_wp2_with (at_builtin;refine wpList_append_own_loc rfl _ _ 31 rfl base 5 i0 (.int .u8 0) [.int .u8 0] 1 Tryz.underlying31 HI.out HZ0.out rfl HZ1.out HZ2.out (by decide) (.slice bo (kb+k) bc) _ _ rfl (hown.out.alloc _) ⟨_,0,none⟩ 1 1 (enB c') rfl (by decide) rfl ?c1 ?c2 ?c3 ?c4 ?c5 ?_)
     case c1=>exact new_cells _ (enB c') _
     case c2=>intro u hu;simp at hu;subst hu;rfl
     case c3=>unfold maxLen;omega
     case c4=>omega
     case c5=>simp;omega
     intro v' w3 hown3 hgrow3 hloc3
     have hgr3:W1.grownBy w3 (Value.slice vo kb vc).ownBlock:=(hg1.out.andThen (World.grownBy_alloc wr _ none) (fun j hj=>by cases hj)).andThen hgrow3 (fun j hj=>(hlc.out j hj).symm)
     have hlc3:SpareLoc W1 (.slice vo kb vc) v':=fun g hg=>by
      rcases hloc3 g hg with h | h
      . exact hlc.out g h
      . right;simp at h;omega
     rcases hown3.2 with ⟨_,h00⟩ | ⟨gg,gc,cur,rfl,hrest⟩
     . omega
     have R:=hid hown3
     have G3:=hid hgr3
     have L3:=hid hlc3
     clear hown3 hgrow3 hrest hloc3 hgr3 hlc3
     go_wp2_with fail
     go_roundw
     case rel=>exact⟨j,k+1,done++[c'],_,_,rfl,rfl,by omega,hk1,HD,hid (by rw [fa0,fa0,List.flatMap_singleton];exact R.out),G3,L3⟩
     case measure=>simp [intOf]
    ·
     obtain rfl:i=0:=by omega
     have hput:putF n=done++[c]:=by
      unfold putF
      rw [<-HLL.out,hd.out.2,show 0+1=1 from rfl,List.drop_one]
      congr 1
      have h0:=low_head n
      rw [<-HLL.out,List.head?_eq_getElem?,hc] at h0
      simpa using h0.symm
     have HPUT:=hid hput
     have hk:=hd.out.1
     have HK:=hid hk
     have hcell':wr.cell? ⟨bb,boff,none⟩=some (.int .u8 c):=hcell
     clear hcell0 hc hce hil hd hput hk hcell
     go_wp2_with (at_builtin;refine wpList_append_own_loc rfl _ _ 31 rfl base 5 i0 (.int .u8 0) [.int .u8 0] 1 Tryz.underlying31 HI.out HZ0.out rfl HZ1.out HZ2.out (by decide) (.slice bo (kb+k) bc) _ _ rfl (hown.out.alloc _) ⟨_,0,none⟩ 1 1 (enB c) rfl (by decide) rfl ?c1 ?c2 ?c3 ?c4 ?c5 ?_)
     case c1=>exact new_cells _ (enB c) _
     case c2=>intro u hu;simp at hu;subst hu;rfl
     case c3=>unfold maxLen;omega
     case c4=>omega
     case c5=>simp;omega
     intro v' w3 hown3 hgrow3 hloc3
     have hgr3:W1.grownBy w3 (Value.slice vo kb vc).ownBlock:=(hg1.out.andThen (World.grownBy_alloc wr _ none) (fun j hj=>by cases hj)).andThen hgrow3 (fun j hj=>(hlc.out j hj).symm)
     have hlc3:SpareLoc W1 (.slice vo kb vc) v':=fun g hg=>by
      rcases hloc3 g hg with h | h
      . exact hlc.out g h
      . right;simp at h;omega
     rcases hown3.2 with ⟨_,h00⟩ | ⟨gg,gc,cur,rfl,hrest⟩
     . omega
     have R:=hid hown3
     have G3:=hid hgr3
     have L3:=hid hlc3
     clear hown3 hgrow3 hrest hloc3 hgr3 hlc3
     go_wp2_with fail
     go_ret
     refine⟨_,rfl,?_,(grown_below hbl).andThen G3.out (fun j hj=>Or.inr hj),fun g hg=>?_⟩
     ·
      unfold OwnB
      rw [HPUT.out,la0,la0,HK.out,<-HKB.out,fa0,fa0,List.flatMap_singleton]
      exact R.out
     ·
      rcases L3.out g hg with h | h
      . exact Or.inl h
      . right;omega
  ·
   obtain⟨c,hc⟩:∃ c,c=m % 128:=⟨_,rfl⟩
   obtain⟨q,hq⟩:∃ q,q=m / 128:=⟨_,rfl⟩
   have hLm:L=done++low m:=hrest.out
   have hnext:if decide (0<q) then L=(done++[c])++low q else L=done++[c]:=by
    by_cases hz:q=0
    . rw [if_neg (by simp;omega),hLm,low_small (by omega),hc,Nat.mod_eq_of_lt (by omega)]
    . rw [if_pos (by simp;omega),hLm,low_big (by omega),hc,hq];simp
   have HN:=hid hnext
   have hk10:k<=10:=by have h1:=HT.out;rw [hLm,la0,hdl.out] at h1;omega
   have hc128:c<128:=by omega
   have e1:(m:Int) / 128=(q:Int):=by omega
   have e2:bits .and .i64 (m:Int) 127=(c:Int):=by rw [i64_and127];omega
   have e3:=u8_nat c (by omega)
   have hqm:q<=m/\(0<m->q<m):=by omega
   have HDL:Hid ((done++[c]).length=k+1):=hid (by rw [la0,hdl.out];rfl)
   clear hc hq hLm hrest hnext hdl
   go_wp2_with (at_builtin;refine wpList_append_own _ rfl _ _ 31 rfl w.heap.size 5 i0 (.int .u8 0) 1 1 Tryz.underlying31 HI.out HZ0.out HZ1.out HZ2.out rfl (by decide) (.slice ao k cap) _ _ rfl (hown.out.alloc _) ⟨_,0,none⟩ 1 1 (enB c) rfl rfl ?c1 ?c2 ?c3 ?c4 ?c5 ?_)
   case c1=>exact new_cells _ (enB c) _
   case c2=>intro u hu;simp at hu;subst hu;rfl
   case c3=>unfold maxLen;omega
   case c4=>omega
   case c5=>simp;omega
   intro v' w3 hown3 hgrow3 _
   have hbl3:Below w.heap.size w w3:=(hbl.alloc hsz _).grown hgrow3 (by simp;omega) (fun k hk=>(World.ownsRow.lt hown.out k hk).1)
   rcases hown3.2 with ⟨_,h00⟩ | ⟨gg,gc,cur,rfl,hrest⟩
   . omega
   have R:=hid hown3
   clear hown3 hgrow3 hrest
   go_wp2_with fail
   go_roundw
   case rel=>exact⟨q,k+1,done++[c],decide (0<q),_,_,rfl,rfl,rfl,by omega,HDL,HN,hid (by rw [fa0,List.flatMap_singleton];exact R.out),hbl3⟩
   case measure=>
    simp only [intOf]
    by_cases hz:q=0
    . subst hz;simp
    ·
     have:decide (0<q)=true:=by simp;omega
     rw [this];simp;omega
